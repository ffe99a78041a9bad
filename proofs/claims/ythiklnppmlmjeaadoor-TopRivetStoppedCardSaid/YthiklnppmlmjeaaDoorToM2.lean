import Derived.Test.YthiklnppmlmjeaaDoorToCodeb
import Derived.Test.YthiklnppmlmjeaaDoorFwC
import Derived.Test.YthiklnppmlmjeaaDoorProg
import Derived.KernelRfl
namespace Go.Proofs.YthiklnppmlmjeaaDoor
open Go Fw
set_option maxRecDepth 100000
theorem m4 : mFn Tryd.prog Tryd.f4 c4 = true := by kernel_rfl
theorem m15 : mFn Tryd.prog Tryd.f15 c15 = true := by kernel_rfl
theorem m22 : mFn Tryd.prog Tryd.f22 c22 = true := by kernel_rfl
theorem m23 : mFn Tryd.prog Tryd.f23 c23 = true := by kernel_rfl
theorem m24 : mFn Tryd.prog Tryd.f24 c24 = true := by kernel_rfl
theorem m26 : mFn Tryd.prog Tryd.f26 c26 = true := by kernel_rfl
theorem m27 : mFn Tryd.prog Tryd.f27 c27 = true := by kernel_rfl
theorem m29 : mFn Tryd.prog Tryd.f29 c29 = true := by kernel_rfl
theorem m30 : mFn Tryd.prog Tryd.f30 c30 = true := by kernel_rfl
theorem m44 : mFn Tryd.prog Tryd.f44 c44 = true := by kernel_rfl
theorem m45 : mFn Tryd.prog Tryd.f45 c45 = true := by kernel_rfl
theorem m47 : mFn Tryd.prog Tryd.f47 c47 = true := by kernel_rfl
theorem m48 : mFn Tryd.prog Tryd.f48 c48 = true := by kernel_rfl
theorem m50 : mFn Tryd.prog Tryd.f50 c50 = true := by kernel_rfl
theorem m58 : mFn Tryd.prog Tryd.f58 c58 = true := by kernel_rfl
theorem m62 : mFn Tryd.prog Tryd.f62 c62 = true := by kernel_rfl
theorem m64 : mFn Tryd.prog Tryd.f64 c64 = true := by kernel_rfl
theorem m69 : mFn Tryd.prog Tryd.f69 c69 = true := by kernel_rfl
theorem m73 : mFn Tryd.prog Tryd.f73 c73 = true := by kernel_rfl
theorem m74 : mFn Tryd.prog Tryd.f74 c74 = true := by kernel_rfl
theorem m81 : mFn Tryd.prog Tryd.f81 c81 = true := by kernel_rfl
theorem m86 : mFn Tryd.prog Tryd.f86 c86 = true := by kernel_rfl
theorem m106 : mFn Tryd.prog Tryd.f106 c106 = true := by kernel_rfl
theorem m110 : mFn Tryd.prog Tryd.f110 c110 = true := by kernel_rfl
theorem m115 : mFn Tryd.prog Tryd.f115 c115 = true := by kernel_rfl
theorem m121 : mFn Tryd.prog Tryd.f121 c121 = true := by kernel_rfl
theorem m137 : mFn Tryd.prog Tryd.f137 c137 = true := by kernel_rfl
theorem m138 : mFn Tryd.prog Tryd.f138 c138 = true := by kernel_rfl
theorem m172 : mFn Tryd.prog Tryd.f172 c172 = true := by kernel_rfl
theorem m179 : mFn Tryd.prog Tryd.f179 c179 = true := by kernel_rfl
theorem m183 : mFn Tryd.prog Tryd.f183 c183 = true := by kernel_rfl
theorem m185 : mFn Tryd.prog Tryd.f185 c185 = true := by kernel_rfl
theorem m187 : mFn Tryd.prog Tryd.f187 c187 = true := by kernel_rfl
theorem m188 : mFn Tryd.prog Tryd.f188 c188 = true := by kernel_rfl
theorem m189 : mFn Tryd.prog Tryd.f189 c189 = true := by kernel_rfl
theorem m190 : mFn Tryd.prog Tryd.f190 c190 = true := by kernel_rfl
theorem m193 : mFn Tryd.prog Tryd.f193 c193 = true := by kernel_rfl
theorem m196 : mFn Tryd.prog Tryd.f196 c196 = true := by kernel_rfl
theorem m197 : mFn Tryd.prog Tryd.f197 c197 = true := by kernel_rfl
theorem m199 : mFn Tryd.prog Tryd.f199 c199 = true := by kernel_rfl
theorem m201 : mFn Tryd.prog Tryd.f201 c201 = true := by kernel_rfl
end Go.Proofs.YthiklnppmlmjeaaDoor
