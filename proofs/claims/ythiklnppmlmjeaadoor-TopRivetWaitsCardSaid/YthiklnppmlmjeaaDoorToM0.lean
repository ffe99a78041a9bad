import Derived.Test.YthiklnppmlmjeaaDoorToCodeb
import Derived.Test.YthiklnppmlmjeaaDoorFwC
import Derived.Test.YthiklnppmlmjeaaDoorProg
import Derived.KernelRfl
namespace Go.Proofs.YthiklnppmlmjeaaDoor
open Go Fw
set_option maxRecDepth 100000
theorem m7 : mFn Tryd.prog Tryd.f7 c7 = true := by kernel_rfl
theorem m8 : mFn Tryd.prog Tryd.f8 c8 = true := by kernel_rfl
theorem m9 : mFn Tryd.prog Tryd.f9 c9 = true := by kernel_rfl
theorem m12 : mFn Tryd.prog Tryd.f12 c12 = true := by kernel_rfl
theorem m13 : mFn Tryd.prog Tryd.f13 c13 = true := by kernel_rfl
theorem m18 : mFn Tryd.prog Tryd.f18 c18 = true := by kernel_rfl
theorem m20 : mFn Tryd.prog Tryd.f20 c20 = true := by kernel_rfl
theorem m43 : mFn Tryd.prog Tryd.f43 c43 = true := by kernel_rfl
theorem m46 : mFn Tryd.prog Tryd.f46 c46 = true := by kernel_rfl
theorem m53 : mFn Tryd.prog Tryd.f53 c53 = true := by kernel_rfl
theorem m56 : mFn Tryd.prog Tryd.f56 c56 = true := by kernel_rfl
theorem m57 : mFn Tryd.prog Tryd.f57 c57 = true := by kernel_rfl
theorem m59 : mFn Tryd.prog Tryd.f59 c59 = true := by kernel_rfl
theorem m60 : mFn Tryd.prog Tryd.f60 c60 = true := by kernel_rfl
theorem m103 : mFn Tryd.prog Tryd.f103 c103 = true := by kernel_rfl
theorem m107 : mFn Tryd.prog Tryd.f107 c107 = true := by kernel_rfl
theorem m174 : mFn Tryd.prog Tryd.f174 c174 = true := by kernel_rfl
theorem m176 : mFn Tryd.prog Tryd.f176 c176 = true := by kernel_rfl
theorem m177 : mFn Tryd.prog Tryd.f177 c177 = true := by kernel_rfl
theorem m178 : mFn Tryd.prog Tryd.f178 c178 = true := by kernel_rfl
theorem m180 : mFn Tryd.prog Tryd.f180 c180 = true := by kernel_rfl
theorem m186 : mFn Tryd.prog Tryd.f186 c186 = true := by kernel_rfl
theorem m191 : mFn Tryd.prog Tryd.f191 c191 = true := by kernel_rfl
theorem m192 : mFn Tryd.prog Tryd.f192 c192 = true := by kernel_rfl
theorem m195 : mFn Tryd.prog Tryd.f195 c195 = true := by kernel_rfl
theorem m198 : mFn Tryd.prog Tryd.f198 c198 = true := by kernel_rfl
theorem m204 : mFn Tryd.prog Tryd.f204 c204 = true := by kernel_rfl
theorem m205 : mFn Tryd.prog Tryd.f205 c205 = true := by kernel_rfl
theorem m206 : mFn Tryd.prog Tryd.f206 c206 = true := by kernel_rfl
end Go.Proofs.YthiklnppmlmjeaaDoor
