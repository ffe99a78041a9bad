import Derived.Test.YthiklnppmlmjeaaDoorToCodeb
import Derived.Test.YthiklnppmlmjeaaDoorFwC
import Derived.Test.YthiklnppmlmjeaaDoorProg
import Derived.KernelRfl
namespace Go.Proofs.YthiklnppmlmjeaaDoor
open Go Fw
set_option maxRecDepth 100000
theorem m7 : mFn Tryd.prog Tryd.f7 c7 = true := by kernel_rfl
theorem m8 : mFn Tryd.prog Tryd.f8 c8 = true := by kernel_rfl
theorem m28 : mFn Tryd.prog Tryd.f28 c28 = true := by kernel_rfl
theorem m43 : mFn Tryd.prog Tryd.f43 c43 = true := by kernel_rfl
theorem m56 : mFn Tryd.prog Tryd.f56 c56 = true := by kernel_rfl
theorem m57 : mFn Tryd.prog Tryd.f57 c57 = true := by kernel_rfl
theorem m59 : mFn Tryd.prog Tryd.f59 c59 = true := by kernel_rfl
theorem m60 : mFn Tryd.prog Tryd.f60 c60 = true := by kernel_rfl
theorem m65 : mFn Tryd.prog Tryd.f65 c65 = true := by kernel_rfl
theorem m67 : mFn Tryd.prog Tryd.f67 c67 = true := by kernel_rfl
theorem m70 : mFn Tryd.prog Tryd.f70 c70 = true := by kernel_rfl
theorem m71 : mFn Tryd.prog Tryd.f71 c71 = true := by kernel_rfl
theorem m75 : mFn Tryd.prog Tryd.f75 c75 = true := by kernel_rfl
theorem m76 : mFn Tryd.prog Tryd.f76 c76 = true := by kernel_rfl
theorem m79 : mFn Tryd.prog Tryd.f79 c79 = true := by kernel_rfl
theorem m84 : mFn Tryd.prog Tryd.f84 c84 = true := by kernel_rfl
theorem m107 : mFn Tryd.prog Tryd.f107 c107 = true := by kernel_rfl
theorem m112 : mFn Tryd.prog Tryd.f112 c112 = true := by kernel_rfl
theorem m118 : mFn Tryd.prog Tryd.f118 c118 = true := by kernel_rfl
theorem m119 : mFn Tryd.prog Tryd.f119 c119 = true := by kernel_rfl
theorem m120 : mFn Tryd.prog Tryd.f120 c120 = true := by kernel_rfl
theorem m122 : mFn Tryd.prog Tryd.f122 c122 = true := by kernel_rfl
theorem m141 : mFn Tryd.prog Tryd.f141 c141 = true := by kernel_rfl
theorem m152 : mFn Tryd.prog Tryd.f152 c152 = true := by kernel_rfl
theorem m155 : mFn Tryd.prog Tryd.f155 c155 = true := by kernel_rfl
theorem m174 : mFn Tryd.prog Tryd.f174 c174 = true := by kernel_rfl
theorem m176 : mFn Tryd.prog Tryd.f176 c176 = true := by kernel_rfl
theorem m177 : mFn Tryd.prog Tryd.f177 c177 = true := by kernel_rfl
theorem m178 : mFn Tryd.prog Tryd.f178 c178 = true := by kernel_rfl
theorem m180 : mFn Tryd.prog Tryd.f180 c180 = true := by kernel_rfl
theorem m186 : mFn Tryd.prog Tryd.f186 c186 = true := by kernel_rfl
theorem m191 : mFn Tryd.prog Tryd.f191 c191 = true := by kernel_rfl
theorem m192 : mFn Tryd.prog Tryd.f192 c192 = true := by kernel_rfl
theorem m195 : mFn Tryd.prog Tryd.f195 c195 = true := by kernel_rfl
theorem m198 : mFn Tryd.prog Tryd.f198 c198 = true := by kernel_rfl
theorem m204 : mFn Tryd.prog Tryd.f204 c204 = true := by kernel_rfl
theorem m205 : mFn Tryd.prog Tryd.f205 c205 = true := by kernel_rfl
theorem m206 : mFn Tryd.prog Tryd.f206 c206 = true := by kernel_rfl
end Go.Proofs.YthiklnppmlmjeaaDoor
