import Derived.Test.YthiklnppmlmjeaaDoorToCodeb
import Derived.Test.YthiklnppmlmjeaaDoorFwC
import Derived.Test.YthiklnppmlmjeaaDoorProg
import Derived.KernelRfl
namespace Go.Proofs.YthiklnppmlmjeaaDoor
open Go Fw
set_option maxRecDepth 100000
theorem m10 : mFn Tryd.prog Tryd.f10 c10 = true := by kernel_rfl
theorem m16 : mFn Tryd.prog Tryd.f16 c16 = true := by kernel_rfl
theorem m17 : mFn Tryd.prog Tryd.f17 c17 = true := by kernel_rfl
theorem m19 : mFn Tryd.prog Tryd.f19 c19 = true := by kernel_rfl
theorem m21 : mFn Tryd.prog Tryd.f21 c21 = true := by kernel_rfl
theorem m51 : mFn Tryd.prog Tryd.f51 c51 = true := by kernel_rfl
theorem m52 : mFn Tryd.prog Tryd.f52 c52 = true := by kernel_rfl
theorem m54 : mFn Tryd.prog Tryd.f54 c54 = true := by kernel_rfl
theorem m61 : mFn Tryd.prog Tryd.f61 c61 = true := by kernel_rfl
theorem m63 : mFn Tryd.prog Tryd.f63 c63 = true := by kernel_rfl
theorem m80 : mFn Tryd.prog Tryd.f80 c80 = true := by kernel_rfl
theorem m82 : mFn Tryd.prog Tryd.f82 c82 = true := by kernel_rfl
theorem m102 : mFn Tryd.prog Tryd.f102 c102 = true := by kernel_rfl
theorem m105 : mFn Tryd.prog Tryd.f105 c105 = true := by kernel_rfl
theorem m108 : mFn Tryd.prog Tryd.f108 c108 = true := by kernel_rfl
theorem m109 : mFn Tryd.prog Tryd.f109 c109 = true := by kernel_rfl
theorem m111 : mFn Tryd.prog Tryd.f111 c111 = true := by kernel_rfl
theorem m135 : mFn Tryd.prog Tryd.f135 c135 = true := by kernel_rfl
theorem m136 : mFn Tryd.prog Tryd.f136 c136 = true := by kernel_rfl
theorem m145 : mFn Tryd.prog Tryd.f145 c145 = true := by kernel_rfl
theorem m151 : mFn Tryd.prog Tryd.f151 c151 = true := by kernel_rfl
theorem m175 : mFn Tryd.prog Tryd.f175 c175 = true := by kernel_rfl
theorem m181 : mFn Tryd.prog Tryd.f181 c181 = true := by kernel_rfl
theorem m182 : mFn Tryd.prog Tryd.f182 c182 = true := by kernel_rfl
theorem m184 : mFn Tryd.prog Tryd.f184 c184 = true := by kernel_rfl
theorem m194 : mFn Tryd.prog Tryd.f194 c194 = true := by kernel_rfl
theorem m200 : mFn Tryd.prog Tryd.f200 c200 = true := by kernel_rfl
theorem m202 : mFn Tryd.prog Tryd.f202 c202 = true := by kernel_rfl
theorem m203 : mFn Tryd.prog Tryd.f203 c203 = true := by kernel_rfl
end Go.Proofs.YthiklnppmlmjeaaDoor
