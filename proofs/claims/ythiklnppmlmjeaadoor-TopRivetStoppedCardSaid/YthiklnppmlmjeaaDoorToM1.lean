import Derived.Test.YthiklnppmlmjeaaDoorToCodeb
import Derived.Test.YthiklnppmlmjeaaDoorFwC
import Derived.Test.YthiklnppmlmjeaaDoorProg
import Derived.KernelRfl
namespace Go.Proofs.YthiklnppmlmjeaaDoor
open Go Fw
set_option maxRecDepth 100000
theorem m17 : mFn Tryd.prog Tryd.f17 c17 = true := by kernel_rfl
theorem m21 : mFn Tryd.prog Tryd.f21 c21 = true := by kernel_rfl
theorem m25 : mFn Tryd.prog Tryd.f25 c25 = true := by kernel_rfl
theorem m63 : mFn Tryd.prog Tryd.f63 c63 = true := by kernel_rfl
theorem m66 : mFn Tryd.prog Tryd.f66 c66 = true := by kernel_rfl
theorem m68 : mFn Tryd.prog Tryd.f68 c68 = true := by kernel_rfl
theorem m72 : mFn Tryd.prog Tryd.f72 c72 = true := by kernel_rfl
theorem m77 : mFn Tryd.prog Tryd.f77 c77 = true := by kernel_rfl
theorem m78 : mFn Tryd.prog Tryd.f78 c78 = true := by kernel_rfl
theorem m80 : mFn Tryd.prog Tryd.f80 c80 = true := by kernel_rfl
theorem m82 : mFn Tryd.prog Tryd.f82 c82 = true := by kernel_rfl
theorem m83 : mFn Tryd.prog Tryd.f83 c83 = true := by kernel_rfl
theorem m87 : mFn Tryd.prog Tryd.f87 c87 = true := by kernel_rfl
theorem m105 : mFn Tryd.prog Tryd.f105 c105 = true := by kernel_rfl
theorem m108 : mFn Tryd.prog Tryd.f108 c108 = true := by kernel_rfl
theorem m109 : mFn Tryd.prog Tryd.f109 c109 = true := by kernel_rfl
theorem m111 : mFn Tryd.prog Tryd.f111 c111 = true := by kernel_rfl
theorem m113 : mFn Tryd.prog Tryd.f113 c113 = true := by kernel_rfl
theorem m114 : mFn Tryd.prog Tryd.f114 c114 = true := by kernel_rfl
theorem m116 : mFn Tryd.prog Tryd.f116 c116 = true := by kernel_rfl
theorem m117 : mFn Tryd.prog Tryd.f117 c117 = true := by kernel_rfl
theorem m135 : mFn Tryd.prog Tryd.f135 c135 = true := by kernel_rfl
theorem m136 : mFn Tryd.prog Tryd.f136 c136 = true := by kernel_rfl
theorem m139 : mFn Tryd.prog Tryd.f139 c139 = true := by kernel_rfl
theorem m140 : mFn Tryd.prog Tryd.f140 c140 = true := by kernel_rfl
theorem m151 : mFn Tryd.prog Tryd.f151 c151 = true := by kernel_rfl
theorem m153 : mFn Tryd.prog Tryd.f153 c153 = true := by kernel_rfl
theorem m154 : mFn Tryd.prog Tryd.f154 c154 = true := by kernel_rfl
theorem m175 : mFn Tryd.prog Tryd.f175 c175 = true := by kernel_rfl
theorem m181 : mFn Tryd.prog Tryd.f181 c181 = true := by kernel_rfl
theorem m182 : mFn Tryd.prog Tryd.f182 c182 = true := by kernel_rfl
theorem m184 : mFn Tryd.prog Tryd.f184 c184 = true := by kernel_rfl
theorem m194 : mFn Tryd.prog Tryd.f194 c194 = true := by kernel_rfl
theorem m200 : mFn Tryd.prog Tryd.f200 c200 = true := by kernel_rfl
theorem m202 : mFn Tryd.prog Tryd.f202 c202 = true := by kernel_rfl
theorem m203 : mFn Tryd.prog Tryd.f203 c203 = true := by kernel_rfl
end Go.Proofs.YthiklnppmlmjeaaDoor
