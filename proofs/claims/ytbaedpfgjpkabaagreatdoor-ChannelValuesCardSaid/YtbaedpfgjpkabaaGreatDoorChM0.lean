import Derived.Test.YtbaedpfgjpkabaaGreatDoorChCodeb
import Derived.Test.YtbaedpfgjpkabaaGreatDoorFwC
import Derived.Test.YtbaedpfgjpkabaaGreatDoorProg
import Derived.KernelRfl
namespace Go.Proofs.YtbaedpfgjpkabaaGreatDoor
open Go Fw
set_option maxRecDepth 100000
theorem m34 : mFn Tryz.prog Tryz.f34 c34 = true := by kernel_rfl
theorem m58 : mFn Tryz.prog Tryz.f58 c58 = true := by kernel_rfl
theorem m63 : mFn Tryz.prog Tryz.f63 c63 = true := by kernel_rfl
theorem m70 : mFn Tryz.prog Tryz.f70 c70 = true := by kernel_rfl
theorem m85 : mFn Tryz.prog Tryz.f85 c85 = true := by kernel_rfl
theorem m86 : mFn Tryz.prog Tryz.f86 c86 = true := by kernel_rfl
theorem m92 : mFn Tryz.prog Tryz.f92 c92 = true := by kernel_rfl
theorem m104 : mFn Tryz.prog Tryz.f104 c104 = true := by kernel_rfl
theorem m111 : mFn Tryz.prog Tryz.f111 c111 = true := by kernel_rfl
theorem m113 : mFn Tryz.prog Tryz.f113 c113 = true := by kernel_rfl
theorem m121 : mFn Tryz.prog Tryz.f121 c121 = true := by kernel_rfl
theorem m122 : mFn Tryz.prog Tryz.f122 c122 = true := by kernel_rfl
theorem m123 : mFn Tryz.prog Tryz.f123 c123 = true := by kernel_rfl
theorem m132 : mFn Tryz.prog Tryz.f132 c132 = true := by kernel_rfl
theorem m139 : mFn Tryz.prog Tryz.f139 c139 = true := by kernel_rfl
theorem m143 : mFn Tryz.prog Tryz.f143 c143 = true := by kernel_rfl
theorem m144 : mFn Tryz.prog Tryz.f144 c144 = true := by kernel_rfl
theorem m145 : mFn Tryz.prog Tryz.f145 c145 = true := by kernel_rfl
theorem m146 : mFn Tryz.prog Tryz.f146 c146 = true := by kernel_rfl
theorem m149 : mFn Tryz.prog Tryz.f149 c149 = true := by kernel_rfl
theorem m157 : mFn Tryz.prog Tryz.f157 c157 = true := by kernel_rfl
theorem m161 : mFn Tryz.prog Tryz.f161 c161 = true := by kernel_rfl
theorem m163 : mFn Tryz.prog Tryz.f163 c163 = true := by kernel_rfl
theorem m164 : mFn Tryz.prog Tryz.f164 c164 = true := by kernel_rfl
theorem m177 : mFn Tryz.prog Tryz.f177 c177 = true := by kernel_rfl
theorem m178 : mFn Tryz.prog Tryz.f178 c178 = true := by kernel_rfl
theorem m189 : mFn Tryz.prog Tryz.f189 c189 = true := by kernel_rfl
theorem m199 : mFn Tryz.prog Tryz.f199 c199 = true := by kernel_rfl
theorem m202 : mFn Tryz.prog Tryz.f202 c202 = true := by kernel_rfl
theorem m212 : mFn Tryz.prog Tryz.f212 c212 = true := by kernel_rfl
theorem m222 : mFn Tryz.prog Tryz.f222 c222 = true := by kernel_rfl
end Go.Proofs.YtbaedpfgjpkabaaGreatDoor
