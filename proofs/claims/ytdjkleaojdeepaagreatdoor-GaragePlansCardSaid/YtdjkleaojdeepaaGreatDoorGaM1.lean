import Derived.Test.YtdjkleaojdeepaaGreatDoorGaCodeb
import Derived.Test.YtdjkleaojdeepaaGreatDoorFwC
import Derived.Test.YtdjkleaojdeepaaGreatDoorProg
import Derived.KernelRfl
namespace Go.Proofs.YtdjkleaojdeepaaGreatDoor
open Go Fw
set_option maxRecDepth 100000
theorem m21 : mFn Tryz.prog Tryz.f21 c21 = true := by kernel_rfl
theorem m42 : mFn Tryz.prog Tryz.f42 c42 = true := by kernel_rfl
theorem m51 : mFn Tryz.prog Tryz.f51 c51 = true := by kernel_rfl
theorem m70 : mFn Tryz.prog Tryz.f70 c70 = true := by kernel_rfl
theorem m73 : mFn Tryz.prog Tryz.f73 c73 = true := by kernel_rfl
theorem m90 : mFn Tryz.prog Tryz.f90 c90 = true := by kernel_rfl
theorem m92 : mFn Tryz.prog Tryz.f92 c92 = true := by kernel_rfl
theorem m93 : mFn Tryz.prog Tryz.f93 c93 = true := by kernel_rfl
theorem m105 : mFn Tryz.prog Tryz.f105 c105 = true := by kernel_rfl
theorem m117 : mFn Tryz.prog Tryz.f117 c117 = true := by kernel_rfl
theorem m135 : mFn Tryz.prog Tryz.f135 c135 = true := by kernel_rfl
theorem m136 : mFn Tryz.prog Tryz.f136 c136 = true := by kernel_rfl
theorem m141 : mFn Tryz.prog Tryz.f141 c141 = true := by kernel_rfl
theorem m143 : mFn Tryz.prog Tryz.f143 c143 = true := by kernel_rfl
theorem m147 : mFn Tryz.prog Tryz.f147 c147 = true := by kernel_rfl
theorem m157 : mFn Tryz.prog Tryz.f157 c157 = true := by kernel_rfl
theorem m158 : mFn Tryz.prog Tryz.f158 c158 = true := by kernel_rfl
theorem m164 : mFn Tryz.prog Tryz.f164 c164 = true := by kernel_rfl
theorem m172 : mFn Tryz.prog Tryz.f172 c172 = true := by kernel_rfl
theorem m182 : mFn Tryz.prog Tryz.f182 c182 = true := by kernel_rfl
theorem m194 : mFn Tryz.prog Tryz.f194 c194 = true := by kernel_rfl
theorem m196 : mFn Tryz.prog Tryz.f196 c196 = true := by kernel_rfl
theorem m198 : mFn Tryz.prog Tryz.f198 c198 = true := by kernel_rfl
theorem m222 : mFn Tryz.prog Tryz.f222 c222 = true := by kernel_rfl
theorem m225 : mFn Tryz.prog Tryz.f225 c225 = true := by kernel_rfl
theorem m226 : mFn Tryz.prog Tryz.f226 c226 = true := by kernel_rfl
theorem m229 : mFn Tryz.prog Tryz.f229 c229 = true := by kernel_rfl
theorem m230 : mFn Tryz.prog Tryz.f230 c230 = true := by kernel_rfl
theorem m235 : mFn Tryz.prog Tryz.f235 c235 = true := by kernel_rfl
theorem m241 : mFn Tryz.prog Tryz.f241 c241 = true := by kernel_rfl
theorem m243 : mFn Tryz.prog Tryz.f243 c243 = true := by kernel_rfl
theorem m245 : mFn Tryz.prog Tryz.f245 c245 = true := by kernel_rfl
theorem m249 : mFn Tryz.prog Tryz.f249 c249 = true := by kernel_rfl
end Go.Proofs.YtdjkleaojdeepaaGreatDoor
