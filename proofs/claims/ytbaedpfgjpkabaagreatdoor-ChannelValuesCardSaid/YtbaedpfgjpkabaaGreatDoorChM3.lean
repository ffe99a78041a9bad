import Derived.Test.YtbaedpfgjpkabaaGreatDoorChCodeb
import Derived.Test.YtbaedpfgjpkabaaGreatDoorFwC
import Derived.Test.YtbaedpfgjpkabaaGreatDoorProg
import Derived.KernelRfl
namespace Go.Proofs.YtbaedpfgjpkabaaGreatDoor
open Go Fw
set_option maxRecDepth 100000
theorem m7 : mFn Tryz.prog Tryz.f7 c7 = true := by kernel_rfl
theorem m16 : mFn Tryz.prog Tryz.f16 c16 = true := by kernel_rfl
theorem m21 : mFn Tryz.prog Tryz.f21 c21 = true := by kernel_rfl
theorem m23 : mFn Tryz.prog Tryz.f23 c23 = true := by kernel_rfl
theorem m29 : mFn Tryz.prog Tryz.f29 c29 = true := by kernel_rfl
theorem m38 : mFn Tryz.prog Tryz.f38 c38 = true := by kernel_rfl
theorem m49 : mFn Tryz.prog Tryz.f49 c49 = true := by kernel_rfl
theorem m51 : mFn Tryz.prog Tryz.f51 c51 = true := by kernel_rfl
theorem m55 : mFn Tryz.prog Tryz.f55 c55 = true := by kernel_rfl
theorem m59 : mFn Tryz.prog Tryz.f59 c59 = true := by kernel_rfl
theorem m60 : mFn Tryz.prog Tryz.f60 c60 = true := by kernel_rfl
theorem m62 : mFn Tryz.prog Tryz.f62 c62 = true := by kernel_rfl
theorem m71 : mFn Tryz.prog Tryz.f71 c71 = true := by kernel_rfl
theorem m73 : mFn Tryz.prog Tryz.f73 c73 = true := by kernel_rfl
theorem m83 : mFn Tryz.prog Tryz.f83 c83 = true := by kernel_rfl
theorem m84 : mFn Tryz.prog Tryz.f84 c84 = true := by kernel_rfl
theorem m88 : mFn Tryz.prog Tryz.f88 c88 = true := by kernel_rfl
theorem m90 : mFn Tryz.prog Tryz.f90 c90 = true := by kernel_rfl
theorem m105 : mFn Tryz.prog Tryz.f105 c105 = true := by kernel_rfl
theorem m108 : mFn Tryz.prog Tryz.f108 c108 = true := by kernel_rfl
theorem m109 : mFn Tryz.prog Tryz.f109 c109 = true := by kernel_rfl
theorem m115 : mFn Tryz.prog Tryz.f115 c115 = true := by kernel_rfl
theorem m124 : mFn Tryz.prog Tryz.f124 c124 = true := by kernel_rfl
theorem m131 : mFn Tryz.prog Tryz.f131 c131 = true := by kernel_rfl
theorem m134 : mFn Tryz.prog Tryz.f134 c134 = true := by kernel_rfl
theorem m140 : mFn Tryz.prog Tryz.f140 c140 = true := by kernel_rfl
theorem m159 : mFn Tryz.prog Tryz.f159 c159 = true := by kernel_rfl
theorem m174 : mFn Tryz.prog Tryz.f174 c174 = true := by kernel_rfl
theorem m183 : mFn Tryz.prog Tryz.f183 c183 = true := by kernel_rfl
theorem m184 : mFn Tryz.prog Tryz.f184 c184 = true := by kernel_rfl
theorem m223 : mFn Tryz.prog Tryz.f223 c223 = true := by kernel_rfl
theorem m268 : mFn Tryz.prog Tryz.f268 c268 = true := by kernel_rfl
theorem m269 : mFn Tryz.prog Tryz.f269 c269 = true := by kernel_rfl
theorem m270 : mFn Tryz.prog Tryz.f270 c270 = true := by kernel_rfl
end Go.Proofs.YtbaedpfgjpkabaaGreatDoor
