import Derived.Test.YtfkacogfieiccaaGreatDoorBaCodeb
import Derived.Test.YtfkacogfieiccaaGreatDoorFwC
import Derived.Test.YtfkacogfieiccaaGreatDoorProg
import Derived.KernelRfl
namespace Go.Proofs.YtfkacogfieiccaaGreatDoor
open Go Fw
set_option maxRecDepth 100000
theorem m5 : mFn Tryz.prog Tryz.f5 c5 = true := by kernel_rfl
theorem m18 : mFn Tryz.prog Tryz.f18 c18 = true := by kernel_rfl
theorem m20 : mFn Tryz.prog Tryz.f20 c20 = true := by kernel_rfl
theorem m21 : mFn Tryz.prog Tryz.f21 c21 = true := by kernel_rfl
theorem m24 : mFn Tryz.prog Tryz.f24 c24 = true := by kernel_rfl
theorem m27 : mFn Tryz.prog Tryz.f27 c27 = true := by kernel_rfl
theorem m35 : mFn Tryz.prog Tryz.f35 c35 = true := by kernel_rfl
theorem m38 : mFn Tryz.prog Tryz.f38 c38 = true := by kernel_rfl
theorem m46 : mFn Tryz.prog Tryz.f46 c46 = true := by kernel_rfl
theorem m49 : mFn Tryz.prog Tryz.f49 c49 = true := by kernel_rfl
theorem m54 : mFn Tryz.prog Tryz.f54 c54 = true := by kernel_rfl
theorem m56 : mFn Tryz.prog Tryz.f56 c56 = true := by kernel_rfl
theorem m57 : mFn Tryz.prog Tryz.f57 c57 = true := by kernel_rfl
theorem m64 : mFn Tryz.prog Tryz.f64 c64 = true := by kernel_rfl
theorem m69 : mFn Tryz.prog Tryz.f69 c69 = true := by kernel_rfl
theorem m74 : mFn Tryz.prog Tryz.f74 c74 = true := by kernel_rfl
theorem m77 : mFn Tryz.prog Tryz.f77 c77 = true := by kernel_rfl
theorem m79 : mFn Tryz.prog Tryz.f79 c79 = true := by kernel_rfl
theorem m83 : mFn Tryz.prog Tryz.f83 c83 = true := by kernel_rfl
theorem m84 : mFn Tryz.prog Tryz.f84 c84 = true := by kernel_rfl
theorem m85 : mFn Tryz.prog Tryz.f85 c85 = true := by kernel_rfl
theorem m87 : mFn Tryz.prog Tryz.f87 c87 = true := by kernel_rfl
theorem m92 : mFn Tryz.prog Tryz.f92 c92 = true := by kernel_rfl
theorem m98 : mFn Tryz.prog Tryz.f98 c98 = true := by kernel_rfl
theorem m101 : mFn Tryz.prog Tryz.f101 c101 = true := by kernel_rfl
theorem m105 : mFn Tryz.prog Tryz.f105 c105 = true := by kernel_rfl
theorem m108 : mFn Tryz.prog Tryz.f108 c108 = true := by kernel_rfl
theorem m109 : mFn Tryz.prog Tryz.f109 c109 = true := by kernel_rfl
theorem m112 : mFn Tryz.prog Tryz.f112 c112 = true := by kernel_rfl
theorem m115 : mFn Tryz.prog Tryz.f115 c115 = true := by kernel_rfl
theorem m128 : mFn Tryz.prog Tryz.f128 c128 = true := by kernel_rfl
theorem m131 : mFn Tryz.prog Tryz.f131 c131 = true := by kernel_rfl
theorem m138 : mFn Tryz.prog Tryz.f138 c138 = true := by kernel_rfl
theorem m141 : mFn Tryz.prog Tryz.f141 c141 = true := by kernel_rfl
theorem m142 : mFn Tryz.prog Tryz.f142 c142 = true := by kernel_rfl
theorem m143 : mFn Tryz.prog Tryz.f143 c143 = true := by kernel_rfl
theorem m144 : mFn Tryz.prog Tryz.f144 c144 = true := by kernel_rfl
theorem m158 : mFn Tryz.prog Tryz.f158 c158 = true := by kernel_rfl
theorem m161 : mFn Tryz.prog Tryz.f161 c161 = true := by kernel_rfl
theorem m165 : mFn Tryz.prog Tryz.f165 c165 = true := by kernel_rfl
theorem m176 : mFn Tryz.prog Tryz.f176 c176 = true := by kernel_rfl
theorem m179 : mFn Tryz.prog Tryz.f179 c179 = true := by kernel_rfl
theorem m183 : mFn Tryz.prog Tryz.f183 c183 = true := by kernel_rfl
theorem m193 : mFn Tryz.prog Tryz.f193 c193 = true := by kernel_rfl
theorem m194 : mFn Tryz.prog Tryz.f194 c194 = true := by kernel_rfl
theorem m202 : mFn Tryz.prog Tryz.f202 c202 = true := by kernel_rfl
theorem m214 : mFn Tryz.prog Tryz.f214 c214 = true := by kernel_rfl
end Go.Proofs.YtfkacogfieiccaaGreatDoor
