import Derived.Test.YtdjkleaojdeepaaGreatDoorGaCodeb
import Derived.Test.YtdjkleaojdeepaaGreatDoorFwC
import Derived.Test.YtdjkleaojdeepaaGreatDoorProg
import Derived.KernelRfl
namespace Go.Proofs.YtdjkleaojdeepaaGreatDoor
open Go Fw
set_option maxRecDepth 100000
theorem m33 : mFn Tryz.prog Tryz.f33 c33 = true := by kernel_rfl
theorem m38 : mFn Tryz.prog Tryz.f38 c38 = true := by kernel_rfl
theorem m47 : mFn Tryz.prog Tryz.f47 c47 = true := by kernel_rfl
theorem m54 : mFn Tryz.prog Tryz.f54 c54 = true := by kernel_rfl
theorem m57 : mFn Tryz.prog Tryz.f57 c57 = true := by kernel_rfl
theorem m59 : mFn Tryz.prog Tryz.f59 c59 = true := by kernel_rfl
theorem m60 : mFn Tryz.prog Tryz.f60 c60 = true := by kernel_rfl
theorem m61 : mFn Tryz.prog Tryz.f61 c61 = true := by kernel_rfl
theorem m81 : mFn Tryz.prog Tryz.f81 c81 = true := by kernel_rfl
theorem m84 : mFn Tryz.prog Tryz.f84 c84 = true := by kernel_rfl
theorem m89 : mFn Tryz.prog Tryz.f89 c89 = true := by kernel_rfl
theorem m94 : mFn Tryz.prog Tryz.f94 c94 = true := by kernel_rfl
theorem m99 : mFn Tryz.prog Tryz.f99 c99 = true := by kernel_rfl
theorem m100 : mFn Tryz.prog Tryz.f100 c100 = true := by kernel_rfl
theorem m101 : mFn Tryz.prog Tryz.f101 c101 = true := by kernel_rfl
theorem m103 : mFn Tryz.prog Tryz.f103 c103 = true := by kernel_rfl
theorem m106 : mFn Tryz.prog Tryz.f106 c106 = true := by kernel_rfl
theorem m107 : mFn Tryz.prog Tryz.f107 c107 = true := by kernel_rfl
theorem m110 : mFn Tryz.prog Tryz.f110 c110 = true := by kernel_rfl
theorem m115 : mFn Tryz.prog Tryz.f115 c115 = true := by kernel_rfl
theorem m116 : mFn Tryz.prog Tryz.f116 c116 = true := by kernel_rfl
theorem m122 : mFn Tryz.prog Tryz.f122 c122 = true := by kernel_rfl
theorem m131 : mFn Tryz.prog Tryz.f131 c131 = true := by kernel_rfl
theorem m134 : mFn Tryz.prog Tryz.f134 c134 = true := by kernel_rfl
theorem m138 : mFn Tryz.prog Tryz.f138 c138 = true := by kernel_rfl
theorem m139 : mFn Tryz.prog Tryz.f139 c139 = true := by kernel_rfl
theorem m146 : mFn Tryz.prog Tryz.f146 c146 = true := by kernel_rfl
theorem m155 : mFn Tryz.prog Tryz.f155 c155 = true := by kernel_rfl
theorem m156 : mFn Tryz.prog Tryz.f156 c156 = true := by kernel_rfl
theorem m162 : mFn Tryz.prog Tryz.f162 c162 = true := by kernel_rfl
theorem m171 : mFn Tryz.prog Tryz.f171 c171 = true := by kernel_rfl
theorem m180 : mFn Tryz.prog Tryz.f180 c180 = true := by kernel_rfl
theorem m188 : mFn Tryz.prog Tryz.f188 c188 = true := by kernel_rfl
theorem m197 : mFn Tryz.prog Tryz.f197 c197 = true := by kernel_rfl
theorem m214 : mFn Tryz.prog Tryz.f214 c214 = true := by kernel_rfl
theorem m223 : mFn Tryz.prog Tryz.f223 c223 = true := by kernel_rfl
theorem m224 : mFn Tryz.prog Tryz.f224 c224 = true := by kernel_rfl
theorem m231 : mFn Tryz.prog Tryz.f231 c231 = true := by kernel_rfl
theorem m239 : mFn Tryz.prog Tryz.f239 c239 = true := by kernel_rfl
theorem m242 : mFn Tryz.prog Tryz.f242 c242 = true := by kernel_rfl
end Go.Proofs.YtdjkleaojdeepaaGreatDoor
