import Derived.Test.YtfkacogfieiccaaGreatDoorBaCodeb
import Derived.Test.YtfkacogfieiccaaGreatDoorFwC
import Derived.Test.YtfkacogfieiccaaGreatDoorProg
import Derived.KernelRfl
namespace Go.Proofs.YtfkacogfieiccaaGreatDoor
open Go Fw
set_option maxRecDepth 100000
theorem m24 : mFn Tryz.prog Tryz.f24 c24 = true := by kernel_rfl
theorem m36 : mFn Tryz.prog Tryz.f36 c36 = true := by kernel_rfl
theorem m48 : mFn Tryz.prog Tryz.f48 c48 = true := by kernel_rfl
theorem m59 : mFn Tryz.prog Tryz.f59 c59 = true := by kernel_rfl
theorem m61 : mFn Tryz.prog Tryz.f61 c61 = true := by kernel_rfl
theorem m73 : mFn Tryz.prog Tryz.f73 c73 = true := by kernel_rfl
theorem m74 : mFn Tryz.prog Tryz.f74 c74 = true := by kernel_rfl
theorem m75 : mFn Tryz.prog Tryz.f75 c75 = true := by kernel_rfl
theorem m99 : mFn Tryz.prog Tryz.f99 c99 = true := by kernel_rfl
theorem m103 : mFn Tryz.prog Tryz.f103 c103 = true := by kernel_rfl
theorem m110 : mFn Tryz.prog Tryz.f110 c110 = true := by kernel_rfl
theorem m112 : mFn Tryz.prog Tryz.f112 c112 = true := by kernel_rfl
theorem m115 : mFn Tryz.prog Tryz.f115 c115 = true := by kernel_rfl
theorem m124 : mFn Tryz.prog Tryz.f124 c124 = true := by kernel_rfl
theorem m126 : mFn Tryz.prog Tryz.f126 c126 = true := by kernel_rfl
theorem m127 : mFn Tryz.prog Tryz.f127 c127 = true := by kernel_rfl
theorem m156 : mFn Tryz.prog Tryz.f156 c156 = true := by kernel_rfl
theorem m162 : mFn Tryz.prog Tryz.f162 c162 = true := by kernel_rfl
theorem m164 : mFn Tryz.prog Tryz.f164 c164 = true := by kernel_rfl
theorem m165 : mFn Tryz.prog Tryz.f165 c165 = true := by kernel_rfl
theorem m172 : mFn Tryz.prog Tryz.f172 c172 = true := by kernel_rfl
theorem m175 : mFn Tryz.prog Tryz.f175 c175 = true := by kernel_rfl
theorem m186 : mFn Tryz.prog Tryz.f186 c186 = true := by kernel_rfl
theorem m192 : mFn Tryz.prog Tryz.f192 c192 = true := by kernel_rfl
theorem m202 : mFn Tryz.prog Tryz.f202 c202 = true := by kernel_rfl
theorem m232 : mFn Tryz.prog Tryz.f232 c232 = true := by kernel_rfl
end Go.Proofs.YtfkacogfieiccaaGreatDoor
