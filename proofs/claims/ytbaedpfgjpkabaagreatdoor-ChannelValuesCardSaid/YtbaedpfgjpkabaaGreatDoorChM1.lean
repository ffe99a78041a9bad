import Derived.Test.YtbaedpfgjpkabaaGreatDoorChCodeb
import Derived.Test.YtbaedpfgjpkabaaGreatDoorFwC
import Derived.Test.YtbaedpfgjpkabaaGreatDoorProg
import Derived.KernelRfl
namespace Go.Proofs.YtbaedpfgjpkabaaGreatDoor
open Go Fw
set_option maxRecDepth 100000
theorem m15 : mFn Tryz.prog Tryz.f15 c15 = true := by kernel_rfl
theorem m17 : mFn Tryz.prog Tryz.f17 c17 = true := by kernel_rfl
theorem m25 : mFn Tryz.prog Tryz.f25 c25 = true := by kernel_rfl
theorem m35 : mFn Tryz.prog Tryz.f35 c35 = true := by kernel_rfl
theorem m40 : mFn Tryz.prog Tryz.f40 c40 = true := by kernel_rfl
theorem m41 : mFn Tryz.prog Tryz.f41 c41 = true := by kernel_rfl
theorem m48 : mFn Tryz.prog Tryz.f48 c48 = true := by kernel_rfl
theorem m53 : mFn Tryz.prog Tryz.f53 c53 = true := by kernel_rfl
theorem m101 : mFn Tryz.prog Tryz.f101 c101 = true := by kernel_rfl
theorem m102 : mFn Tryz.prog Tryz.f102 c102 = true := by kernel_rfl
theorem m103 : mFn Tryz.prog Tryz.f103 c103 = true := by kernel_rfl
theorem m106 : mFn Tryz.prog Tryz.f106 c106 = true := by kernel_rfl
theorem m114 : mFn Tryz.prog Tryz.f114 c114 = true := by kernel_rfl
theorem m117 : mFn Tryz.prog Tryz.f117 c117 = true := by kernel_rfl
theorem m125 : mFn Tryz.prog Tryz.f125 c125 = true := by kernel_rfl
theorem m133 : mFn Tryz.prog Tryz.f133 c133 = true := by kernel_rfl
theorem m141 : mFn Tryz.prog Tryz.f141 c141 = true := by kernel_rfl
theorem m147 : mFn Tryz.prog Tryz.f147 c147 = true := by kernel_rfl
theorem m150 : mFn Tryz.prog Tryz.f150 c150 = true := by kernel_rfl
theorem m176 : mFn Tryz.prog Tryz.f176 c176 = true := by kernel_rfl
theorem m182 : mFn Tryz.prog Tryz.f182 c182 = true := by kernel_rfl
theorem m185 : mFn Tryz.prog Tryz.f185 c185 = true := by kernel_rfl
theorem m186 : mFn Tryz.prog Tryz.f186 c186 = true := by kernel_rfl
theorem m187 : mFn Tryz.prog Tryz.f187 c187 = true := by kernel_rfl
theorem m188 : mFn Tryz.prog Tryz.f188 c188 = true := by kernel_rfl
theorem m200 : mFn Tryz.prog Tryz.f200 c200 = true := by kernel_rfl
theorem m211 : mFn Tryz.prog Tryz.f211 c211 = true := by kernel_rfl
theorem m213 : mFn Tryz.prog Tryz.f213 c213 = true := by kernel_rfl
theorem m244 : mFn Tryz.prog Tryz.f244 c244 = true := by kernel_rfl
theorem m247 : mFn Tryz.prog Tryz.f247 c247 = true := by kernel_rfl
theorem m250 : mFn Tryz.prog Tryz.f250 c250 = true := by kernel_rfl
end Go.Proofs.YtbaedpfgjpkabaaGreatDoor
