import Derived.Test.YtfkacogfieiccaaGreatDoorBaCodeb
import Derived.Test.YtfkacogfieiccaaGreatDoorFwC
import Derived.Test.YtfkacogfieiccaaGreatDoorProg
import Derived.KernelRfl
namespace Go.Proofs.YtfkacogfieiccaaGreatDoor
open Go Fw
set_option maxRecDepth 100000
theorem m13 : mFn Tryz.prog Tryz.f13 c13 = true := by kernel_rfl
theorem m15 : mFn Tryz.prog Tryz.f15 c15 = true := by kernel_rfl
theorem m19 : mFn Tryz.prog Tryz.f19 c19 = true := by kernel_rfl
theorem m23 : mFn Tryz.prog Tryz.f23 c23 = true := by kernel_rfl
theorem m25 : mFn Tryz.prog Tryz.f25 c25 = true := by kernel_rfl
theorem m28 : mFn Tryz.prog Tryz.f28 c28 = true := by kernel_rfl
theorem m30 : mFn Tryz.prog Tryz.f30 c30 = true := by kernel_rfl
theorem m32 : mFn Tryz.prog Tryz.f32 c32 = true := by kernel_rfl
theorem m36 : mFn Tryz.prog Tryz.f36 c36 = true := by kernel_rfl
theorem m42 : mFn Tryz.prog Tryz.f42 c42 = true := by kernel_rfl
theorem m50 : mFn Tryz.prog Tryz.f50 c50 = true := by kernel_rfl
theorem m51 : mFn Tryz.prog Tryz.f51 c51 = true := by kernel_rfl
theorem m55 : mFn Tryz.prog Tryz.f55 c55 = true := by kernel_rfl
theorem m61 : mFn Tryz.prog Tryz.f61 c61 = true := by kernel_rfl
theorem m65 : mFn Tryz.prog Tryz.f65 c65 = true := by kernel_rfl
theorem m71 : mFn Tryz.prog Tryz.f71 c71 = true := by kernel_rfl
theorem m75 : mFn Tryz.prog Tryz.f75 c75 = true := by kernel_rfl
theorem m78 : mFn Tryz.prog Tryz.f78 c78 = true := by kernel_rfl
theorem m90 : mFn Tryz.prog Tryz.f90 c90 = true := by kernel_rfl
theorem m93 : mFn Tryz.prog Tryz.f93 c93 = true := by kernel_rfl
theorem m94 : mFn Tryz.prog Tryz.f94 c94 = true := by kernel_rfl
theorem m100 : mFn Tryz.prog Tryz.f100 c100 = true := by kernel_rfl
theorem m102 : mFn Tryz.prog Tryz.f102 c102 = true := by kernel_rfl
theorem m103 : mFn Tryz.prog Tryz.f103 c103 = true := by kernel_rfl
theorem m104 : mFn Tryz.prog Tryz.f104 c104 = true := by kernel_rfl
theorem m106 : mFn Tryz.prog Tryz.f106 c106 = true := by kernel_rfl
theorem m116 : mFn Tryz.prog Tryz.f116 c116 = true := by kernel_rfl
theorem m123 : mFn Tryz.prog Tryz.f123 c123 = true := by kernel_rfl
theorem m124 : mFn Tryz.prog Tryz.f124 c124 = true := by kernel_rfl
theorem m125 : mFn Tryz.prog Tryz.f125 c125 = true := by kernel_rfl
theorem m132 : mFn Tryz.prog Tryz.f132 c132 = true := by kernel_rfl
theorem m133 : mFn Tryz.prog Tryz.f133 c133 = true := by kernel_rfl
theorem m137 : mFn Tryz.prog Tryz.f137 c137 = true := by kernel_rfl
theorem m150 : mFn Tryz.prog Tryz.f150 c150 = true := by kernel_rfl
theorem m155 : mFn Tryz.prog Tryz.f155 c155 = true := by kernel_rfl
theorem m159 : mFn Tryz.prog Tryz.f159 c159 = true := by kernel_rfl
theorem m164 : mFn Tryz.prog Tryz.f164 c164 = true := by kernel_rfl
theorem m167 : mFn Tryz.prog Tryz.f167 c167 = true := by kernel_rfl
theorem m174 : mFn Tryz.prog Tryz.f174 c174 = true := by kernel_rfl
theorem m175 : mFn Tryz.prog Tryz.f175 c175 = true := by kernel_rfl
theorem m178 : mFn Tryz.prog Tryz.f178 c178 = true := by kernel_rfl
theorem m186 : mFn Tryz.prog Tryz.f186 c186 = true := by kernel_rfl
theorem m192 : mFn Tryz.prog Tryz.f192 c192 = true := by kernel_rfl
theorem m200 : mFn Tryz.prog Tryz.f200 c200 = true := by kernel_rfl
theorem m208 : mFn Tryz.prog Tryz.f208 c208 = true := by kernel_rfl
theorem m232 : mFn Tryz.prog Tryz.f232 c232 = true := by kernel_rfl
end Go.Proofs.YtfkacogfieiccaaGreatDoor
