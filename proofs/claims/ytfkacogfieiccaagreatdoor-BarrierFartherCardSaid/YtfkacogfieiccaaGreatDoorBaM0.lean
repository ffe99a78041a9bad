import Derived.Test.YtfkacogfieiccaaGreatDoorBaCodeb
import Derived.Test.YtfkacogfieiccaaGreatDoorFwC
import Derived.Test.YtfkacogfieiccaaGreatDoorProg
import Derived.KernelRfl
namespace Go.Proofs.YtfkacogfieiccaaGreatDoor
open Go Fw
set_option maxRecDepth 100000
theorem m17 : mFn Tryz.prog Tryz.f17 c17 = true := by kernel_rfl
theorem m27 : mFn Tryz.prog Tryz.f27 c27 = true := by kernel_rfl
theorem m33 : mFn Tryz.prog Tryz.f33 c33 = true := by kernel_rfl
theorem m35 : mFn Tryz.prog Tryz.f35 c35 = true := by kernel_rfl
theorem m37 : mFn Tryz.prog Tryz.f37 c37 = true := by kernel_rfl
theorem m38 : mFn Tryz.prog Tryz.f38 c38 = true := by kernel_rfl
theorem m51 : mFn Tryz.prog Tryz.f51 c51 = true := by kernel_rfl
theorem m62 : mFn Tryz.prog Tryz.f62 c62 = true := by kernel_rfl
theorem m95 : mFn Tryz.prog Tryz.f95 c95 = true := by kernel_rfl
theorem m97 : mFn Tryz.prog Tryz.f97 c97 = true := by kernel_rfl
theorem m100 : mFn Tryz.prog Tryz.f100 c100 = true := by kernel_rfl
theorem m101 : mFn Tryz.prog Tryz.f101 c101 = true := by kernel_rfl
theorem m102 : mFn Tryz.prog Tryz.f102 c102 = true := by kernel_rfl
theorem m107 : mFn Tryz.prog Tryz.f107 c107 = true := by kernel_rfl
theorem m108 : mFn Tryz.prog Tryz.f108 c108 = true := by kernel_rfl
theorem m109 : mFn Tryz.prog Tryz.f109 c109 = true := by kernel_rfl
theorem m116 : mFn Tryz.prog Tryz.f116 c116 = true := by kernel_rfl
theorem m134 : mFn Tryz.prog Tryz.f134 c134 = true := by kernel_rfl
theorem m136 : mFn Tryz.prog Tryz.f136 c136 = true := by kernel_rfl
theorem m138 : mFn Tryz.prog Tryz.f138 c138 = true := by kernel_rfl
theorem m139 : mFn Tryz.prog Tryz.f139 c139 = true := by kernel_rfl
theorem m153 : mFn Tryz.prog Tryz.f153 c153 = true := by kernel_rfl
theorem m174 : mFn Tryz.prog Tryz.f174 c174 = true := by kernel_rfl
theorem m191 : mFn Tryz.prog Tryz.f191 c191 = true := by kernel_rfl
theorem m208 : mFn Tryz.prog Tryz.f208 c208 = true := by kernel_rfl
theorem m210 : mFn Tryz.prog Tryz.f210 c210 = true := by kernel_rfl
theorem m233 : mFn Tryz.prog Tryz.f233 c233 = true := by kernel_rfl
end Go.Proofs.YtfkacogfieiccaaGreatDoor
