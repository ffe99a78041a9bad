import Derived.Test.YtbaedpfgjpkabaaGreatDoorChCodeb
import Derived.Test.YtbaedpfgjpkabaaGreatDoorFwC
import Derived.Test.YtbaedpfgjpkabaaGreatDoorProg
import Derived.KernelRfl
namespace Go.Proofs.YtbaedpfgjpkabaaGreatDoor
open Go Fw
set_option maxRecDepth 100000
theorem m26 : mFn Tryz.prog Tryz.f26 c26 = true := by kernel_rfl
theorem m36 : mFn Tryz.prog Tryz.f36 c36 = true := by kernel_rfl
theorem m47 : mFn Tryz.prog Tryz.f47 c47 = true := by kernel_rfl
theorem m56 : mFn Tryz.prog Tryz.f56 c56 = true := by kernel_rfl
theorem m57 : mFn Tryz.prog Tryz.f57 c57 = true := by kernel_rfl
theorem m61 : mFn Tryz.prog Tryz.f61 c61 = true := by kernel_rfl
theorem m65 : mFn Tryz.prog Tryz.f65 c65 = true := by kernel_rfl
theorem m72 : mFn Tryz.prog Tryz.f72 c72 = true := by kernel_rfl
theorem m74 : mFn Tryz.prog Tryz.f74 c74 = true := by kernel_rfl
theorem m112 : mFn Tryz.prog Tryz.f112 c112 = true := by kernel_rfl
theorem m116 : mFn Tryz.prog Tryz.f116 c116 = true := by kernel_rfl
theorem m135 : mFn Tryz.prog Tryz.f135 c135 = true := by kernel_rfl
theorem m136 : mFn Tryz.prog Tryz.f136 c136 = true := by kernel_rfl
theorem m137 : mFn Tryz.prog Tryz.f137 c137 = true := by kernel_rfl
theorem m138 : mFn Tryz.prog Tryz.f138 c138 = true := by kernel_rfl
theorem m142 : mFn Tryz.prog Tryz.f142 c142 = true := by kernel_rfl
theorem m148 : mFn Tryz.prog Tryz.f148 c148 = true := by kernel_rfl
theorem m154 : mFn Tryz.prog Tryz.f154 c154 = true := by kernel_rfl
theorem m155 : mFn Tryz.prog Tryz.f155 c155 = true := by kernel_rfl
theorem m156 : mFn Tryz.prog Tryz.f156 c156 = true := by kernel_rfl
theorem m158 : mFn Tryz.prog Tryz.f158 c158 = true := by kernel_rfl
theorem m173 : mFn Tryz.prog Tryz.f173 c173 = true := by kernel_rfl
theorem m175 : mFn Tryz.prog Tryz.f175 c175 = true := by kernel_rfl
theorem m181 : mFn Tryz.prog Tryz.f181 c181 = true := by kernel_rfl
theorem m193 : mFn Tryz.prog Tryz.f193 c193 = true := by kernel_rfl
theorem m201 : mFn Tryz.prog Tryz.f201 c201 = true := by kernel_rfl
theorem m224 : mFn Tryz.prog Tryz.f224 c224 = true := by kernel_rfl
theorem m233 : mFn Tryz.prog Tryz.f233 c233 = true := by kernel_rfl
theorem m235 : mFn Tryz.prog Tryz.f235 c235 = true := by kernel_rfl
theorem m248 : mFn Tryz.prog Tryz.f248 c248 = true := by kernel_rfl
end Go.Proofs.YtbaedpfgjpkabaaGreatDoor
