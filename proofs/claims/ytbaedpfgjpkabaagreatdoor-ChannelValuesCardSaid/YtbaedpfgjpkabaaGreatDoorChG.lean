/- The contracts of the library's functions and the package variables, at this program. -/
import Derived.Test.YtbaedpfgjpkabaaGreatDoorChF
import Derived.Test.YtbaedpfgjpkabaaGreatDoorChC
import Derived.Test.YtbaedpfgjpkabaaGreatDoorChShelf
import Derived.Test.YtbaedpfgjpkabaaGreatDoorFwC
import Derived.LaidSub
import Derived.Test.YtbaedpfgjpkabaaGreatDoorCards
namespace Go.Proofs.YtbaedpfgjpkabaaGreatDoor
open Go Fw
set_option maxRecDepth 100000

/-- the library's functions alone -/
def Cb : Nat → List AVal → Option (T AVal) := tabC [(162, cJoin), (194, cItoa), (217, cIndexByte), (220, cCount), (243, cBits), (242, cFrom), (234, cIntegral .down), (249, cIntegral .zero)]
theorem k162 : COkAt (CMP Tryz.prog) Tryz.prog G0 162 cJoin := cJoin_ok Tryz.func162 (by kernel_rfl) (by kernel_rfl) Tryz.strings_Join_none (fun bk o c xs sep w h1 h2 h3 h4 h5 => Tryz.strings_Join bk o c xs sep w h1 h2 h3 h4 h5)
theorem k194 : COkAt (CMP Tryz.prog) Tryz.prog G0 194 cItoa := cItoa_ok Tryz.func194 (by kernel_rfl) (by kernel_rfl) (g := 7) (by kernel_rfl) (by kernel_rfl) (fun n h0 h1 w ht => Tryz.strconv_Itoa n h0 h1 w ht)
theorem k217 : COkAt (CMP Tryz.prog) Tryz.prog G0 217 cIndexByte := cIndexByte_ok Tryz.func217 (by kernel_rfl) (by kernel_rfl) (by kernel_rfl) (by kernel_rfl)
theorem k220 : COkAt (CMP Tryz.prog) Tryz.prog G0 220 cCount := cCount_ok Tryz.func220 (by kernel_rfl) (by kernel_rfl) (by kernel_rfl) (by kernel_rfl)
theorem k243 : COkAt (CMP Tryz.prog) Tryz.prog G0 243 cBits := cBits_ok Tryz.func243 (by kernel_rfl) (by kernel_rfl) (by kernel_rfl) (by kernel_rfl)
theorem k242 : COkAt (CMP Tryz.prog) Tryz.prog G0 242 cFrom := cFrom_ok Tryz.func242 (by kernel_rfl) (by kernel_rfl) (by kernel_rfl) (by kernel_rfl)
theorem k234 : COkAt (CMP Tryz.prog) Tryz.prog G0 234 (cIntegral .down) := cIntegral_ok Tryz.func234 (by kernel_rfl) (by kernel_rfl) (by kernel_rfl) rfl
theorem k249 : COkAt (CMP Tryz.prog) Tryz.prog G0 249 (cIntegral .zero) := cIntegral_ok Tryz.func249 (by kernel_rfl) (by kernel_rfl) (by kernel_rfl) rfl
theorem cokb : COk (CMP Tryz.prog) Tryz.prog G0 Cb := by
  refine tabC_ok (fun x hx => ?_)
  simp only [List.mem_cons, List.not_mem_nil, or_false] at hx
  rcases hx with rfl | rfl | rfl | rfl | rfl | rfl | rfl | rfl
  · exact k162
  · exact k194
  · exact k217
  · exact k220
  · exact k243
  · exact k242
  · exact k234
  · exact k249
theorem k123 : COkAt (CMP Tryz.prog) Tryz.prog G0 123 runC := con_of_eval (F := F) (C := Cb) (d := 4) fok cokb (fun _ _ h K hK => run_ok (C := Cb) (G := G0) (d := 0) (fun f hf xs => by
  simp only [List.mem_cons, List.not_mem_nil, or_false] at hf
  rcases hf with rfl | rfl | rfl | rfl | rfl | rfl | rfl | rfl | rfl | rfl | rfl | rfl | rfl | rfl <;> rfl) rfl h K hK)
theorem k51 : COkAt (CMP Tryz.prog) Tryz.prog G0 51 encC := con_of_eval (F := F) (C := Cb) (d := 6) fok cokb (fun _ _ h K hK => enc_ok (C := Cb) (G := G0) (d := 0) (fun f hf xs => by
  simp only [List.mem_cons, List.not_mem_nil, or_false] at hf
  rcases hf with rfl | rfl | rfl | rfl | rfl | rfl | rfl | rfl | rfl | rfl | rfl | rfl | rfl | rfl | rfl | rfl | rfl | rfl | rfl | rfl <;> rfl) rfl rfl h K hK)
theorem libok : LibOk Cb := ⟨fun _ => rfl, fun _ => rfl, fun _ => rfl⟩
theorem k201 : COkAt (CMP Tryz.prog) Tryz.prog G0 201 smpC1 := con_of_eval (F := F) (C := Cb) (d := 4) fok cokb (fun _ _ h K hK => smpC1_ok (C := Cb) (G := G0) (d := 0) (fun f hf xs => by
  simp only [List.mem_cons, List.not_mem_nil, or_false] at hf
  rcases hf with rfl | rfl | rfl | rfl | rfl | rfl | rfl | rfl | rfl <;> rfl) libok h K hK)
theorem k202 : COkAt (CMP Tryz.prog) Tryz.prog G0 202 smpC2 := con_of_eval (F := F) (C := Cb) (d := 1) fok cokb (fun _ _ h K hK => smpC2_ok (C := Cb) (G := G0) (d := 0) (fun _ => rfl) h K hK)
theorem cok : COk (CMP Tryz.prog) Tryz.prog G0 C0 := by
  refine tabC_ok (fun x hx => ?_)
  simp only [List.mem_cons, List.not_mem_nil, or_false] at hx
  rcases hx with rfl | rfl | rfl | rfl | rfl | rfl | rfl | rfl | rfl | rfl | rfl | rfl
  · exact k162
  · exact k194
  · exact k217
  · exact k220
  · exact k243
  · exact k242
  · exact k234
  · exact k249
  · exact k123
  · exact k51
  · exact k201
  · exact k202

theorem gok {w : World} (hL : laidMetH Tryz.prog Rows.channelCodesRow.laid w) : GOk G0 w (fun _ => True) := by
  obtain ⟨qs, h, _⟩ := (laidMetH_iff.1 hL).1
  have hm : ∃ qs, DataW.LaidVars Tryz.prog w (Rows.channelCodesRow.laid.filter fun x => x.2.handleName?.isNone) qs := ⟨qs, h⟩
  intro g cs hg
  unfold G0 at hg
  split at hg <;> first | (cases hg; done) | skip
  all_goals (rw [Option.some.injEq] at hg; subst hg)
  · exact laid_data (n := 8) hm (List.mem_filter.2 ⟨List.mem_of_getElem? (i := 3) rfl, by kernel_rfl⟩) (by kernel_rfl) (t := 169) (by kernel_rfl) (by kernel_rfl)
  · exact laid_data (n := 8) hm (List.mem_filter.2 ⟨List.mem_of_getElem? (i := 4) rfl, by kernel_rfl⟩) (by kernel_rfl) (t := 140) (by kernel_rfl) (by kernel_rfl)
  · exact laid_funcs (n := 8) hL (List.mem_of_getElem? (i := 5) rfl) (by kernel_rfl) (t := 186) (by kernel_rfl) (by kernel_rfl)
  · exact laid_funcs (n := 8) hL (List.mem_of_getElem? (i := 6) rfl) (by kernel_rfl) (t := 186) (by kernel_rfl) (by kernel_rfl)
  · exact laid_funcs (n := 8) hL (List.mem_of_getElem? (i := 7) rfl) (by kernel_rfl) (t := 186) (by kernel_rfl) (by kernel_rfl)
  · exact laid_data (n := 8) hm (List.mem_filter.2 ⟨List.mem_of_getElem? (i := 2) rfl, by kernel_rfl⟩) (by kernel_rfl) (t := 293) (by kernel_rfl) (by kernel_rfl)
end Go.Proofs.YtbaedpfgjpkabaaGreatDoor
