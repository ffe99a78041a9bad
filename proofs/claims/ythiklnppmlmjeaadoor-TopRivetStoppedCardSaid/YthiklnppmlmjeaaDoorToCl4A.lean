import Derived.Test.YthiklnppmlmjeaaDoorToStoL
import Derived.Test.YthiklnppmlmjeaaDoorCards
import Derived.Test.YthiklnppmlmjeaaDoorTie
import Derived.SevenTiedAt
import Derived.Lay
import Derived.MakeChecks
import Derived.LaidMore
import Derived.LaidOnce
import Derived.LaidHandle
namespace Go.Proofs.YthiklnppmlmjeaaDoor
open Go Go.ChangeShapes Go.WideShapes Go.ChangeAt Go.RowKit Fw
set_option maxRecDepth 100000

theorem own4 : ownKnob Tryd.prog.godebug = none := by kernel_rfl
theorem laidOut4 : laidOutB Tryd.prog = true := by kernel_rfl

def Ts4 : List Ty := TsStp
theorem isArgs4 : isArgs Tryd.prog Ts4 Tryd.f4.params.toList = true := by kernel_rfl

theorem con4 {H : Type} {enc : TypeId × Value → H} {W : World} {base : Nat} {args : Array Value} {ds gs : List (DataW H)} {before : List MemPlace} (hval : ∀ (j : Nat) t v, Tryd.f4.params[j]? = some t → args[j]? = some v → Value.okWide Tryd.prog W .any base t v)
  (hW : DataW.Whole enc Tryd.prog Tryd.f4.params.toList Rows.topRivetStoppedSpec.vars false W args.toList ds gs before) (hL : laidMetH Tryd.prog Rows.topRivetStoppedRow.laid W) :
  Calls Tryd.prog 4 args W (fun e w' => ∃ v, e = .returned v ∧ Rows.topRivetStoppedSpec.post enc Tryd.prog Tryd.f4 false true false false W args v w') :=
 law_contract (d := 61) fok cok laidOut4 isArgs4 rfl rfl (tb := 4) (by kernel_rfl) (by kernel_rfl) (fun ds hd => by
  have hd' : ds.length = 3 := hd
  match ds, hd' with
  | [_, _, _], _ => rfl) (fun _ => rfl) stp_law hval hW (gok hL)

noncomputable def start4 (os : Os) : World := World.doorLaid Tryd.prog 50 os
theorem met4 (os : Os) (args : Array Value) : laidMetH Tryd.prog Rows.topRivetStoppedRow.laid ((start4 os).forCall (fun _ _ => 0) ⟨#[], args, []⟩).memory :=
 laidMetH_of_parts3 (fuel := 8) (laidMet_of_run' 8 (by kernel_rfl) (by kernel_rfl)) (by kernel_rfl) (by kernel_rfl)

theorem lifted4 (os : Os) (started : os.Started) (H : Type) (enc : TypeId × Value → H) :
  ReturnsInHanded {} Tryd.checked os 4 .any (fun w args => (Rows.topRivetStoppedSpec.pre enc Tryd.prog Tryd.f4 [] false w args ∧ laidMetH Tryd.prog Rows.topRivetStoppedRow.laid w) ∧ sizedMet enc Tryd.prog Tryd.f4 (OpenSpec.ofChange Rows.topRivetStoppedSpec) false w args)
   (Rows.topRivetStoppedSpec.post enc Tryd.prog Tryd.f4 false true false false) := by
 refine returnsInHanded_of_change_and (C := Tryd.checked) (X := fun w _ => laidMetH Tryd.prog Rows.topRivetStoppedRow.laid w) (fun _ _ _ hh h => h.of_heap hh) own4 started (by kernel_rfl) Tryd.func4
  (ChangeSpec.witness_shaped (enc := enc) (C := Tryd.checked) (os := os) (X := fun w _ => laidMetH Tryd.prog Rows.topRivetStoppedRow.laid w) false (start4 os) #[.agg #[.slice none 0 0, .int .i64 0, .int .i64 0, .int .i64 0, .int .i64 0, .int .i64 0], .agg #[.int .i64 0, .int .i64 0, .slice none 0 0, .slice none 0 0, .slice none 0 0], .slice none 0 0] 8 rfl (World.shaped_of_RefB (by kernel_rfl) (by kernel_rfl)) (by kernel_rfl) (by kernel_rfl) (by kernel_rfl)
   (met4 os _)) ?_
 intro W base args ds gs before hval hW _ _ hL _
 exact con4 hval hW hL
end Go.Proofs.YthiklnppmlmjeaaDoor
