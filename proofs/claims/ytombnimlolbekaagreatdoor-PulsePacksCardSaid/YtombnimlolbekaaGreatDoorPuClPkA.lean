import Derived.Test.YtombnimlolbekaaGreatDoorPuPkL
import Derived.Test.YtombnimlolbekaaGreatDoorCards
import Derived.Test.YtombnimlolbekaaGreatDoorTie
import Derived.SevenTiedAt
import Derived.Lay
import Derived.MakeChecks
namespace Go.Proofs.YtombnimlolbekaaGreatDoor
open Go Go.ChangeShapes Go.WideShapes Go.ChangeAt Go.RowKit Fw
set_option maxRecDepth 100000

theorem own10 : ownKnob Tryz.prog.godebug = none := by kernel_rfl
theorem laidOut10 : laidOutB Tryz.prog = true := by kernel_rfl

def Ts10 : List Ty := TsPk
theorem isArgs10 : isArgs Tryz.prog Ts10 Tryz.f10.params.toList = true := by kernel_rfl

/-- what the law returns, in the model's words -/
theorem con10 {H : Type} {enc : TypeId × Value → H} {W : World} {base : Nat} {args : Array Value} {ds gs : List (DataW H)} {before : List MemPlace} (hval : ∀ (j : Nat) t v, Tryz.f10.params[j]? = some t → args[j]? = some v → Value.okWide Tryz.prog W .any base t v)
    (hW : DataW.Whole enc Tryz.prog Tryz.f10.params.toList Rows.pulsePacksSpec.vars false W args.toList ds gs before) (hL : laidMetH Tryz.prog Rows.pulsePacksRow.laid W) :
    Calls Tryz.prog 10 args W (fun e w' => ∃ v, e = .returned v ∧ Rows.pulsePacksSpec.post enc Tryz.prog Tryz.f10 false true false false W args v w') :=
  law_contract (d := 61) fok cok laidOut10 isArgs10 rfl rfl (tb := 4) (by kernel_rfl) (by kernel_rfl) (fun ds hd => by
    have hd' : ds.length = 3 := hd
    match ds, hd' with
    | [_, _, _], _ => rfl) (fun _ => rfl) pk_law hval hW (gok hL)

theorem lifted10 (os : Os) (started : os.Started) (H : Type) (enc : TypeId × Value → H) :
    ReturnsInHanded {} Tryz.checked os 10 .any (fun w args => (Rows.pulsePacksSpec.pre enc Tryz.prog Tryz.f10 [] false w args ∧ laidMetH Tryz.prog Rows.pulsePacksRow.laid w) ∧ sizedMet enc Tryz.prog Tryz.f10 (OpenSpec.ofChange Rows.pulsePacksSpec) false w args)
      (Rows.pulsePacksSpec.post enc Tryz.prog Tryz.f10 false true false false) := by
  refine returnsInHanded_of_change_and (C := Tryz.checked) (X := fun w _ => laidMetH Tryz.prog Rows.pulsePacksRow.laid w) (fun _ _ _ hh h => h.of_heap hh) own10 started (by kernel_rfl) Tryz.func10
    (ChangeSpec.witness_shaped (enc := enc) (C := Tryz.checked) (os := os) (X := fun w _ => laidMetH Tryz.prog Rows.pulsePacksRow.laid w) false (World.laidAll Tryz.prog os Rows.pulsePacksRow.laid) #[.slice none 0 0, .slice none 0 0, .agg #[.int .i64 0, .int .i64 0, .int .i64 0]] 8 (World.laidAll_os _ _ _) (World.shaped_of_ZipB (by kernel_rfl) (by kernel_rfl)) (by kernel_rfl) (by kernel_rfl) (by kernel_rfl)
      (by rw [MakeChecks.laidMetH_plain _ _ _ (by kernel_rfl)]; exact laidMet_laidAll _ (by kernel_rfl) (by kernel_rfl))) ?_
  intro W base args ds gs before hval hW _ _ hL _
  exact con10 hval hW hL
end Go.Proofs.YtombnimlolbekaaGreatDoor
