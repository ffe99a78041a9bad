import Derived.Test.YtombnimlolbekaaGreatDoorPuChoL
import Derived.Test.YtombnimlolbekaaGreatDoorCards
import Derived.Test.YtombnimlolbekaaGreatDoorTie
import Derived.SevenTiedAt
import Derived.Lay
import Derived.MakeChecks
import Derived.LaidMore
import Derived.LaidOnce
import Derived.LaidHandle
namespace Go.Proofs.YtombnimlolbekaaGreatDoor
open Go Go.ChangeShapes Go.WideShapes Go.ChangeAt Go.RowKit Fw
set_option maxRecDepth 100000

theorem own11 : ownKnob Tryz.prog.godebug = none := by kernel_rfl
theorem laidOut11 : laidOutB Tryz.prog = true := by kernel_rfl

def Ts11 : List Ty := TsCho
theorem isArgs11 : isArgs Tryz.prog Ts11 Tryz.f11.params.toList = true := by kernel_rfl

theorem con11 {H : Type} {enc : TypeId × Value → H} {W : World} {base : Nat} {args : Array Value} {ds gs : List (DataW H)} {before : List MemPlace} (hval : ∀ (j : Nat) t v, Tryz.f11.params[j]? = some t → args[j]? = some v → Value.okWide Tryz.prog W .any base t v)
  (hW : DataW.Whole enc Tryz.prog Tryz.f11.params.toList Rows.pulseChosenSpec.vars false W args.toList ds gs before) (hL : laidMetH Tryz.prog Rows.pulseChosenRow.laid W) :
  Calls Tryz.prog 11 args W (fun e w' => ∃ v, e = .returned v ∧ Rows.pulseChosenSpec.post enc Tryz.prog Tryz.f11 false true false false W args v w') :=
 law_contract (d := 61) fok cok laidOut11 isArgs11 rfl rfl (tb := 4) (by kernel_rfl) (by kernel_rfl) (fun ds hd => by
  have hd' : ds.length = 3 := hd
  match ds, hd' with
  | [_, _, _], _ => rfl) (fun _ => rfl) cho_law hval hW (gok hL)

theorem lifted11 (os : Os) (started : os.Started) (H : Type) (enc : TypeId × Value → H) :
  ReturnsInHanded {} Tryz.checked os 11 .any (fun w args => (Rows.pulseChosenSpec.pre enc Tryz.prog Tryz.f11 [] false w args ∧ laidMetH Tryz.prog Rows.pulseChosenRow.laid w) ∧ sizedMet enc Tryz.prog Tryz.f11 (OpenSpec.ofChange Rows.pulseChosenSpec) false w args)
   (Rows.pulseChosenSpec.post enc Tryz.prog Tryz.f11 false true false false) := by
 refine returnsInHanded_of_change_and (C := Tryz.checked) (X := fun w _ => laidMetH Tryz.prog Rows.pulseChosenRow.laid w) (fun _ _ _ hh h => h.of_heap hh) own11 started (by kernel_rfl) Tryz.func11
  (ChangeSpec.witness_shaped (enc := enc) (C := Tryz.checked) (os := os) (X := fun w _ => laidMetH Tryz.prog Rows.pulseChosenRow.laid w) false (World.laidAll Tryz.prog os Rows.pulseChosenRow.laid) #[.slice none 0 0, .agg #[.int .i64 0, .int .i64 0], .agg #[.int .i16 0, .int .i16 0]] 8 (World.laidAll_os _ _ _) (World.shaped_of_ZipB (by kernel_rfl) (by kernel_rfl)) (by kernel_rfl) (by kernel_rfl) (by kernel_rfl)
   (by rw [MakeChecks.laidMetH_plain _ _ _ (by kernel_rfl)]; exact laidMet_laidAll _ (by kernel_rfl) (by kernel_rfl))) ?_
 intro W base args ds gs before hval hW _ _ hL _
 exact con11 hval hW hL
end Go.Proofs.YtombnimlolbekaaGreatDoor
