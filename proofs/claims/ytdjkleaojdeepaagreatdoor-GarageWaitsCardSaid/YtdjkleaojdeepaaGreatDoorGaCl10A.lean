import Derived.Test.YtdjkleaojdeepaaGreatDoorGaWaiL
import Derived.Test.YtdjkleaojdeepaaGreatDoorCards
import Derived.Test.YtdjkleaojdeepaaGreatDoorTie
import Derived.SevenTiedAt
import Derived.Lay
import Derived.MakeChecks
import Derived.LaidMore
import Derived.LaidOnce
import Derived.LaidHandle
namespace Go.Proofs.YtdjkleaojdeepaaGreatDoor
open Go Go.ChangeShapes Go.WideShapes Go.ChangeAt Go.RowKit Fw
set_option maxRecDepth 100000

theorem own10 : ownKnob Tryz.prog.godebug = none := by kernel_rfl
theorem laidOut10 : laidOutB Tryz.prog = true := by kernel_rfl

def Ts10 : List Ty := TsWai
theorem isArgs10 : isArgs Tryz.prog Ts10 Tryz.f10.params.toList = true := by kernel_rfl

theorem con10 {H : Type} {enc : TypeId × Value → H} {W : World} {base : Nat} {args : Array Value} {ds gs : List (DataW H)} {before : List MemPlace} (hval : ∀ (j : Nat) t v, Tryz.f10.params[j]? = some t → args[j]? = some v → Value.okWide Tryz.prog W .any base t v)
  (hW : DataW.Whole enc Tryz.prog Tryz.f10.params.toList Rows.garageWaitsSpec.vars false W args.toList ds gs before) (hL : laidMetH Tryz.prog Rows.garageWaitsRow.laid W) :
  Calls Tryz.prog 10 args W (fun e w' => ∃ v, e = .returned v ∧ Rows.garageWaitsSpec.post enc Tryz.prog Tryz.f10 false true false false W args v w') :=
 law_contract (d := 61) fok cok laidOut10 isArgs10 rfl rfl (tb := 4) (by kernel_rfl) (by kernel_rfl) (fun ds hd => by
  have hd' : ds.length = 3 := hd
  match ds, hd' with
  | [_, _, _], _ => rfl) (fun _ => rfl) wai_law hval hW (gok hL)

noncomputable def start10 (os : Os) : World := (World.doorLaid Tryz.prog 50 os).layVars Tryz.prog [("unicode/utf8.first", Rows.laid_unicode_utf8_first)]
theorem met10 (os : Os) (args : Array Value) : laidMetH Tryz.prog Rows.garageWaitsRow.laid ((start10 os).forCall (fun _ _ => 0) ⟨#[], args, []⟩).memory :=
 laidMetH_of_parts3 (fuel := 8) (laidMet_of_run' 8 (by kernel_rfl) (by kernel_rfl)) (by kernel_rfl) (by kernel_rfl)

theorem lifted10 (os : Os) (started : os.Started) (H : Type) (enc : TypeId × Value → H) :
  ReturnsInHanded {} Tryz.checked os 10 .any (fun w args => (Rows.garageWaitsSpec.pre enc Tryz.prog Tryz.f10 [] false w args ∧ laidMetH Tryz.prog Rows.garageWaitsRow.laid w) ∧ sizedMet enc Tryz.prog Tryz.f10 (OpenSpec.ofChange Rows.garageWaitsSpec) false w args)
   (Rows.garageWaitsSpec.post enc Tryz.prog Tryz.f10 false true false false) := by
 refine returnsInHanded_of_change_and (C := Tryz.checked) (X := fun w _ => laidMetH Tryz.prog Rows.garageWaitsRow.laid w) (fun _ _ _ hh h => h.of_heap hh) own10 started (by kernel_rfl) Tryz.func10
  (ChangeSpec.witness_shaped (enc := enc) (C := Tryz.checked) (os := os) (X := fun w _ => laidMetH Tryz.prog Rows.garageWaitsRow.laid w) false (start10 os) #[.agg #[.int .i64 0, .int .i64 0, .slice none 0 0, .slice none 0 0, .slice none 0 0], .agg #[.int .u16 0, .int .u16 0, .int .u16 0, .int .u16 0, .int .u16 0, .int .u16 0], .agg #[.slice none 0 0, .int .u8 0, .int .u8 0, .int .u8 0, .int .u8 0]] 8 ((World.layVars_os _ _ _).trans rfl) (World.shaped_of_RefB (by kernel_rfl) (by kernel_rfl)) (by kernel_rfl) (by kernel_rfl) (by kernel_rfl)
   (met10 os _)) ?_
 intro W base args ds gs before hval hW _ _ hL _
 exact con10 hval hW hL
end Go.Proofs.YtdjkleaojdeepaaGreatDoor
