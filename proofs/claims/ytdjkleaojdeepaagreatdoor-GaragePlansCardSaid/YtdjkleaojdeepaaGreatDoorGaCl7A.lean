import Derived.Test.YtdjkleaojdeepaaGreatDoorGaPlaL
import Derived.Test.YtdjkleaojdeepaaGreatDoorCards
import Derived.Test.YtdjkleaojdeepaaGreatDoorTie
import Derived.SevenTiedAt
import Derived.Lay
import Derived.MakeChecks
import Derived.LaidMore
import Derived.LaidOnce
import Derived.LaidHandle
namespace Go.Proofs.YtdjkleaojdeepaaGreatDoor
open Go Go.ChangeShapes Go.WideShapes Go.ChangeAt Go.RowKit Fw
set_option maxRecDepth 100000

theorem own7 : ownKnob Tryz.prog.godebug = none := by kernel_rfl
theorem laidOut7 : laidOutB Tryz.prog = true := by kernel_rfl

def Ts7 : List Ty := TsPla
theorem isArgs7 : isArgs Tryz.prog Ts7 Tryz.f7.params.toList = true := by kernel_rfl

/-- what the law returns, in the model's words -/
theorem con7 {H : Type} {enc : TypeId × Value → H} {W : World} {base : Nat} {args : Array Value} {ds gs : List (DataW H)} {before : List MemPlace} (hval : ∀ (j : Nat) t v, Tryz.f7.params[j]? = some t → args[j]? = some v → Value.okWide Tryz.prog W .any base t v)
    (hW : DataW.Whole enc Tryz.prog Tryz.f7.params.toList Rows.garagePlansSpec.vars false W args.toList ds gs before) (hL : laidMetH Tryz.prog Rows.garagePlansRow.laid W) :
    Calls Tryz.prog 7 args W (fun e w' => ∃ v, e = .returned v ∧ Rows.garagePlansSpec.post enc Tryz.prog Tryz.f7 false true false false W args v w') :=
  law_contract (d := 61) fok cok laidOut7 isArgs7 rfl rfl (tb := 4) (by kernel_rfl) (by kernel_rfl) (fun ds hd => by
    have hd' : ds.length = 1 := hd
    match ds, hd' with
    | [_], _ => rfl) (fun _ => rfl) pla_law hval hW (gok hL)

noncomputable def start7 (os : Os) : World := (World.doorLaid Tryz.prog 50 os).layVars Tryz.prog [("unicode/utf8.first", Rows.laid_unicode_utf8_first)]
theorem met7 (os : Os) (args : Array Value) : laidMetH Tryz.prog Rows.garagePlansRow.laid ((start7 os).forCall (fun _ _ => 0) ⟨#[], args, []⟩).memory :=
  laidMetH_of_parts3 (fuel := 8) (laidMet_of_run' 8 (by kernel_rfl) (by kernel_rfl)) (by kernel_rfl) (by kernel_rfl)

theorem lifted7 (os : Os) (started : os.Started) (H : Type) (enc : TypeId × Value → H) :
    ReturnsInHanded {} Tryz.checked os 7 .any (fun w args => (Rows.garagePlansSpec.pre enc Tryz.prog Tryz.f7 [] false w args ∧ laidMetH Tryz.prog Rows.garagePlansRow.laid w) ∧ sizedMet enc Tryz.prog Tryz.f7 (OpenSpec.ofChange Rows.garagePlansSpec) false w args)
      (Rows.garagePlansSpec.post enc Tryz.prog Tryz.f7 false true false false) := by
  refine returnsInHanded_of_change_and (C := Tryz.checked) (X := fun w _ => laidMetH Tryz.prog Rows.garagePlansRow.laid w) (fun _ _ _ hh h => h.of_heap hh) own7 started (by kernel_rfl) Tryz.func7
    (ChangeSpec.witness_shaped (enc := enc) (C := Tryz.checked) (os := os) (X := fun w _ => laidMetH Tryz.prog Rows.garagePlansRow.laid w) false (start7 os) #[.slice none 0 0] 8 ((World.layVars_os _ _ _).trans rfl) (World.shaped_of_RefB (by kernel_rfl) (by kernel_rfl)) (by kernel_rfl) (by kernel_rfl) (by kernel_rfl)
      (met7 os _)) ?_
  intro W base args ds gs before hval hW _ _ hL _
  exact con7 hval hW hL
end Go.Proofs.YtdjkleaojdeepaaGreatDoor
