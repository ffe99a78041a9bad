import Derived.Test.YtfkacogfieiccaaGreatDoorBaFrL
import Derived.Test.YtfkacogfieiccaaGreatDoorCards
import Derived.Test.YtfkacogfieiccaaGreatDoorTie
import Derived.SevenTiedAt
import Derived.Lay
import Derived.MakeChecks
import Derived.LaidMore
import Derived.LaidOnce
import Derived.LaidHandle
namespace Go.Proofs.YtfkacogfieiccaaGreatDoor
open Go Go.ChangeShapes Go.WideShapes Go.ChangeAt Go.RowKit Fw
set_option maxRecDepth 100000

theorem own11 : ownKnob Tryz.prog.godebug = none := by kernel_rfl
theorem laidOut11 : laidOutB Tryz.prog = true := by kernel_rfl

def Ts11 : List Ty := TsFar
theorem isArgs11 : isArgs Tryz.prog Ts11 Tryz.f11.params.toList = true := by kernel_rfl

theorem con11 {H : Type} {enc : TypeId × Value → H} {W : World} {base : Nat} {args : Array Value} {ds gs : List (DataW H)} {before : List MemPlace} (hval : ∀ (j : Nat) t v, Tryz.f11.params[j]? = some t → args[j]? = some v → Value.okWide Tryz.prog W .any base t v)
  (hW : DataW.Whole enc Tryz.prog Tryz.f11.params.toList Rows.barrierFartherSpec.vars false W args.toList ds gs before) (hL : laidMetH Tryz.prog Rows.barrierFartherRow.laid W) :
  Calls Tryz.prog 11 args W (fun e w' => ∃ v, e = .returned v ∧ Rows.barrierFartherSpec.post enc Tryz.prog Tryz.f11 false true false false W args v w') :=
 law_contract (d := 61) fok cok laidOut11 isArgs11 rfl rfl (tb := 4) (by kernel_rfl) (by kernel_rfl) (fun ds hd => by
  have hd' : ds.length = 2 := hd
  match ds, hd' with
  | [_, _], _ => rfl) (fun _ => rfl) far_law hval hW (gok hL)

noncomputable def start11 (os : Os) : World := (World.doorLaid Tryz.prog 50 os).layVars Tryz.prog [("unicode/utf8.first", Rows.laid_unicode_utf8_first)]
theorem met11 (os : Os) (args : Array Value) : laidMetH Tryz.prog Rows.barrierFartherRow.laid ((start11 os).forCall (fun _ _ => 0) ⟨#[], args, []⟩).memory :=
 laidMetH_of_parts3 (fuel := 8) (laidMet_of_run' 8 (by kernel_rfl) (by kernel_rfl)) (by kernel_rfl) (by kernel_rfl)

theorem lifted11 (os : Os) (started : os.Started) (H : Type) (enc : TypeId × Value → H) :
  ReturnsInHanded {} Tryz.checked os 11 .any (fun w args => (Rows.barrierFartherSpec.pre enc Tryz.prog Tryz.f11 [] false w args ∧ laidMetH Tryz.prog Rows.barrierFartherRow.laid w) ∧ sizedMet enc Tryz.prog Tryz.f11 (OpenSpec.ofChange Rows.barrierFartherSpec) false w args)
   (Rows.barrierFartherSpec.post enc Tryz.prog Tryz.f11 false true false false) := by
 refine returnsInHanded_of_change_and (C := Tryz.checked) (X := fun w _ => laidMetH Tryz.prog Rows.barrierFartherRow.laid w) (fun _ _ _ hh h => h.of_heap hh) own11 started (by kernel_rfl) Tryz.func11
  (ChangeSpec.witness_shaped (enc := enc) (C := Tryz.checked) (os := os) (X := fun w _ => laidMetH Tryz.prog Rows.barrierFartherRow.laid w) false (start11 os) #[.agg #[.slice none 0 0, .int .i64 0, .int .i64 0, .int .i64 0, .int .i64 0, .int .i64 0], .agg #[.int .u8 0, .int .u8 0, .int .u8 0]] 8 ((World.layVars_os _ _ _).trans rfl) (World.shaped_of_RefB (by kernel_rfl) (by kernel_rfl)) (by kernel_rfl) (by kernel_rfl) (by kernel_rfl)
   (met11 os _)) ?_
 intro W base args ds gs before hval hW _ _ hL _
 exact con11 hval hW hL
end Go.Proofs.YtfkacogfieiccaaGreatDoor
