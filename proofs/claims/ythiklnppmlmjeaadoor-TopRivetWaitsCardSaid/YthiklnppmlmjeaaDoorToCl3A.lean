import Derived.Test.YthiklnppmlmjeaaDoorToWaiL
import Derived.Test.YthiklnppmlmjeaaDoorCards
import Derived.Test.YthiklnppmlmjeaaDoorTie
import Derived.SevenTiedAt
import Derived.Lay
import Derived.MakeChecks
import Derived.LaidMore
import Derived.LaidOnce
import Derived.LaidHandle
namespace Go.Proofs.YthiklnppmlmjeaaDoor
open Go Go.ChangeShapes Go.WideShapes Go.ChangeAt Go.RowKit Fw
set_option maxRecDepth 100000

theorem own3 : ownKnob Tryd.prog.godebug = none := by kernel_rfl
theorem laidOut3 : laidOutB Tryd.prog = true := by kernel_rfl

def Ts3 : List Ty := TsWts
theorem isArgs3 : isArgs Tryd.prog Ts3 Tryd.f3.params.toList = true := by kernel_rfl

theorem con3 {H : Type} {enc : TypeId × Value → H} {W : World} {base : Nat} {args : Array Value} {ds gs : List (DataW H)} {before : List MemPlace} (hval : ∀ (j : Nat) t v, Tryd.f3.params[j]? = some t → args[j]? = some v → Value.okWide Tryd.prog W .any base t v)
  (hW : DataW.Whole enc Tryd.prog Tryd.f3.params.toList Rows.topRivetWaitsSpec.vars false W args.toList ds gs before) (hL : laidMetH Tryd.prog Rows.topRivetWaitsRow.laid W) :
  Calls Tryd.prog 3 args W (fun e w' => ∃ v, e = .returned v ∧ Rows.topRivetWaitsSpec.post enc Tryd.prog Tryd.f3 false true false false W args v w') :=
 law_contract (d := 61) fok cok laidOut3 isArgs3 rfl rfl (tb := 4) (by kernel_rfl) (by kernel_rfl) (fun ds hd => by
  have hd' : ds.length = 2 := hd
  match ds, hd' with
  | [_, _], _ => rfl) (fun _ => rfl) wts_law hval hW (gok hL)

noncomputable def start3 (os : Os) : World := World.doorLaid Tryd.prog 50 os
theorem met3 (os : Os) (args : Array Value) : laidMetH Tryd.prog Rows.topRivetWaitsRow.laid ((start3 os).forCall (fun _ _ => 0) ⟨#[], args, []⟩).memory :=
 laidMetH_of_parts3 (fuel := 8) (laidMet_of_run' 8 (by kernel_rfl) (by kernel_rfl)) (by kernel_rfl) (by kernel_rfl)

theorem lifted3 (os : Os) (started : os.Started) (H : Type) (enc : TypeId × Value → H) :
  ReturnsInHanded {} Tryd.checked os 3 .any (fun w args => (Rows.topRivetWaitsSpec.pre enc Tryd.prog Tryd.f3 [] false w args ∧ laidMetH Tryd.prog Rows.topRivetWaitsRow.laid w) ∧ sizedMet enc Tryd.prog Tryd.f3 (OpenSpec.ofChange Rows.topRivetWaitsSpec) false w args)
   (Rows.topRivetWaitsSpec.post enc Tryd.prog Tryd.f3 false true false false) := by
 refine returnsInHanded_of_change_and (C := Tryd.checked) (X := fun w _ => laidMetH Tryd.prog Rows.topRivetWaitsRow.laid w) (fun _ _ _ hh h => h.of_heap hh) own3 started (by kernel_rfl) Tryd.func3
  (ChangeSpec.witness_shaped (enc := enc) (C := Tryd.checked) (os := os) (X := fun w _ => laidMetH Tryd.prog Rows.topRivetWaitsRow.laid w) false (start3 os) #[.agg #[.int .i64 0, .int .i64 0, .slice none 0 0, .slice none 0 0, .slice none 0 0], .agg #[.int .i64 0, .int .i64 0, .int .i64 0, .int .i64 0, .int .i64 0, .slice none 0 0, .int .u8 0, .int .u16 0, .int .u16 0]] 8 rfl (World.shaped_of_RefB (by kernel_rfl) (by kernel_rfl)) (by kernel_rfl) (by kernel_rfl) (by kernel_rfl)
   (met3 os _)) ?_
 intro W base args ds gs before hval hW _ _ hL _
 exact con3 hval hW hL
end Go.Proofs.YthiklnppmlmjeaaDoor
