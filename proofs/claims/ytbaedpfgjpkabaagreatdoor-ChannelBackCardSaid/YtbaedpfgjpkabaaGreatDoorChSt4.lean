/- Lists of sensors: checked by the chapter. -/
import Derived.Test.YtbaedpfgjpkabaaGreatDoorChSt3
set_option maxHeartbeats 8000000
namespace Fw
open Go
attribute [local irreducible] evCode evOps evOpsD evOper evOperD evOp evFn loopN T.All T.bind callPure callOp opsK opsDK restK seqK blockK loopS setK setQ giveK scalK gcK finish finS rfunK yldK yldB loopK

def namK (l : List SenI) : List PVal := l.map fun s => .str s.name
def truV (l : List SenI) : List PVal := l.map fun _ => .bool true
theorem find_name (l : List SenI) (nm : List UInt8) : mapFind (.str nm) (namK l) (truV l) = some (if l.any (fun s => decide (s.name = nm)) = true then some (.bool true) else none) := by
  induction l with
  | nil => simp [namK, truV, mapFind]
  | cons s r ih =>
    simp only [namK, truV, List.map_cons, mapFind] at ih ⊢
    by_cases h : s.name = nm
    · simp [keyEq, h]
    · have h' : ¬ nm = s.name := fun e => h e.symm
      have hb : (nm == s.name) = false := by simpa using h'
      simp [keyEq, eqP, h, hb, ih]
theorem first_append (a b : List Int) : firstE (a ++ b) = if firstE a = 0 then firstE b else firstE a := by
  induction a with
  | nil => rfl
  | cons x r ih =>
    rw [List.cons_append, firstE_cons, firstE_cons, ih]
    by_cases h : x = 0 <;> simp [h]
theorem tw_any (l : List SenI) (i : Nat) (hi : i ≤ l.length) (nm : List UInt8) : firstE (twL l i nm) = whenE ((l.take i).any fun s => decide (s.name = nm)) 9 := by
  induction i with
  | zero => rfl
  | succ i ih =>
    have hg : l.getD i ⟨[], 0, 0, 0⟩ = l[i] := by rw [List.getD_eq_getElem?_getD, List.getElem?_eq_getElem (by omega)]; rfl
    have e1 : twL l (i + 1) nm = twL l i nm ++ [if l[i].name = nm then 9 else 0] := by simp [twL, List.range_succ, ← hg]
    have e2 : l.take (i + 1) = l.take i ++ [l[i]] := by rw [List.take_add_one, List.getElem?_eq_getElem (by omega)]; rfl
    rw [e1, e2, first_append, ih (by omega), List.any_append]
    simp only [List.any_cons, List.any_nil, Bool.or_false]
    cases (l.take i).any fun s => decide (s.name = nm)
    · by_cases h : l[i].name = nm <;> simp [h, whenE, firstE]
    · simp [whenE]

theorem check161 {n : Nat} (hn : 6 ≤ n) (l : List SenI) (hl : l.length < 1000000) (hnl : ∀ s ∈ l, s.name.length ≤ 9223372036854775807) : RUN n 161 [ssl l] = .ret (iv (sensE l)) := by
  obtain ⟨d, rfl⟩ : ∃ d, n = d + 6 := ⟨n - 6, by omega⟩
  rw [RUN, call_eq fe161 _ rfl]
  have hR := sR_len l
  have kw := fun x => when104 (n := d + 5) (by omega) x 9
  have k3 := fun a b => first103_2 (n := d + 5) (by omega) a b
  by_cases c : (16 : Int) < l.length
  · have c' : 16 < l.length := by omega
    simp -implicitDefEqProofs [c161, c, sensE, c']
  · have c' : ¬ 16 < l.length := by omega
    simp only [sensE, if_neg c']
    let inv : Nat → St := fun i => ⟨[(3, .mp 0), (11, ssl l), (12, iv l.length), (13, iv i)], [(0, .map (namK (l.take i)) (truV (l.take i)))]⟩
    have hes : (sensL l).length = l.length := by simp [sensL]
    have hloop : ∃ r, loopN (loopS (evFn F C0 G0 (d + 5)) C0 G0 0 true [3, 11, 12, 13] c161L0) loopFuel ⟨[(3, .mp 0), (11, ssl l), (12, iv l.length), (13, .p (.int .i64 0))], [(0, .map [] [])]⟩ = .ret r ∧ (firstE (sensL l) = 0 → r = (.exit 0, ⟨(inv l.length).env ++ [(14, .p (.bool false))], (inv l.length).sto⟩)) ∧ (firstE (sensL l) ≠ 0 → r.1 = .ret ∧ r.2.env = [(2, iv (firstE (sensL l)))]) := by
      refine loop_errsQ inv (sensL l) _ (fun e r => r.1 = .ret ∧ r.2.env = [(2, iv e)]) (by rfl) ?_ ?_ (by simp) (by rw [hes]; simp [loopFuel]; omega)
      · intro i hi
        have hil : i < l.length := hes ▸ hi
        have w2 := wrap_succ (i := i) (by omega)
        have hlt : i * 4 < l.length * 4 := by omega
        have hdr := rowC_drop sc_len l i hil
        have k34 := sensor34 (n := d + 5) (by omega) l[i] (hnl _ (List.getElem_mem hil))
        have hgi : l.getD i ⟨[], 0, 0, 0⟩ = l[i] := by rw [List.getD_eq_getElem?_getD, List.getElem?_eq_getElem hil]; rfl
        have hf := find_name (l.take i) l[i].name
        have he : (sensL l)[i] = firstE [senE l[i], whenE ((l.take i).any fun s => decide (s.name = l[i].name)) 9] := by
          have h0 : (sensL l)[i] = senI1 l i := by simp [sensL]
          rw [h0, senI1, hgi, tw_any l i (by omega), firstE_cons]
          generalize whenE ((l.take i).any fun s => decide (s.name = l[i].name)) 9 = w
          by_cases hw : w = 0 <;> simp [firstE, hw]
        have htk : l.take (i + 1) = l.take i ++ [l[i]] := by rw [List.take_add_one, List.getElem?_eq_getElem hil]; rfl
        have hk1 : namK (l.take (i + 1)) = namK (l.take i) ++ [.str l[i].name] := by
          rw [htk]; simp only [namK, List.map_append, List.map_cons, List.map_nil]
        have hk2 : truV (l.take (i + 1)) = truV (l.take i) ++ [.bool true] := by
          rw [htk]; simp only [truV, List.map_append, List.map_cons, List.map_nil]
        have k4 := k3 (senE l[i]) (whenE ((l.take i).any fun s => decide (s.name = l[i].name)) 9)
        rw [he]
        simp only [inv, hk1, hk2]
        clear he hgi hk1 hk2 htk
        generalize hA : rowC sc l = A at *
        generalize rowC sc (l.drop (i + 1)) = R2 at *
        generalize namK (l.take i) = K at *
        generalize truV (l.take i) = V at *
        generalize ((l.take i).any fun s => decide (s.name = l[i].name)) = b at *
        generalize hE : firstE [senE l[i], whenE b 9] = E at *
        have hE2 : E = 0 → b = false := fun h => by
          rw [h] at hE
          have := firstE_zero.1 hE (whenE b 9) (by simp)
          cases b with
          | false => rfl
          | true => cases this
        generalize senE l[i] = e1 at *
        generalize l[i] = s at *
        obtain ⟨nm, sk, sl, sh⟩ := s
        by_cases z : E = 0
        · have hb := hE2 z
          subst hb
          rw [z] at k4
          refine ⟨fun _ => ⟨⟨[(3, .mp 0), (11, ssl l), (12, iv l.length), (13, iv ((i : Int) + 1))], [(1, .arr [.str nm, .int .i64 sk, .int .i64 sl, .int .i64 sh] 0 1), (0, .map (K ++ [.str nm]) (V ++ [.bool true]))]⟩, ?_, loopS_same rfl (by simp)⟩, fun he => absurd z he⟩
          simp -implicitDefEqProofs [loopS_eq, c161L0, hil, hA, hR, hlt, hdr, sc, k34, kw, k4, hf, keyOk, w2]
        · refine ⟨fun he => absurd he z, fun _ => ?_⟩
          cases b with
          | true => exact ⟨_, by simp -implicitDefEqProofs [loopS_eq, c161L0, hil, hA, hR, hlt, hdr, sc, k34, kw, k4, hf, keyOk, z]; exact rfl, by simp⟩
          | false => exact ⟨_, by simp -implicitDefEqProofs [loopS_eq, c161L0, hil, hA, hR, hlt, hdr, sc, k34, kw, k4, hf, keyOk, z]; exact rfl, by simp⟩
      · rw [hes]
        simp -implicitDefEqProofs [inv, loopS_eq, c161L0]
    obtain ⟨r, hr, hok, hbad⟩ := hloop
    by_cases hz : firstE (sensL l) = 0
    · have hre := hok hz
      subst hre
      rw [hz]
      simp only [inv] at hr
      simp -implicitDefEqProofs [c161, c, hr]
    · obtain ⟨b1, b2⟩ := hbad hz
      obtain ⟨e, env, sto⟩ := r
      simp only at b1 b2
      subst b1 b2
      simp -implicitDefEqProofs [c161, c, hr]
end Fw
