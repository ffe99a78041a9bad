/- Orders and starts of jobs: their checks, both sides. -/
import Derived.Test.YtdjkleaojdeepaaGreatDoorGaJ2
set_option maxHeartbeats 16000000
namespace Fw
open Go
attribute [local irreducible] evCode evOps evOpsD evOper evOperD evOp evFn loopN T.All T.bind callPure callOp opsK opsDK restK seqK blockK loopS setK setQ giveK scalK gcK finish finS rfunK yldK yldB loopK

theorem pI_len (l : List Int) : (pI l).length = l.length := by simp [pI]
theorem pI_drop (l : List Int) (k : Nat) (hk : k < l.length) : (pI l).drop k = .int .i64 l[k] :: (pI l).drop (k + 1) := by
  rw [List.drop_eq_getElem_cons (by rw [pI_len]; exact hk)]; simp [pI]
theorem pI_take (l : List Int) (k : Nat) : (pI l).take k = pI (l.take k) := by simp [pI]
theorem getI {l : List Int} {i : Nat} (hi : i < l.length) : l.getD i 0 = l[i] := by simp [List.getD_eq_getElem?_getD, hi]
theorem mem_first {l : List Int} {v : Int} {n : Nat} (hn : n = l.length) (h : firstE ((List.range n).map fun i => if l.getD i 0 = v then 1 else 0) = 0) : ¬ v ∈ l := fun hm => by
  subst hn
  obtain ⟨i, hi, he⟩ := List.getElem_of_mem hm
  have := firstE_zero.1 h _ (List.mem_map.2 ⟨i, List.mem_range.2 hi, rfl⟩)
  rw [if_pos (by rw [getI hi]; exact he)] at this
  cases this
theorem has73 {n : Nat} (hn : 1 ≤ n) (l : List Int) (hl : l.length < 1000000) (v : Int) : RUN n 73 [isl l, iv v] = .ret (.p (.bool (decide (v ∈ l)))) := by
  obtain ⟨d, rfl⟩ : ∃ d, n = d + 1 := ⟨n - 1, by omega⟩
  rw [RUN, call_eq fe73 _ rfl]
  have hR := pI_len l
  let inv : Nat → St := fun i => ⟨[(0, isl l), (1, iv v), (5, iv i)], []⟩
  have key := loop_first (step := loopS (evFn F C0 G0 d) C0 G0 0 false [0, 1, 5] c73L0) inv (fun i => if l.getD i 0 = v then 1 else 0) l.length (.exit 0, ⟨(inv l.length).env ++ [(9, .p (.bool false))], []⟩) (fun _ => (.ret, ⟨[(4, .p (.bool true))], []⟩))
    (st0 := ⟨[(0, isl l), (1, iv v), (5, iv 0)], []⟩) (fuel := loopFuel) rfl (fun i hi => by
      have hw := wrap_succ (i := i) (by omega)
      have hdr := pI_drop l i hi
      rw [getI hi]
      simp only [inv, isl]
      generalize hA : pI l = A at *
      generalize A.drop (i + 1) = R2 at *
      generalize l[i] = x at *
      by_cases h : x = v
      · subst h
        rw [if_pos rfl]
        refine ⟨fun h0 => absurd h0 (by decide), fun _ => ?_⟩
        simp -implicitDefEqProofs [hR, loopS_eq, c73L0, hi, hdr]
      · rw [if_neg h]
        have hb : (x == v) = false := by simpa using h
        refine ⟨fun _ => ⟨?_, ?h1, ?h2⟩, fun h0 => absurd rfl h0⟩
        case h1 =>
          simp -implicitDefEqProofs [hR, loopS_eq, c73L0, hi, hdr, hb, hw]
          exact rfl
        case h2 => rfl) (fun _ => by simp) (by simp -implicitDefEqProofs [inv, loopS_eq, c73L0]) (by simp) (by simp [loopFuel]; omega)
  simp -implicitDefEqProofs [c73]
  rcases key with ⟨k1, k2⟩ | ⟨j, hj, k1, k2, k3, k4⟩
  · have hno := mem_first rfl k2
    rw [show loopN _ _ _ = _ from k1]
    simp -implicitDefEqProofs [inv, hno]
  · have hyes : v ∈ l := by
      by_cases h : l.getD j 0 = v
      · rw [getI hj] at h; rw [← h]; exact List.getElem_mem hj
      · rw [if_neg h] at k3; exact absurd rfl k3
    rw [show loopN _ _ _ = _ from k1]
    simp -implicitDefEqProofs [hyes]
theorem index164 {n : Nat} (hn : 1 ≤ n) (l : List Int) (hl : l.length < 1000000) (v : Int) : ∃ r : Int, RUN n 164 [isl l, iv v] = .ret (iv r) ∧ decide (0 ≤ r) = decide (v ∈ l) := by
  obtain ⟨d, rfl⟩ : ∃ d, n = d + 1 := ⟨n - 1, by omega⟩
  rw [RUN, call_eq fe164 _ rfl]
  have hR := pI_len l
  let inv : Nat → St := fun i => ⟨[(0, isl l), (1, iv v), (7, iv l.length), (8, iv i)], []⟩
  have key := loop_first (step := loopS (evFn F C0 G0 d) C0 G0 0 false [0, 1, 7, 8] c164L0) inv (fun i => if l.getD i 0 = v then 1 else 0) l.length (.exit 0, ⟨(inv l.length).env ++ [(9, .p (.bool false))], []⟩) (fun i => (.ret, ⟨[(4, iv i)], []⟩))
    (st0 := ⟨[(0, isl l), (1, iv v), (7, iv l.length), (8, iv 0)], []⟩) (fuel := loopFuel) rfl (fun i hi => by
      have hw := wrap_succ (i := i) (by omega)
      have hdr := pI_drop l i hi
      rw [getI hi]
      simp only [inv, isl]
      generalize hA : pI l = A at *
      generalize A.drop (i + 1) = R2 at *
      generalize l[i] = x at *
      by_cases h : x = v
      · subst h
        rw [if_pos rfl]
        refine ⟨fun h0 => absurd h0 (by decide), fun _ => ?_⟩
        simp -implicitDefEqProofs [hR, loopS_eq, c164L0, hi, hdr]
      · rw [if_neg h]
        have hb : (v == x) = false := by simpa using fun e => h e.symm
        refine ⟨fun _ => ⟨?_, ?h1, ?h2⟩, fun h0 => absurd rfl h0⟩
        case h1 =>
          simp -implicitDefEqProofs [hR, loopS_eq, c164L0, hi, hdr, hb, hw]
          exact rfl
        case h2 => rfl) (fun _ => by simp) (by simp -implicitDefEqProofs [inv, loopS_eq, c164L0]) (by simp) (by simp [loopFuel]; omega)
  simp -implicitDefEqProofs [c164]
  rcases key with ⟨k1, k2⟩ | ⟨j, hj, k1, k2, k3, k4⟩
  · have hno := mem_first rfl k2
    rw [show loopN _ _ _ = _ from k1]
    refine ⟨-1, ?_, ?_⟩
    · simp -implicitDefEqProofs [inv]
    · simp [hno]
  · have hyes : v ∈ l := by
      by_cases h : l.getD j 0 = v
      · rw [getI hj] at h; rw [← h]; exact List.getElem_mem hj
      · rw [if_neg h] at k3; exact absurd rfl k3
    rw [show loopN _ _ _ = _ from k1]
    refine ⟨j, ?_, ?_⟩
    · simp -implicitDefEqProofs []
    · simp [hyes]
theorem contains141 {n : Nat} (hn : 2 ≤ n) (l : List Int) (hl : l.length < 1000000) (v : Int) : RUN n 141 [isl l, iv v] = .ret (.p (.bool (decide (v ∈ l)))) := by
  obtain ⟨d, rfl⟩ : ∃ d, n = d + 2 := ⟨n - 2, by omega⟩
  rw [RUN, call_eq fe141 _ rfl]
  obtain ⟨r, k, hr⟩ := index164 (n := d + 1) (by omega) l hl v
  rw [← hr]
  simp only [isl] at k ⊢
  generalize pI l = A at *
  simp -implicitDefEqProofs [c141, k]

def ord1 (n : Nat) (o : List Int) (k : Nat) : Int := firstE [whenE (decide (o.getD k 0 < 0) || decide ((n : Int) ≤ o.getD k 0)) 10, whenE (decide (o.getD k 0 ∈ o.take k)) 9]
def ordE (n : Nat) (o : List Int) : Int := if o.length ≠ n then 2 else firstE ((List.range o.length).map (ord1 n o))
theorem order109 {n : Nat} (hn : 4 ≤ n) (l : List JobI) (hl : l.length < 1000000) (o : List Int) (_ho : o.length < 1000000) : RUN n 109 [jsl l, isl o] = .ret (iv (ordE l.length o)) := by
  obtain ⟨d, rfl⟩ : ∃ d, n = d + 4 := ⟨n - 4, by omega⟩
  rw [RUN, call_eq fe109 _ rfl]
  by_cases c : o.length = l.length
  · have hcb : ((o.length : Int) != l.length) = false := by simp; omega
    have hci : ((o.length : Int)) = l.length := by omega
    simp only [ordE, c, ne_eq, not_true_eq_false, if_false]
    have hR := pI_len o
    let inv : Nat → St := fun i => ⟨[(0, jsl l), (1, isl o), (13, isl o), (14, iv o.length), (15, iv i)], []⟩
    have key := loop_firstR (step := loopS (evFn F C0 G0 (d + 3)) C0 G0 0 false [0, 1, 13, 14, 15] c109L0) inv (ord1 l.length o) o.length (.exit 0, ⟨(inv o.length).env ++ [(16, .p (.bool false))], (inv o.length).sto⟩) (fun i st => st.env = [(4, iv (ord1 l.length o i))])
      (st0 := ⟨[(0, jsl l), (1, isl o), (13, isl o), (14, iv o.length), (15, iv 0)], []⟩) rfl (fun i hi => by
      have wi := wrap_succ (i := i) (by omega)
      have hdr := pI_drop o i hi
      have ht := pI_take o i
      have htl : (o.take i).length = i := by simp; omega
      have hle : i ≤ o.length := by omega
      have kw := fun b e => when104 (n := d + 3) (by omega) b e
      have k2 := fun a b => first91_2 (n := d + 3) (by omega) a b
      have kc : RUN (d + 3) 141 [.p (.sl (pI (o.take i)) i), iv o[i]] = .ret (.p (.bool (decide (o[i] ∈ o.take i)))) := by
        have := contains141 (n := d + 3) (by omega) (o.take i) (by omega) o[i]
        simp only [isl, htl] at this
        exact this
      unfold ord1
      rw [getI hi]
      simp only [inv, jsl, isl]
      generalize rowC jc l = J at *
      generalize decide (o[i] ∈ o.take i) = q at *
      generalize hA : pI o = A at *
      generalize pI (o.take i) = A1 at *
      generalize A.drop (i + 1) = R2 at *
      generalize o[i] = x at *
      by_cases c1 : x < 0
      · generalize hG : firstE [whenE (decide (x < 0) || decide ((l.length : Int) ≤ x)) 10, whenE q 9] = e at *
        have hG' : firstE [whenE true 10, whenE q 9] = e := by rw [← hG]; simp [c1]
        refine ⟨fun he => ?_, fun he => ?_⟩
        · subst he; exact absurd hG' (by simp [firstE, whenE])
        · refine ⟨?_, ?h1, ?h2⟩
          case h1 =>
            simp -implicitDefEqProofs [loopS_eq, c109L0, hi, hle, hR, hdr, ht, kw, k2, kc, c1, hG', he]
            exact rfl
          case h2 => rfl
      · generalize hG : firstE [whenE (decide (x < 0) || decide ((l.length : Int) ≤ x)) 10, whenE q 9] = e at *
        have hG' : firstE [whenE (decide ((l.length : Int) ≤ x)) 10, whenE q 9] = e := by rw [← hG]; simp [c1]
        refine ⟨fun he => ?_, fun he => ?_⟩
        · subst he
          refine ⟨?_, ?h1, ?h2⟩
          case h1 =>
            simp -implicitDefEqProofs [loopS_eq, c109L0, hi, hle, hR, hdr, ht, kw, k2, kc, c1, hG', wi]
            exact rfl
          case h2 => rfl
        · refine ⟨?_, ?h1, ?h2⟩
          case h1 =>
            simp -implicitDefEqProofs [loopS_eq, c109L0, hi, hle, hR, hdr, ht, kw, k2, kc, c1, hG', he]
            exact rfl
          case h2 => rfl) (by simp -implicitDefEqProofs [inv, loopS_eq, c109L0]) (by simp) (fuel := loopFuel) (by simp [loopFuel]; omega)
    rw [c] at key
    rcases key with ⟨h1, h2⟩ | ⟨j, ⟨env, sto⟩, hj, h1, h2, h3, _, _⟩
    · rw [show firstE _ = 0 from h2]
      simp only [inv] at h1
      simp -implicitDefEqProofs [c109, hci]
      rw [show loopN _ _ _ = _ from h1]
      simp
    · rw [show firstE _ = _ from h3]
      simp only at h2
      subst h2
      simp -implicitDefEqProofs [c109, hci]
      rw [show loopN _ _ _ = _ from h1]
      simp
  · have hcb : ((o.length : Int) != l.length) = true := by simp; omega
    have hci : ¬ ((o.length : Int)) = l.length := by omega
    simp only [ordE, c, ne_eq, not_false_eq_true, if_true]
    simp -implicitDefEqProofs [c109, hcb]
theorem order52 {n : Nat} (hn : 4 ≤ n) (l : List JobI) (hl : l.length < 1000000) (o : List Int) (_ho : o.length < 1000000) : RUN n 52 [jsl l, isl o] = .ret (iv (ordE l.length o)) := by
  obtain ⟨d, rfl⟩ : ∃ d, n = d + 4 := ⟨n - 4, by omega⟩
  rw [RUN, call_eq fe52 _ rfl]
  by_cases c : o.length = l.length
  · have hcb : ((o.length : Int) != l.length) = false := by simp; omega
    have hci : ((o.length : Int)) = l.length := by omega
    simp only [ordE, c, ne_eq, not_true_eq_false, if_false]
    have hR := pI_len o
    let inv : Nat → St := fun i => ⟨[(0, jsl l), (1, isl o), (5, iv i)], []⟩
    have key := loop_firstR (step := loopS (evFn F C0 G0 (d + 3)) C0 G0 0 false [0, 1, 5] c52L0) inv (ord1 l.length o) o.length (.exit 0, ⟨(inv o.length).env ++ [(15, .p (.bool false))], (inv o.length).sto⟩) (fun i st => st.env = [(4, iv (ord1 l.length o i))])
      (st0 := ⟨[(0, jsl l), (1, isl o), (5, iv 0)], []⟩) rfl (fun i hi => by
      have wi := wrap_succ (i := i) (by omega)
      have hdr := pI_drop o i hi
      have ht := pI_take o i
      have htl : (o.take i).length = i := by simp; omega
      have hle : i ≤ o.length := by omega
      have kw := fun b e => when94 (n := d + 3) (by omega) b e
      have k2 := fun a b => first23_2 (n := d + 3) (by omega) a b
      have kc : RUN (d + 3) 73 [.p (.sl (pI (o.take i)) i), iv o[i]] = .ret (.p (.bool (decide (o[i] ∈ o.take i)))) := by
        have := has73 (n := d + 3) (by omega) (o.take i) (by omega) o[i]
        simp only [isl, htl] at this
        exact this
      unfold ord1
      rw [getI hi]
      simp only [inv, jsl, isl]
      generalize rowC jc l = J at *
      generalize decide (o[i] ∈ o.take i) = q at *
      generalize hA : pI o = A at *
      generalize pI (o.take i) = A1 at *
      generalize A.drop (i + 1) = R2 at *
      generalize o[i] = x at *
      by_cases c1 : x < 0
      · generalize hG : firstE [whenE (decide (x < 0) || decide ((l.length : Int) ≤ x)) 10, whenE q 9] = e at *
        have hG' : firstE [whenE true 10, whenE q 9] = e := by rw [← hG]; simp [c1]
        refine ⟨fun he => ?_, fun he => ?_⟩
        · subst he; exact absurd hG' (by simp [firstE, whenE])
        · refine ⟨?_, ?h1, ?h2⟩
          case h1 =>
            simp -implicitDefEqProofs [loopS_eq, c52L0, hi, hle, hR, hdr, ht, kw, k2, kc, c1, hG', he]
            exact rfl
          case h2 => rfl
      · generalize hG : firstE [whenE (decide (x < 0) || decide ((l.length : Int) ≤ x)) 10, whenE q 9] = e at *
        have hG' : firstE [whenE (decide ((l.length : Int) ≤ x)) 10, whenE q 9] = e := by rw [← hG]; simp [c1]
        refine ⟨fun he => ?_, fun he => ?_⟩
        · subst he
          refine ⟨?_, ?h1, ?h2⟩
          case h1 =>
            simp -implicitDefEqProofs [loopS_eq, c52L0, hi, hle, hR, hdr, ht, kw, k2, kc, c1, hG', wi]
            exact rfl
          case h2 => rfl
        · refine ⟨?_, ?h1, ?h2⟩
          case h1 =>
            simp -implicitDefEqProofs [loopS_eq, c52L0, hi, hle, hR, hdr, ht, kw, k2, kc, c1, hG', he]
            exact rfl
          case h2 => rfl) (by simp -implicitDefEqProofs [inv, loopS_eq, c52L0]) (by simp) (fuel := loopFuel) (by simp [loopFuel]; omega)
    rw [c] at key
    rcases key with ⟨h1, h2⟩ | ⟨j, ⟨env, sto⟩, hj, h1, h2, h3, _, _⟩
    · rw [show firstE _ = 0 from h2]
      simp only [inv] at h1
      simp -implicitDefEqProofs [c52, hci]
      rw [show loopN _ _ _ = _ from h1]
      simp
    · rw [show firstE _ = _ from h3]
      simp only at h2
      subst h2
      simp -implicitDefEqProofs [c52, hci]
      rw [show loopN _ _ _ = _ from h1]
      simp
  · have hcb : ((o.length : Int) != l.length) = true := by simp; omega
    have hci : ¬ ((o.length : Int)) = l.length := by omega
    simp only [ordE, c, ne_eq, not_false_eq_true, if_true]
    simp -implicitDefEqProofs [c52, hcb]
end Fw
