/- Jobs: their checks, both sides. -/
import Derived.Test.YtdjkleaojdeepaaGreatDoorGaK
set_option maxHeartbeats 16000000
namespace Fw
open Go
attribute [local irreducible] evCode evOps evOpsD evOper evOperD evOp evFn loopN T.All T.bind callPure callOp opsK opsDK restK seqK blockK loopS setK setQ giveK scalK gcK finish finS rfunK yldK yldB loopK

structure JobI where
  name : List UInt8
  dummy : Int
  crew : Int
  hall : Int
  time : Int
  soak : Int
def jc (x : JobI) : List PVal := [.str x.name, .int .i64 x.dummy, .int .i64 x.crew, .int .i64 x.hall, .int .i64 x.time, .int .i64 x.soak]
abbrev ja (x : JobI) : AVal := .agg [sv x.name, iv x.dummy, iv x.crew, iv x.hall, iv x.time, iv x.soak]
abbrev jsl (l : List JobI) : AVal := .p (.sl (rowC jc l) l.length)
theorem jc_len (x : JobI) : (jc x).length = 6 := rfl
theorem jR_len (l : List JobI) : (rowC jc l).length = l.length * 6 := rowC_len jc_len l
def zJ : JobI := ⟨[], 0, 0, 0, 0, 0⟩
theorem getJ {l : List JobI} {i : Nat} (hi : i < l.length) : l.getD i zJ = l[i] := by simp [List.getD_eq_getElem?_getD, hi]
def lnJ (x : JobI) : Int := if 40 < x.name.length then 1 else 0
theorem short47 {n : Nat} (hn : 1 ≤ n) (l : List JobI) (hl : l.length ≤ 9223372036854775807) : RUN n 47 [jsl l] = .ret (.p (.bool (decide (firstE (l.map lnJ) = 0) && (decide (l.length ≤ 6) || decide (l.length = 9))))) := by
  obtain ⟨d, rfl⟩ : ∃ d, n = d + 1 := ⟨n - 1, by omega⟩
  rw [RUN, call_eq fe47 _ rfl]
  have hR := jR_len l
  let inv : Nat → St := fun i => ⟨[(0, jsl l), (3, iv i)], []⟩
  simp -implicitDefEqProofs [c47]
  rw [loop_errs (st0 := ⟨[(0, jsl l), (3, .p (.int .i64 0))], []⟩) inv (l.map lnJ) (.exit 0, ⟨(inv l.length).env ++ [(7, .p (.bool false))], []⟩) (fun _ => (.ret, ⟨[(2, .p (.bool false))], []⟩)) (by rfl)]
  · by_cases y : firstE (l.map lnJ) = 0
    · by_cases a : (l.length : Int) ≤ 6
      · have a' : l.length ≤ 6 := by omega
        simp -implicitDefEqProofs [y, inv, a, a']
      · have a' : ¬ l.length ≤ 6 := by omega
        have : ((l.length : Int) == 9) = decide (l.length = 9) := by
          by_cases b : l.length = 9
          · simp [b]
          · have : ¬ (l.length : Int) = 9 := by omega
            simp [b, this]
        simp -implicitDefEqProofs [y, inv, a, a', this]
    · simp -implicitDefEqProofs [y]
  · intro i hi
    have hi' : i < l.length := by simpa using hi
    have w2 := wrap_succ (i := i) (by omega)
    have hlt : i * 6 < l.length * 6 := by omega
    have hdr := rowC_drop jc_len l i hi'
    simp only [List.getElem_map]
    unfold lnJ
    generalize hA : rowC jc l = A at *
    generalize rowC jc (l.drop (i + 1)) = R2 at *
    generalize l[i] = s at *
    obtain ⟨nm, a1, a2, a3, a4, a5⟩ := s
    simp only at hdr ⊢
    by_cases c : 40 < nm.length
    · have c' : (40 : Int) < nm.length := by omega
      refine ⟨fun he => ?_, fun he => ?_⟩
      · simp [c] at he
      · simp -implicitDefEqProofs [inv, loopS_eq, c47L0, hi', hA, hR, hlt, hdr, jc, c']
    · have c' : ¬ (40 : Int) < nm.length := by omega
      refine ⟨fun he => ⟨_, ?_, rfl⟩, fun he => ?_⟩
      · simp -implicitDefEqProofs [inv, loopS_eq, c47L0, hi', hA, hR, hlt, hdr, jc, c', w2]
      · simp [c] at he
  · intro e; simp
  · simp -implicitDefEqProofs [inv, loopS_eq, c47L0]
  · simp
  · simp [loopFuel]; omega
theorem tests49 {n : Nat} (hn : 1 ≤ n) (l : List JobI) (hl : l.length < 1000000) : RUN n 49 [jsl l] = .ret (.own (rowC jc l) l.length 6) := by
  obtain ⟨d, rfl⟩ : ∃ d, n = d + 1 := ⟨n - 1, by omega⟩
  rw [RUN, call_eq fe49 _ rfl]
  let inv : Nat → St := fun i => ⟨[(3, .sl 0 i 0 i), (6, jsl l), (7, iv l.length), (8, iv i)], [(0, .arr (rowC jc (l.take i)) i 6)]⟩
  have hR := jR_len l
  simp -implicitDefEqProofs [c49]
  rw [loop_run' inv l.length (e := .exit 0) (st' := ⟨(inv l.length).env ++ [(9, .p (.bool false))], (inv l.length).sto⟩) (by simp)]
  · simp -implicitDefEqProofs [inv, hR]
  · rfl
  · intro i hi
    have hlim : i + 1 ≤ lim := by simp only [lim]; omega
    have wi := wrap_succ (i := i) (by omega)
    have hti : (l.take i).length = i := by simp; omega
    have hln := jR_len (l.take i)
    rw [hti] at hln
    have hr : rowC jc (l.take (i + 1)) = rowC jc (l.take i) ++ jc l[i] := rowC_take _ _ hi
    have hlt : i * 6 < l.length * 6 := by omega
    have hlt6 : i * 6 + 6 ≤ l.length * 6 := by omega
    have hdr := rowC_drop jc_len l i hi
    simp only [inv]
    generalize hA : rowC jc l = A at *
    generalize rowC jc (l.take i) = R' at *
    generalize rowC jc (l.drop (i + 1)) = R2 at *
    generalize hv : l[i] = v at *
    refine ⟨?_, ?h1, ?h2⟩
    case h1 =>
      simp -implicitDefEqProofs [loopS_eq, c49L0, hi, hA, hR, hlt, hdr, jc, hlim, hln, wi]
      exact rfl
    case h2 => exact loopS_same rfl (by simp [hr, jc])
  · simp -implicitDefEqProofs [inv, loopS_eq, c49L0]
  · simp [loopFuel]; omega

/-- the error of a job's numbers -/
def jRng (x : JobI) : Int := firstE [rangeE 0 16 x.dummy, rangeE 0 16 x.crew, rangeE 0 16 x.hall, rangeE 1 10000 x.time, rangeE 0 10000 x.soak]
def jTw (l : List JobI) (i : Nat) : Bool := decide ((l.getD i zJ).name ∈ (l.take i).map (·.name))
def job1 (l : List JobI) (i : Nat) : Int := firstE [whenE (!nameB (l.getD i zJ).name) 8, whenE (jTw l i) 9, jRng (l.getD i zJ)]
def jobE (l : List JobI) : Int := if 8 < l.length then 5 else firstE ((List.range l.length).map (job1 l))
theorem check113 {n : Nat} (hn : 2 ≤ n) (x : JobI) (hx : x.name.length ≤ 9223372036854775807) : RUN n 113 [ja x] = .ret (iv (whenE (!nameB x.name) 8)) := by
  obtain ⟨d, rfl⟩ : ∃ d, n = d + 2 := ⟨n - 2, by omega⟩
  rw [RUN, call_eq fe113 _ rfl]
  have k1 := name143 (n := d + 1) (by omega) x.name hx
  have k2 := fun b => when104 (n := d + 1) (by omega) b 8
  have k3 : ∀ a : Int, RUN (d + 1) 91 [.p (.sl [.int .i64 a] 1)] = .ret (iv (firstE [a])) := fun a => first91 (by omega) [a] (by simp)
  obtain ⟨nm, a1, a2, a3, a4, a5⟩ := x
  have hf : ∀ a : Int, firstE [a] = a := fun a => by by_cases h : a = 0 <;> simp [firstE, h]
  simp only at k1
  simp -implicitDefEqProofs [c113, k1, k2, k3, hf]
theorem ranges114 {n : Nat} (hn : 3 ≤ n) (x : JobI) : RUN n 114 [ja x] = .ret (iv (jRng x)) := by
  obtain ⟨d, rfl⟩ : ∃ d, n = d + 3 := ⟨n - 3, by omega⟩
  rw [RUN, call_eq fe114 _ rfl]
  have kr := fun x lo hi => within92 (n := d + 2) (by omega) x lo hi
  have k5 := fun a b c e f => first91_5 (n := d + 2) (by omega) a b c e f
  obtain ⟨nm, a1, a2, a3, a4, a5⟩ := x
  simp -implicitDefEqProofs [c114, kr, k5, jRng]
theorem find_strs (k : List UInt8) : ∀ ns : List (List UInt8), mapFind (.str k) (pStr ns) (List.replicate ns.length (.bool true)) = if k ∈ ns then some (some (.bool true)) else some none := by
  intro ns
  induction ns with
  | nil => rfl
  | cons a r ih =>
    by_cases h : a = k
    · subst h
      simp [pStr, mapFind, keyEq, eqP, List.replicate_succ]
    · have hb : (k == a) = false := by simpa using fun e => h e.symm
      have h' : ¬ k = a := fun e => h e.symm
      simp only [pStr] at ih
      simp [pStr, List.replicate_succ, mapFind, keyEq, eqP, hb, ih, h']
def namesJ (l : List JobI) (i : Nat) : List (List UInt8) := (l.take i).map (·.name)
theorem namesJ_succ (l : List JobI) (i : Nat) (hi : i < l.length) : namesJ l (i + 1) = namesJ l i ++ [l[i].name] := by
  unfold namesJ
  rw [← List.take_append_getElem hi, List.map_append]
  rfl
theorem jobs57 {n : Nat} (hn : 4 ≤ n) (l : List JobI) (hl : l.length ≤ 9223372036854775807) (hx : ∀ x ∈ l, x.name.length ≤ 9223372036854775807) : RUN n 57 [jsl l] = .ret (iv (jobE l)) := by
  obtain ⟨d, rfl⟩ : ∃ d, n = d + 4 := ⟨n - 4, by omega⟩
  rw [RUN, call_eq fe57 _ rfl]
  have hR := jR_len l
  by_cases c : (8 : Int) < l.length
  · have c' : 8 < l.length := by omega
    simp -implicitDefEqProofs [c57, c, jobE, c']
  · have c' : ¬ 8 < l.length := by omega
    simp only [jobE, if_neg c']
    let inv : Nat → St := fun i => ⟨[(3, .mp 0), (11, jsl l), (12, iv l.length), (13, iv i)], [(0, .map (pStr (namesJ l i)) (List.replicate (namesJ l i).length (.bool true)))]⟩
    have key := loop_firstR (step := loopS (evFn F C0 G0 (d + 3)) C0 G0 0 true [3, 11, 12, 13] c57L0) inv (job1 l) l.length (.exit 0, ⟨(inv l.length).env ++ [(14, .p (.bool false))], (inv l.length).sto⟩) (fun i st => st.env = [(2, iv (job1 l i))])
      (st0 := ⟨[(3, .mp 0), (11, jsl l), (12, iv l.length), (13, iv 0)], [(0, .map [] [])]⟩) rfl (fun i hi => by
      have hlt : i * 6 < l.length * 6 := by omega
      have hlt6 : i * 6 + 6 ≤ l.length * 6 := by omega
      have wi := wrap_succ (i := i) (by omega)
      have hdr := rowC_drop jc_len l i hi
      have k1 := check113 (n := d + 3) (by omega) l[i] (hx _ (List.getElem_mem hi))
      have k2 := ranges114 (n := d + 3) (by omega) l[i]
      have kw := fun b => when104 (n := d + 3) (by omega) b 9
      have k3 := fun a b c => first91_3 (n := d + 3) (by omega) a b c
      have hf := find_strs l[i].name (namesJ l i)
      have hns := namesJ_succ l i hi
      have hjt : jTw l i = decide (l[i].name ∈ namesJ l i) := by unfold jTw namesJ; rw [getJ hi]
      unfold job1
      rw [hjt, getJ hi]
      simp only [inv, hns]
      generalize whenE (!nameB l[i].name) 8 = e1 at *
      generalize jRng l[i] = e3 at *
      generalize hA : rowC jc l = A at *
      generalize rowC jc (l.drop (i + 1)) = R2 at *
      generalize l[i] = x at *
      generalize namesJ l i = ns at *
      obtain ⟨nm, a1, a2, a3, a4, a5⟩ := x
      have hr : List.replicate (ns ++ [nm]).length (PVal.bool true) = List.replicate ns.length (.bool true) ++ [.bool true] := by simp [List.replicate_succ']
      have hps : pStr (ns ++ [nm]) = pStr ns ++ [.str nm] := (pStr_snoc _ _).symm
      simp only at k1 k2 hf ⊢
      rw [hr, hps]
      have kw1 := kw true
      have kw0 := kw false
      have h91 : whenE true 9 = 9 := rfl
      have h90 : whenE false 9 = 0 := rfl
      rw [h91] at kw1
      rw [h90] at kw0
      by_cases hin : nm ∈ ns
      · rw [if_pos hin] at hf
        simp only [hin, decide_true, h91]
        have k3 := k3 e1 9 e3
        generalize pStr ns = K at *
        generalize List.replicate ns.length (PVal.bool true) = VV at *
        have hne : firstE [e1, 9, e3] ≠ 0 := by
          by_cases h : e1 = 0 <;> simp [firstE, h]
        generalize firstE [e1, 9, e3] = e at *
        refine ⟨fun he => absurd he hne, fun he => ?_⟩
        refine ⟨?_, ?h1, ?h2⟩
        case h1 =>
          simp -implicitDefEqProofs [loopS_eq, c57L0, hi, hA, hR, hlt, hdr, jc, k1, k2, k3, kw1, hf, hne]
          exact rfl
        case h2 => rfl
      · rw [if_neg hin] at hf
        simp only [hin, decide_false, h90]
        have k3 := k3 e1 0 e3
        generalize pStr ns = K at *
        generalize List.replicate ns.length (PVal.bool true) = VV at *
        generalize firstE [e1, 0, e3] = e at *
        refine ⟨fun he => ?_, fun he => ?_⟩
        · subst he
          refine ⟨?_, ?h1, ?h2⟩
          case h1 =>
            simp -implicitDefEqProofs [loopS_eq, c57L0, hi, hA, hR, hlt, hdr, jc, k1, k2, k3, kw0, hf, wi]
            exact rfl
          case h2 => exact loopS_same (by simp) (by simp)
        · refine ⟨?_, ?h1, ?h2⟩
          case h1 =>
            simp -implicitDefEqProofs [loopS_eq, c57L0, hi, hA, hR, hlt, hdr, jc, k1, k2, k3, kw0, hf, he]
            exact rfl
          case h2 => rfl) (by simp -implicitDefEqProofs [inv, loopS_eq, c57L0]) (by simp) (fuel := loopFuel) (by simp [loopFuel]; omega)
    rcases key with ⟨h1, h2⟩ | ⟨j, ⟨env, sto⟩, hj, h1, h2, h3, _, _⟩
    · rw [show firstE _ = 0 from h2]
      simp only [inv] at h1
      simp -implicitDefEqProofs [c57, c]
      rw [show loopN _ _ _ = _ from h1]
      simp
    · rw [show firstE _ = _ from h3]
      simp only at h2
      subst h2
      simp -implicitDefEqProofs [c57, c]
      rw [show loopN _ _ _ = _ from h1]
      simp
end Fw
