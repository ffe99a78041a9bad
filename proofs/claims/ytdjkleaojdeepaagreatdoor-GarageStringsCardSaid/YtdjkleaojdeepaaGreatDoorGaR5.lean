/- Lists of acts and of states: checks, copies, equality. -/
import Derived.Test.YtdjkleaojdeepaaGreatDoorGaR4
set_option maxHeartbeats 16000000
namespace Fw
open Go
attribute [local irreducible] evCode evOps evOpsD evOper evOperD evOp evFn loopN T.All T.bind callPure callOp opsK opsDK restK seqK blockK loopS setK setQ giveK scalK gcK finish finS rfunK yldK yldB loopK

def ac (x : ActI) : List PVal := [.int .i64 x.tick, .str x.kind, .int .i64 x.num, .int .i64 x.a, .int .i64 x.b, .int .i64 x.c]
abbrev asl (l : List ActI) : AVal := .p (.sl (rowC ac l) l.length)
theorem ac_len (x : ActI) : (ac x).length = 6 := rfl
theorem aR_len (l : List ActI) : (rowC ac l).length = l.length * 6 := rowC_len ac_len l
theorem sc_len (s : StaI) : (sc s).length = 15 := rfl
theorem sR_len (l : List StaI) : (rowC sc l).length = l.length * 15 := rowC_len sc_len l
abbrev stl (l : List StaI) : AVal := .p (.sl (rowC sc l) l.length)
def lnA (x : ActI) : Int := if 40 < x.kind.length then 1 else 0
def zA : ActI := ⟨0, [], 0, 0, 0, 0⟩
theorem getA {l : List ActI} {i : Nat} (hi : i < l.length) : l.getD i zA = l[i] := by simp [List.getD_eq_getElem?_getD, hi]

theorem short16 {n : Nat} (hn : 1 ≤ n) (l : List ActI) (hl : l.length ≤ 9223372036854775807) : RUN n 16 [asl l] = .ret (.p (.bool (decide (firstE (l.map lnA) = 0) && (decide (l.length ≤ 24) || decide (l.length = 1001))))) := by
 obtain ⟨d, rfl⟩ : ∃ d, n = d + 1 := ⟨n - 1, by omega⟩
 rw [RUN, call_eq fe16 _ rfl]
 have hR := aR_len l
 let inv : Nat → St := fun i => ⟨[(0, asl l), (3, iv i)], []⟩
 simp -implicitDefEqProofs [c16]
 rw [loop_errs (st0 := ⟨[(0, asl l), (3, .p (.int .i64 0))], []⟩) inv (l.map lnA) (.exit 0, ⟨(inv l.length).env ++ [(7, .p (.bool false))], []⟩) (fun _ => (.ret, ⟨[(2, .p (.bool false))], []⟩)) (by rfl)]
 ·by_cases y : firstE (l.map lnA) = 0
  ·by_cases a : (l.length : Int) ≤ 24
   ·have a' : l.length ≤ 24 := by omega
    simp -implicitDefEqProofs [y, inv, a, a']
   ·have a' : ¬ l.length ≤ 24 := by omega
    have : ((l.length : Int) == 1001) = decide (l.length = 1001) := by
     by_cases b : l.length = 1001
     ·simp [b]
     ·have : ¬ (l.length : Int) = 1001 := by omega
      simp [b, this]
    simp -implicitDefEqProofs [y, inv, a, a', this]
  ·simp -implicitDefEqProofs [y]
 ·intro i hi
  have hi' : i < l.length := by simpa using hi
  have w2 := wrap_succ (i := i) (by omega)
  have hlt : i * 6 < l.length * 6 := by omega
  have hlt1 : i * 6 + 1 < l.length * 6 := by omega
  have hdr := rowC_drop ac_len l i hi'
  have hdr1 : (rowC ac l).drop (i * 6 + 1) = [.str l[i].kind, .int .i64 l[i].num, .int .i64 l[i].a, .int .i64 l[i].b, .int .i64 l[i].c] ++ rowC ac (l.drop (i + 1)) := by
   rw [← List.drop_drop, hdr]; rfl
  simp only [List.getElem_map]
  unfold lnA
  generalize hA : rowC ac l = A at *
  generalize rowC ac (l.drop (i + 1)) = R2 at *
  generalize l[i] = s at *
  obtain ⟨t, nm, m, a, b, c⟩ := s
  simp only at hdr hdr1 ⊢
  by_cases c : 40 < nm.length
  ·have c' : (40 : Int) < nm.length := by omega
   refine ⟨fun he => ?_, fun he => ?_⟩
   ·simp [c] at he
   ·simp -implicitDefEqProofs [inv, loopS_eq, c16L0, hi', hA, hR, hlt, hdr, ac, c']
  ·have c' : ¬ (40 : Int) < nm.length := by omega
   refine ⟨fun he => ⟨_, ?_, rfl⟩, fun he => ?_⟩
   ·simp -implicitDefEqProofs [inv, loopS_eq, c16L0, hi', hA, hR, hlt, hdr, ac, c', w2]
   ·simp [c] at he
 ·intro e; simp
 ·simp -implicitDefEqProofs [inv, loopS_eq, c16L0]
 ·simp
 ·simp [loopFuel]; omega

def actsE (h : HallI) (l : List ActI) : Int := if firstE [hallE h, whenE (decide (1000 < l.length)) 5] = 0 then firstE ((List.range l.length).map fun i => actE h (l.getD i zA)) else firstE [hallE h, whenE (decide (1000 < l.length)) 5]

theorem acts86 {n : Nat} (hn : 7 ≤ n) (h : HallI) (q0 : h.t0.length < 1000000) (q1 : h.t1.length < 1000000) (q2 : h.t2.length < 1000000) (l : List ActI) (hl : l.length < 1000000) : RUN n 86 [ha h, asl l] = .ret (iv (actsE h l)) := by
 obtain ⟨d, rfl⟩ : ∃ d, n = d + 7 := ⟨n - 7, by omega⟩
 rw [RUN, call_eq fe86 _ rfl]
 have k81 := hall81 (n := d + 6) (by omega) h q0 q1 q2
 have kw := when104 (n := d + 6) (by omega) (decide (1000 < l.length)) 5
 have k2 := first91_2 (n := d + 6) (by omega) (hallE h) (whenE (decide (1000 < l.length)) 5)
 have hd : decide ((1000 : Int) < l.length) = decide (1000 < l.length) := by
  by_cases h : 1000 < l.length
  ·have : (1000 : Int) < l.length := by omega
   simp [h, this]
  ·have : ¬ (1000 : Int) < l.length := by omega
   simp [h, this]
 unfold actsE
 generalize hF : firstE [hallE h, whenE (decide (1000 < l.length)) 5] = f at *
 have hR := aR_len l
 by_cases hf : f = 0
 ·subst hf
  rw [if_pos rfl]
  have kc := fun x => check87 (n := d + 6) (by omega) h x
  let inv : Nat → St := fun i => ⟨[(2, .ptr 0 0 0), (20, asl l), (21, iv l.length), (22, iv i)], [(0, .box [iv h.doors, iv h.base, csl h.t0, csl h.t1, csl h.t2])]⟩
  have key := loop_firstR (step := loopS (evFn F C0 G0 (d + 6)) C0 G0 0 true [2, 20, 21, 22] c86L0) inv (fun i => actE h (l.getD i zA)) l.length (.exit 0, ⟨(inv l.length).env ++ [(23, .p (.bool false))], (inv l.length).sto⟩) (fun i st => st.env = [(4, iv (actE h (l.getD i zA)))])
   (st0 := ⟨[(2, .ptr 0 0 0), (20, asl l), (21, iv l.length), (22, iv 0)], [(0, .box [iv h.doors, iv h.base, csl h.t0, csl h.t1, csl h.t2])]⟩) rfl (fun i hi => by
   have hlt : i * 6 < l.length * 6 := by omega
   have hlt6 : i * 6 + 6 ≤ l.length * 6 := by omega
   have wi := wrap_succ (i := i) (by omega)
   have hdr := rowC_drop ac_len l i hi
   have kc := kc l[i]
   simp only [getA hi, inv]
   generalize hE : actE h l[i] = e at *
   generalize hA : rowC ac l = A at *
   generalize rowC ac (l.drop (i + 1)) = R2 at *
   generalize l[i] = x at *
   obtain ⟨t, k, m, a, b, c⟩ := x
   simp only [ha, csl] at kc ⊢
   generalize cI h.t0 = A0 at *
   generalize cI h.t1 = A1 at *
   generalize cI h.t2 = A2 at *
   refine ⟨fun he => ?_, fun he => ?_⟩
   ·subst he
    refine ⟨?_, ?h1, ?h2⟩
    case h1 =>
     simp -implicitDefEqProofs [loopS_eq, c86L0, hi, hA, hR, hlt, hdr, ac, kc, wi]
     exact rfl
    case h2 => exact loopS_same (by simp) (by simp)
   ·refine ⟨?_, ?h1, ?h2⟩
    case h1 =>
     simp -implicitDefEqProofs [loopS_eq, c86L0, hi, hA, hR, hlt, hdr, ac, kc, he]
     exact rfl
    case h2 => rfl) (by simp -implicitDefEqProofs [inv, loopS_eq, c86L0]) (by simp) (fuel := loopFuel) (by simp [loopFuel]; omega)
  simp only [inv, ha, csl] at key k81 ⊢
  generalize cI h.t0 = A0 at *
  generalize cI h.t1 = A1 at *
  generalize cI h.t2 = A2 at *
  rcases key with ⟨h1, h2⟩ | ⟨j, ⟨env, sto⟩, hj, h1, h2, h3, _, _⟩
  ·rw [show firstE _ = 0 from h2]
   simp only [iv] at h1
   simp -implicitDefEqProofs [c86, k81, kw, k2, hd]
   rw [h1]
   simp
  ·rw [show firstE _ = _ from h3]
   simp only at h2
   subst h2
   generalize actE h (l.getD j zA) = e at *
   simp only [iv] at h1
   simp -implicitDefEqProofs [c86, k81, kw, k2, hd]
   rw [h1]
   simp
 ·rw [if_neg hf]
  simp only [ha, csl] at k81 ⊢
  generalize cI h.t0 = A0 at *
  generalize cI h.t1 = A1 at *
  generalize cI h.t2 = A2 at *
  simp -implicitDefEqProofs [c86, k81, kw, k2, hd, hf]

theorem acts22 {n : Nat} (hn : 7 ≤ n) (h : HallI) (q0 : h.t0.length < 1000000) (q1 : h.t1.length < 1000000) (q2 : h.t2.length < 1000000) (l : List ActI) (hl : l.length < 1000000) : RUN n 22 [ha h, asl l] = .ret (iv (actsE h l)) := by
 obtain ⟨d, rfl⟩ : ∃ d, n = d + 7 := ⟨n - 7, by omega⟩
 rw [RUN, call_eq fe22 _ rfl]
 have k81 := hall65 (n := d + 6) (by omega) h q0 q1 q2
 have kw := when94 (n := d + 6) (by omega) (decide (1000 < l.length)) 5
 have k2 := first23_2 (n := d + 6) (by omega) (hallE h) (whenE (decide (1000 < l.length)) 5)
 have hd : decide ((1000 : Int) < l.length) = decide (1000 < l.length) := by
  by_cases h : 1000 < l.length
  ·have : (1000 : Int) < l.length := by omega
   simp [h, this]
  ·have : ¬ (1000 : Int) < l.length := by omega
   simp [h, this]
 have hz : firstE [hallE h, whenE (decide (1000 < l.length)) 5] = 0 → hallE h = 0 := fun hh => firstE_zero.1 hh _ (by simp)
 unfold actsE
 generalize hF : firstE [hallE h, whenE (decide (1000 < l.length)) 5] = f at *
 have hR := aR_len l
 by_cases hf : f = 0
 ·subst hf
  rw [if_pos rfl]
  obtain ⟨d1, d2⟩ := doors_of (hz rfl)
  have kc := fun x => check25 (n := d + 6) (by omega) h d1 d2 x
  let inv : Nat → St := fun i => ⟨[(1, asl l), (2, .ptr 0 0 0), (6, iv i)], [(0, .box [iv h.doors, iv h.base, csl h.t0, csl h.t1, csl h.t2])]⟩
  have key := loop_firstR (step := loopS (evFn F C0 G0 (d + 6)) C0 G0 0 false [1, 2, 6] c22L0) inv (fun i => actE h (l.getD i zA)) l.length (.exit 0, ⟨(inv l.length).env ++ [(22, .p (.bool false))], (inv l.length).sto⟩) (fun i st => st.env = [(4, iv (actE h (l.getD i zA)))])
   (st0 := ⟨[(1, asl l), (2, .ptr 0 0 0), (6, iv 0)], [(0, .box [iv h.doors, iv h.base, csl h.t0, csl h.t1, csl h.t2])]⟩) rfl (fun i hi => by
   have hlt : i * 6 < l.length * 6 := by omega
   have hlt6 : i * 6 + 6 ≤ l.length * 6 := by omega
   have wi := wrap_succ (i := i) (by omega)
   have hdr := rowC_drop ac_len l i hi
   have kc := kc l[i]
   simp only [getA hi, inv]
   generalize hE : actE h l[i] = e at *
   generalize hA : rowC ac l = A at *
   generalize rowC ac (l.drop (i + 1)) = R2 at *
   generalize l[i] = x at *
   obtain ⟨t, k, m, a, b, c⟩ := x
   simp only [ha, csl] at kc ⊢
   generalize cI h.t0 = A0 at *
   generalize cI h.t1 = A1 at *
   generalize cI h.t2 = A2 at *
   refine ⟨fun he => ?_, fun he => ?_⟩
   ·subst he
    refine ⟨?_, ?h1, ?h2⟩
    case h1 =>
     simp -implicitDefEqProofs [loopS_eq, c22L0, hi, hA, hR, hlt, hdr, ac, kc, wi]
     exact rfl
    case h2 => simp
   ·refine ⟨?_, ?h1, ?h2⟩
    case h1 =>
     simp -implicitDefEqProofs [loopS_eq, c22L0, hi, hA, hR, hlt, hdr, ac, kc, he]
     exact rfl
    case h2 => rfl) (by simp -implicitDefEqProofs [inv, loopS_eq, c22L0]) (by simp) (fuel := loopFuel) (by simp [loopFuel]; omega)
  simp only [inv, ha, csl] at key k81 ⊢
  generalize cI h.t0 = A0 at *
  generalize cI h.t1 = A1 at *
  generalize cI h.t2 = A2 at *
  rcases key with ⟨h1, h2⟩ | ⟨j, ⟨env, sto⟩, hj, h1, h2, h3, _, _⟩
  ·rw [show firstE _ = 0 from h2]
   simp only [iv] at h1
   simp -implicitDefEqProofs [c22, k81, kw, k2, hd]
   rw [h1]
   simp
  ·rw [show firstE _ = _ from h3]
   simp only at h2
   subst h2
   generalize actE h (l.getD j zA) = e at *
   simp only [iv] at h1
   simp -implicitDefEqProofs [c22, k81, kw, k2, hd]
   rw [h1]
   simp
 ·rw [if_neg hf]
  simp only [ha, csl] at k81 ⊢
  generalize cI h.t0 = A0 at *
  generalize cI h.t1 = A1 at *
  generalize cI h.t2 = A2 at *
  simp -implicitDefEqProofs [c22, k81, kw, k2, hd, hf]

theorem done20 {n : Nat} (hn : 1 ≤ n) (l : List ActI) (hl : l.length < 1000000) : RUN n 20 [asl l] = .ret (.own (rowC ac l) l.length 6) := by
 obtain ⟨d, rfl⟩ : ∃ d, n = d + 1 := ⟨n - 1, by omega⟩
 rw [RUN, call_eq fe20 _ rfl]
 let inv : Nat → St := fun i => ⟨[(3, .sl 1 i 0 i), (6, asl l), (7, iv l.length), (8, iv i)], [(1, .arr (rowC ac (l.take i)) i 6)]⟩
 have hR := aR_len l
 simp -implicitDefEqProofs [c20]
 rw [loop_run' inv l.length (e := .exit 0) (st' := ⟨(inv l.length).env ++ [(9, .p (.bool false))], (inv l.length).sto⟩) (by simp)]
 ·simp -implicitDefEqProofs [inv, hR]
 ·exact loopS_same rfl (by simp [inv])
 ·intro i hi
  have hlim : i + 1 ≤ lim := by simp only [lim]; omega
  have wi := wrap_succ (i := i) (by omega)
  have hti : (l.take i).length = i := by simp; omega
  have hln := aR_len (l.take i)
  rw [hti] at hln
  have hr : rowC ac (l.take (i + 1)) = rowC ac (l.take i) ++ ac l[i] := rowC_take _ _ hi
  have hlt : i * 6 < l.length * 6 := by omega
  have hlt6 : i * 6 + 6 ≤ l.length * 6 := by omega
  have hdr := rowC_drop ac_len l i hi
  simp only [inv]
  generalize hA : rowC ac l = A at *
  generalize rowC ac (l.take i) = R' at *
  generalize rowC ac (l.drop (i + 1)) = R2 at *
  generalize hv : l[i] = v at *
  refine ⟨?_, ?h1, ?h2⟩
  case h1 =>
   simp -implicitDefEqProofs [loopS_eq, c20L0, hi, hA, hR, hlt, hdr, ac, hlim, hln, wi]
   exact rfl
  case h2 => exact loopS_same rfl (by simp [hr, ac])
 ·simp -implicitDefEqProofs [inv, loopS_eq, c20L0]
 ·simp [loopFuel]; omega
def bgS : StaI := ⟨0, false, false, false, false, false, false, false, false, false, false, 0, false, -1, 0⟩
theorem begin138 {n : Nat} (hn : 1 ≤ n) : RUN n 138 [] = .ret (sa bgS) := by
 obtain ⟨d, rfl⟩ : ∃ d, n = d + 1 := ⟨n - 1, by omega⟩
 kernel_rfl
theorem begin98 {n : Nat} (hn : 1 ≤ n) : RUN n 98 [] = .ret (sa bgS) := by
 obtain ⟨d, rfl⟩ : ∃ d, n = d + 1 := ⟨n - 1, by omega⟩
 kernel_rfl
def lastS (l : List StaI) : StaI := l.getLastD bgS
theorem last89 {n : Nat} (hn : 2 ≤ n) (l : List StaI) (hl : l.length < 1000000) : RUN n 89 [stl l] = .ret (sa (lastS l)) := by
 obtain ⟨d, rfl⟩ : ∃ d, n = d + 2 := ⟨n - 2, by omega⟩
 rw [RUN, call_eq fe89 _ rfl]
 have kb := begin138 (n := d + 1) (by omega)
 have hR := sR_len l
 by_cases h0 : l.length = 0
 ·have : l = [] := List.eq_nil_of_length_eq_zero h0
  subst this
  have e3 : rowC sc [] = [] := rfl
  have e4 : lastS [] = bgS := rfl
  simp only [stl, e3, e4, List.length_nil]
  simp -implicitDefEqProofs [c89, kb]
 ·have hpos : l ≠ [] := fun e => h0 (by rw [e]; rfl)
  obtain ⟨P, x, hP⟩ : ∃ P x, l = P ++ [x] := ⟨l.dropLast, l.getLast hpos, (List.dropLast_concat_getLast _).symm⟩
  have hls : lastS l = x := by rw [hP]; simp [lastS]
  have hlen : l.length = P.length + 1 := by rw [hP]; simp
  have hi : P.length < l.length := by omega
  have hdr := rowC_drop sc_len l P.length hi
  have hx : l[P.length] = x := by simp [hP]
  have hnil : l.drop (P.length + 1) = [] := List.drop_of_length_le (by omega)
  rw [hx, hnil, rowC_nil] at hdr
  rw [hls]
  have hm : (l.length : Int) - 1 = (P.length : Int) := by omega
  have wj : IntKind.i64.wrap (P.length : Int) = P.length := wrap64 (by omega) (by omega)
  have hlt : P.length * 15 < l.length * 15 := by omega
  have hlt6 : P.length * 15 + 15 ≤ l.length * 15 := by omega
  have hb : ((l.length : Int) == 0) = false := by simpa using h0
  simp only [stl]
  generalize hA : rowC sc l = A at *
  obtain ⟨st, o0, o1, o2, o3, o4, o5, o6, o7, k0, k1, pp, ar, sh, ad⟩ := x
  simp -implicitDefEqProofs [c89, hb, hm, wj, hR, hi, hlt, hdr, sc]
end Fw
