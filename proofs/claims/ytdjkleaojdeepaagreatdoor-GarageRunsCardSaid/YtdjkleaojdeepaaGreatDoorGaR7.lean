/- A run of acts by the program, act by act: one round of its loop. -/
import Derived.Test.YtdjkleaojdeepaaGreatDoorGaR6
import Derived.Test.YtdjkleaojdeepaaGreatDoorFwC
set_option maxHeartbeats 16000000
namespace Fw
open Go
attribute [local irreducible] evCode evOps evOpsD evOper evOperD evOp evFn loopN T.All T.bind callPure callOp opsK opsDK restK seqK blockK loopS setK setQ giveK scalK gcK finish finS rfunK yldK yldB loopK

def P6 (h : HallI) (l : List ActI) (s : StaI) (out : List StaI) (i : Nat) : St := ⟨[(0, .yld 3), (2, .p (capH h)), (4, .ptr 4 0 0), (8, asl l), (9, iv l.length), (10, iv i)], (4, .arr (sc s) 0 1) :: (3, qLoop h l none 0) :: pR h out⟩
/-- an act that may be tried in a state -/
def ActOk (x : ActI) : Prop := NumOk x ∧ 0 ≤ x.tick ∧ x.tick ≤ 100000000

theorem gc6 (o : Obj) (c5 c4 : List PVal) (h : HallI) (l : List ActI) (out : List StaI) :
    gc 6 [(0, bl true)] ((6, o) :: (5, .arr c5 0 1) :: (4, .arr c4 0 1) :: (3, qLoop h l none 0) :: pR h out) = (5, .arr c5 0 1) :: (4, .arr c4 0 1) :: (3, qLoop h l none 0) :: pR h out := by
  have h := gc_new (lo := 6) (env := [(0, bl true)]) (X := [(6, o)]) (S := (5, .arr c5 0 1) :: (4, .arr c4 0 1) :: (3, qLoop h l none 0) :: pR h out) (by simp) (by simp [pR]) (by simp) (by simp [pR, refs_qLoop, refsO_arr, refsO_box, -refsO])
  simpa using h

theorem round161 {d : Nat} (h : HallI) (q0 : h.t0.length < 1000000) (q1 : h.t1.length < 1000000) (q2 : h.t2.length < 1000000) (hb : 0 ≤ h.base ∧ h.base ≤ 1000000) (l : List ActI) (hl : l.length < 100000) (s : StaI) (out : List StaI) (ho : out.length < 100000) (i : Nat) (hi : i < l.length) (hx : ActOk l[i]) (hs : StOk s) (hW : 0 ≤ waitP h l[i].a l[i].b l[i].c ∧ waitP h l[i].a l[i].b l[i].c ≤ 1000000) (hr : (reaL s l[i]).length = 0) :
    ∃ st1, loopS (evFn F C0 G0 (d + 6)) C0 G0 4 true [0, 2, 4, 8, 9, 10] c161L0 (P6 h l s out i) = .ret (.normal, st1) ∧
      loopS (evFn F C0 G0 (d + 6)) C0 G0 4 true [0, 2, 4, 8, 9, 10] c161L0 st1 = loopS (evFn F C0 G0 (d + 6)) C0 G0 4 true [0, 2, 4, 8, 9, 10] c161L0 (P6 h l (aftS h.base (waitP h l[i].a l[i].b l[i].c) s l[i]) (out ++ [aftS h.base (waitP h l[i].a l[i].b l[i].c) s l[i]]) (i + 1)) := by
  obtain ⟨hn, ht⟩ := hx
  have kr := reasons90 (n := d + 6) (by omega) s l[i] hn
  have ka := after162 (n := d + 6) (by omega) h q0 q1 q2 s l[i] hn hs hb ht hW
  rw [hr] at kr
  have hr0 : reaL s l[i] = [] := List.eq_nil_of_length_eq_zero hr
  rw [hr0] at kr
  generalize aftS h.base (waitP h l[i].a l[i].b l[i].c) s l[i] = s' at *
  have ky := yield88 (d := d + 5) h l out s' i (ac l[i]) (sc s') ho
  have kg := gc6 (.arr (sc s') 0 1) (ac l[i]) (sc s') h l (out ++ [s'])
  have hR := aR_len l
  have hlt : i * 6 < l.length * 6 := by omega
  have hlt6 : i * 6 + 6 ≤ l.length * 6 := by omega
  have wi := wrap_succ (i := i) (by omega)
  have hdr := rowC_drop ac_len l i hi
  simp only [P6, asl]
  have hrq := refs_qLoop h l none 0
  generalize qLoop h l none 0 = QL at *
  generalize hA : rowC ac l = A at *
  generalize rowC ac (l.drop (i + 1)) = R2 at *
  generalize l[i] = x at *
  obtain ⟨t, k, m, a, b, c⟩ := x
  obtain ⟨st, o0, o1, o2, o3, o4, o5, o6, o7, k0, k1, pp, ar, sh, ad⟩ := s
  obtain ⟨st', o0', o1', o2', o3', o4', o5', o6', o7', k0', k1', pp', ar', sh', ad'⟩ := s'
  simp only [pR, sc, ac, capH, ha, csl, pStr_nil] at *
  generalize cI h.t0 = A0 at *
  generalize cI h.t1 = A1 at *
  generalize cI h.t2 = A2 at *
  generalize rowC sc out = B at *
  generalize rowC sc (out ++ _) = B' at *
  generalize out.length = y at *
  generalize (out ++ _).length = y' at *
  refine ⟨?_, ?h1, ?h2⟩
  case h1 =>
    simp -implicitDefEqProofs [loopS_eq, c161L0, hi, hR, hlt, hdr, kr, ka, ky, wi, refsO_arr, refsO_box, hrq, -refsO]
    exact rfl
  case h2 => exact loopS_same (by simp) (by simp [refsO_arr, refsO_box, hrq, -refsO])
end Fw
