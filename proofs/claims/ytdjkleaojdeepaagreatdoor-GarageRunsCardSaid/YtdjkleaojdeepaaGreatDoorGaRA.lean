/- A run of acts by the reference; the last state; what the chapter's Run and States return. -/
import Derived.Test.YtdjkleaojdeepaaGreatDoorGaR9
set_option maxHeartbeats 16000000
namespace Fw
open Go
attribute [local irreducible] evCode evOps evOpsD evOper evOperD evOp evFn loopN T.All T.bind callPure callOp opsK opsDK restK seqK blockK loopS setK setQ giveK scalK gcK finish finS rfunK yldK yldB loopK

def S76 (h : HallI) (l : List ActI) (s : StaI) (out : List StaI) (i : Nat) : St := ⟨[(1, asl l), (2, .ptr 0 0 0), (6, .sl 1 out.length 0 out.length), (7, .ptr 2 0 0), (8, iv i)], [(2, .arr (sc s) 0 1), (1, .arr (rowC sc out) out.length 15), (0, .box [iv h.doors, iv h.base, csl h.t0, csl h.t1, csl h.t2])]⟩
/-- what is known of acts that are run -/
structure RunOk (h : HallI) (l : List ActI) : Prop where
  hall : hallE h = 0
  q0 : h.t0.length < 1000000
  q1 : h.t1.length < 1000000
  q2 : h.t2.length < 1000000
  len : l.length < 50000
  acts : ∀ x ∈ l, ActOk x
theorem RunOk.ok {h : HallI} {l : List ActI} (r : RunOk h l) : HallOk h := hall_ok r.hall r.q0 r.q1 r.q2
theorem round76 {d : Nat} (h : HallI) (l : List ActI) (R : RunOk h l) (s : StaI) (out : List StaI) (ho : out.length < 100000) (i : Nat) (hi : i < l.length) (hs : StOk s) (hr : (reaL s l[i]).length = 0) :
    loopS (evFn F C0 G0 (d + 6)) C0 G0 0 false [1, 2, 6, 7, 8] c76L0 (S76 h l s out i) = .ret (.normal, S76 h l (aftS h.base (wP h l[i]) s l[i]) (out ++ [aftS h.base (wP h l[i]) s l[i]]) (i + 1)) := by
  obtain ⟨q0, q1, q2, b1, b2, hw⟩ := R.ok
  have hln := R.len
  obtain ⟨hn, ht⟩ := R.acts _ (List.getElem_mem hi)
  have kr := reasons27 (n := d + 6) (by omega) s l[i] hn hs.2.1
  have hws := wait_same h R.hall l[i].a l[i].b l[i].c
  have ka := after133 (n := d + 6) (by omega) h q0 q1 q2 s l[i] hn hs ⟨b1, b2⟩ ht (by rw [← hws]; exact hw _ _ _)
  rw [← hws] at ka
  rw [hr] at kr
  have hr0 : reaL s l[i] = [] := List.eq_nil_of_length_eq_zero hr
  rw [hr0] at kr
  simp only [wP]
  generalize aftS h.base (waitP h l[i].a l[i].b l[i].c) s l[i] = s' at *
  have hR := aR_len l
  have hlt : i * 6 < l.length * 6 := by omega
  have hlt6 : i * 6 + 6 ≤ l.length * 6 := by omega
  have wi := wrap_succ (i := i) (by omega)
  have hdr := rowC_drop ac_len l i hi
  have hlim : out.length + 1 ≤ lim := by simp only [lim]; omega
  have hO := sR_len out
  have ho2 : rowC sc (out ++ [s']) = rowC sc out ++ sc s' := rowC_snoc ..
  simp only [S76, asl, ho2]
  generalize hA : rowC ac l = A at *
  generalize rowC ac (l.drop (i + 1)) = R2 at *
  generalize l[i] = x at *
  obtain ⟨t, k, m, a, b, c⟩ := x
  obtain ⟨st, o0, o1, o2, o3, o4, o5, o6, o7, k0, k1, pp, ar, sh, ad⟩ := s
  obtain ⟨st', o0', o1', o2', o3', o4', o5', o6', o7', k0', k1', pp', ar', sh', ad'⟩ := s'
  simp only [sc, ac, ha, csl, pStr_nil] at *
  generalize cI h.t0 = A0 at *
  generalize cI h.t1 = A1 at *
  generalize cI h.t2 = A2 at *
  simp -implicitDefEqProofs [loopS_eq, c76L0, hi, hR, hlt, hdr, kr, ka, wi, hlim, hO]
theorem stop76 {d : Nat} (h : HallI) (l : List ActI) (R : RunOk h l) (s : StaI) (out : List StaI) (i : Nat) (hi : i < l.length) (hs : StOk s) (hr : (reaL s l[i]).length ≠ 0) :
    loopS (evFn F C0 G0 (d + 6)) C0 G0 0 false [1, 2, 6, 7, 8] c76L0 (S76 h l s out i) = .ret (.ret, ⟨[(4, .sl 1 out.length 0 out.length), (5, iv i)], (S76 h l s out i).sto⟩) := by
  obtain ⟨hn, ht⟩ := R.acts _ (List.getElem_mem hi)
  have hln := R.len
  have kr := reasons27 (n := d + 6) (by omega) s l[i] hn hs.2.1
  have hR := aR_len l
  have hlt : i * 6 < l.length * 6 := by omega
  have hlt6 : i * 6 + 6 ≤ l.length * 6 := by omega
  have hdr := rowC_drop ac_len l i hi
  have hpos : 0 < (reaL s l[i]).length := by omega
  have hpi : (0 : Int) < (reaL s l[i]).length := by omega
  have hQ : (pStr (reaL s l[i])).length = (reaL s l[i]).length := by simp
  simp only [S76, asl]
  generalize hA : rowC ac l = A at *
  generalize rowC ac (l.drop (i + 1)) = R2 at *
  generalize pStr (reaL s l[i]) = PQ at *
  generalize (reaL s l[i]).length = z at *
  generalize l[i] = x at *
  obtain ⟨t, k, m, a, b, c⟩ := x
  obtain ⟨st, o0, o1, o2, o3, o4, o5, o6, o7, k0, k1, pp, ar, sh, ad⟩ := s
  simp only [sc, ac, csl] at *
  simp -implicitDefEqProofs [loopS_eq, c76L0, hi, hR, hlt, hdr, kr, hpos]
theorem loop76 {d : Nat} (h : HallI) (l : List ActI) (R : RunOk h l) : ∀ (r : List ActI) (i : Nat) (s : StaI) (out : List StaI) (fuel : Nat), l.drop i = r → i + r.length = l.length → out.length = i → StOk s → r.length + 1 < fuel →
    ∃ s' , loopN (loopS (evFn F C0 G0 (d + 6)) C0 G0 0 false [1, 2, 6, 7, 8] c76L0) fuel (S76 h l s out i) = .ret (if (runG h.base (wP h) s r).2 = true then (.exit 0, ⟨(S76 h l s' (out ++ (runG h.base (wP h) s r).1) l.length).env ++ [(13, .p (.bool false))], (S76 h l s' (out ++ (runG h.base (wP h) s r).1) l.length).sto⟩)
      else (.ret, ⟨[(4, .sl 1 (out ++ (runG h.base (wP h) s r).1).length 0 (out ++ (runG h.base (wP h) s r).1).length), (5, iv (out ++ (runG h.base (wP h) s r).1).length)], (S76 h l s' (out ++ (runG h.base (wP h) s r).1) i).sto⟩)) := by
  intro r
  induction r with
  | nil =>
    intro i s out fuel hd hi ho hs hf
    simp only [List.length_nil, Nat.add_zero] at hi
    refine ⟨s, ?_⟩
    have he : loopS (evFn F C0 G0 (d + 6)) C0 G0 0 false [1, 2, 6, 7, 8] c76L0 (S76 h l s out i) = .ret (.exit 0, ⟨(S76 h l s out i).env ++ [(13, .p (.bool false))], (S76 h l s out i).sto⟩) := by
      subst hi
      simp -implicitDefEqProofs [loopS_eq, c76L0, S76]
    rw [loopN_end he (by simp) (by omega)]
    simp [runG, hi]
  | cons x r ih =>
    intro i s out fuel hd hi ho hs hf
    simp only [List.length_cons] at hi hf
    have hil : i < l.length := by omega
    rw [List.drop_eq_getElem_cons hil] at hd
    injection hd with h1 h2
    have hln := R.len
    by_cases hr : (reaL s l[i]).length = 0
    · have hstep := round76 (d := d) h l R s out (by omega) i hil hs hr
      rw [loopN_on hstep (by omega)]
      obtain ⟨s', g1⟩ := ih (i + 1) (aftS h.base (wP h l[i]) s l[i]) (out ++ [aftS h.base (wP h l[i]) s l[i]]) (fuel - 1) h2 (by omega) (by simp [ho]) (aft_ok hs (R.acts _ (List.getElem_mem hil)) hr _ _) (by omega)
      refine ⟨s', ?_⟩
      rw [g1]
      rw [h1] at hr ⊢
      simp only [runG, hr, if_true, List.append_assoc, List.cons_append, List.nil_append]
      rfl
    · have he := stop76 (d := d) h l R s out i hil hs hr
      refine ⟨s, ?_⟩
      rw [loopN_end he (by simp) (by omega)]
      rw [h1] at hr
      simp [runG, hr, ho]
theorem run76 {n : Nat} (hn : 8 ≤ n) (h : HallI) (l : List ActI) (R : RunOk h l) : RUN n 76 [ha h, asl l] = .ret (.tup [.own (rowC sc (runH h l).1) (runH h l).1.length 15, iv (if (runH h l).2 = true then -1 else (runH h l).1.length)]) := by
  obtain ⟨d, rfl⟩ : ∃ d, n = d + 7 := ⟨n - 7, by omega⟩
  rw [RUN, call_eq fe76 _ rfl]
  obtain ⟨s', key⟩ := loop76 (d := d) h l R l 0 bgS [] loopFuel rfl (by omega) rfl bg_ok (by have := R.len; simp [loopFuel]; omega)
  simp only [List.nil_append] at key
  rw [show runG h.base (wP h) bgS l = runH h l from rfl] at key
  have kb := begin98 (n := d + 6) (by omega)
  have hO := sR_len (runH h l).1
  generalize (runH h l).2 = w at *
  simp only [S76, asl, sc, bgS, iv, rowC_nil] at *
  generalize hB : rowC sc (runH h l).1 = B at *
  generalize (runH h l).1.length = y at *
  simp only [ha, csl] at *
  generalize cI h.t0 = A0 at *
  generalize cI h.t1 = A1 at *
  generalize cI h.t2 = A2 at *
  generalize rowC ac l = A at *
  simp only [Int.natCast_zero, List.length_nil] at key
  cases w
  · simp only [Bool.false_eq_true, if_false] at key
    simp -implicitDefEqProofs [c76, kb]
    rw [key]
    simp -implicitDefEqProofs [hO]
  · simp only [if_true] at key
    simp -implicitDefEqProofs [c76, kb]
    rw [key]
    simp -implicitDefEqProofs [hO]
end Fw
