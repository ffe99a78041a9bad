/- A run of acts by the program: its whole loop, and the states that it leaves. -/
import Derived.Test.YtdjkleaojdeepaaGreatDoorGaR7
set_option maxHeartbeats 16000000
namespace Fw
open Go
attribute [local irreducible] evCode evOps evOpsD evOper evOperD evOp evFn loopN T.All T.bind callPure callOp opsK opsDK restK seqK blockK loopS setK setQ giveK scalK gcK finish finS rfunK yldK yldB loopK

theorem addR_len (L : List (List UInt8)) (b : Bool) (w : List UInt8) : (addR L b w).length = L.length + b.toNat := by
  cases b <;> simp [addR]
theorem reaL_nil {s : StaI} {x : ActI} : (reaL s x).length = 0 ↔ s.tick ≤ x.tick ∧ stB s x = false ∧ armB s x = false ∧ dooB s x = false ∧ peoB s x = false ∧ keyR s x = false ∧ waiB s x = false := by
  unfold reaL
  simp only [addR_len, List.length_nil, Nat.zero_add]
  by_cases h : x.tick < s.tick
  · have : ¬ s.tick ≤ x.tick := by omega
    simp [h, this]
  · have : s.tick ≤ x.tick := by omega
    simp only [h, decide_false, Bool.toNat_false, this, true_and, Nat.zero_add]
    cases stB s x <;> cases armB s x <;> cases dooB s x <;> cases peoB s x <;> cases keyR s x <;> cases waiB s x <;> simp
theorem aft_ok {s : StaI} {x : ActI} (hs : StOk s) (hx : ActOk x) (hr : (reaL s x).length = 0) (base W : Int) : StOk (aftS base W s x) := by
  obtain ⟨a1, a2, a3, a4⟩ := hs
  obtain ⟨hn, t1, t2⟩ := hx
  obtain ⟨-, h1, -⟩ := reaL_nil.1 hr
  have hk := numOk_cases hn
  obtain ⟨t, k, m, a, b, c⟩ := x
  simp only at hk t1 t2
  rcases hk with rfl | rfl | rfl | rfl | rfl | rfl | rfl | rfl | rfl | rfl
  · have e : aftS base W s ⟨t, kOpen, m, a, b, c⟩ = setO { s with tick := t } m true := rfl
    rw [e]; unfold setO; repeat' split
    all_goals exact ⟨a1, a2, a3, a4⟩
  · have e : aftS base W s ⟨t, kClose, m, a, b, c⟩ = setO { s with tick := t } m false := rfl
    rw [e]; unfold setO; repeat' split
    all_goals exact ⟨a1, a2, a3, a4⟩
  · have e : aftS base W s ⟨t, kInsert, m, a, b, c⟩ = setY { s with tick := t } m true := rfl
    rw [e]; unfold setY; split <;> exact ⟨a1, a2, a3, a4⟩
  · have e : aftS base W s ⟨t, kRemove, m, a, b, c⟩ = setY { s with tick := t } m false := rfl
    rw [e]; unfold setY; split <;> exact ⟨a1, a2, a3, a4⟩
  · have e : stB s ⟨t, kEnter, m, a, b, c⟩ = decide (100 ≤ s.people) := rfl
    rw [e] at h1
    simp only [decide_eq_false_iff_not] at h1
    exact ⟨show 0 ≤ s.people + 1 by omega, show s.people + 1 ≤ 100 by omega, a3, a4⟩
  · have e : stB s ⟨t, kLeave, m, a, b, c⟩ = (s.people == 0) := rfl
    rw [e] at h1
    have h1 : ¬ s.people = 0 := by simpa using h1
    exact ⟨show 0 ≤ s.people - 1 by omega, show s.people - 1 ≤ 100 by omega, a3, a4⟩
  · exact ⟨a1, a2, a3, a4⟩
  · exact ⟨a1, a2, a3, a4⟩
  · exact ⟨a1, a2, show -1 ≤ t by omega, t2⟩
  · exact ⟨a1, a2, a3, a4⟩

theorem stop161 {d : Nat} (h : HallI) (l : List ActI) (_hl : l.length < 100000) (s : StaI) (out : List StaI) (i : Nat) (hi : i < l.length) (hx : ActOk l[i]) (hr : (reaL s l[i]).length ≠ 0) :
    ∃ env, loopS (evFn F C0 G0 (d + 6)) C0 G0 4 true [0, 2, 4, 8, 9, 10] c161L0 (P6 h l s out i) = .ret (.ret, ⟨env, (5, .arr (ac l[i]) 0 1) :: (4, .arr (sc s) 0 1) :: (3, qLoop h l none 0) :: pR h out⟩) := by
  obtain ⟨hn, ht⟩ := hx
  have kr := reasons90 (n := d + 6) (by omega) s l[i] hn
  have hR := aR_len l
  have hlt : i * 6 < l.length * 6 := by omega
  have hlt6 : i * 6 + 6 ≤ l.length * 6 := by omega
  have hdr := rowC_drop ac_len l i hi
  have hpos : 0 < (reaL s l[i]).length := by omega
  have hpi : (0 : Int) < (reaL s l[i]).length := by omega
  have hQ : (pStr (reaL s l[i])).length = (reaL s l[i]).length := by simp
  simp only [P6, asl]
  have hrq := refs_qLoop h l none 0
  generalize qLoop h l none 0 = QL at *
  generalize hA : rowC ac l = A at *
  generalize rowC ac (l.drop (i + 1)) = R2 at *
  generalize pStr (reaL s l[i]) = PQ at *
  generalize (reaL s l[i]).length = z at *
  generalize l[i] = x at *
  obtain ⟨t, k, m, a, b, c⟩ := x
  obtain ⟨st, o0, o1, o2, o3, o4, o5, o6, o7, k0, k1, pp, ar, sh, ad⟩ := s
  simp only [pR, sc, ac, capH, csl] at *
  generalize cI h.t0 = A0 at *
  generalize cI h.t1 = A1 at *
  generalize cI h.t2 = A2 at *
  generalize rowC sc out = B at *
  generalize out.length = y at *
  refine ⟨?_, ?h1⟩
  case h1 =>
    simp -implicitDefEqProofs [loopS_eq, c161L0, hi, hR, hlt, hdr, kr, hpos, refsO_arr, refsO_box, hrq, -refsO]
    exact rfl
theorem end161 {d : Nat} (h : HallI) (l : List ActI) (s : StaI) (out : List StaI) : ∃ env, loopS (evFn F C0 G0 (d + 6)) C0 G0 4 true [0, 2, 4, 8, 9, 10] c161L0 (P6 h l s out l.length) = .ret (.exit 0, ⟨env, (4, .arr (sc s) 0 1) :: (3, qLoop h l none 0) :: pR h out⟩) := by
  simp only [P6, asl]
  have hrq := refs_qLoop h l none 0
  generalize qLoop h l none 0 = QL at *
  simp only [pR, capH]
  refine ⟨?_, ?h1⟩
  case h1 =>
    simp -implicitDefEqProofs [loopS_eq, c161L0, refsO_arr, refsO_box, hrq, -refsO]
    exact rfl

/-- bounds of a hall, and of waits in it -/
def HallOk (h : HallI) : Prop := h.t0.length < 1000000 ∧ h.t1.length < 1000000 ∧ h.t2.length < 1000000 ∧ 0 ≤ h.base ∧ h.base ≤ 1000000 ∧ ∀ a b c, 0 ≤ waitP h a b c ∧ waitP h a b c ≤ 1000000
abbrev wP (h : HallI) (x : ActI) : Int := waitP h x.a x.b x.c

theorem loop161 {d : Nat} (h : HallI) (hh : HallOk h) (l : List ActI) (hl : l.length < 50000) (hx : ∀ x ∈ l, ActOk x) : ∀ (r : List ActI) (i : Nat) (s : StaI) (out : List StaI) (fuel : Nat), l.drop i = r → i + r.length = l.length → StOk s → out.length + r.length < 100000 → r.length + 1 < fuel →
    ∃ e env X, loopN (loopS (evFn F C0 G0 (d + 6)) C0 G0 4 true [0, 2, 4, 8, 9, 10] c161L0) fuel (P6 h l s out i) = .ret (e, ⟨env, X ++ (3, qLoop h l none 0) :: pR h (out ++ (runG h.base (wP h) s r).1)⟩) ∧ (e = .ret ∨ e = .exit 0) ∧ ((∃ c4, X = [(4, .arr c4 0 1)]) ∨ ∃ c5 c4, X = [(5, .arr c5 0 1), (4, .arr c4 0 1)]) := by
  obtain ⟨q0, q1, q2, b1, b2, hw⟩ := hh
  intro r
  induction r with
  | nil =>
    intro i s out fuel hd hi hs ho hf
    simp only [List.length_nil, Nat.add_zero] at hi
    subst hi
    obtain ⟨env, he⟩ := end161 (d := d) h l s out
    refine ⟨.exit 0, env, [(4, .arr (sc s) 0 1)], ?_, .inr rfl, .inl ⟨_, rfl⟩⟩
    rw [loopN_end he (by simp) (by omega)]
    simp [runG]
  | cons x r ih =>
    intro i s out fuel hd hi hs ho hf
    simp only [List.length_cons] at hi ho hf
    have hil : i < l.length := by omega
    rw [List.drop_eq_getElem_cons hil] at hd
    injection hd with h1 h2
    have hxo : ActOk l[i] := hx _ (List.getElem_mem hil)
    by_cases hr : (reaL s l[i]).length = 0
    · have hstep := round161 (d := d) h q0 q1 q2 ⟨b1, b2⟩ l (by omega) s out (by omega) i hil hxo hs (hw _ _ _) hr
      rw [loopN_on' hstep (by omega)]
      obtain ⟨e, env, X, g1, g2, g3⟩ := ih (i + 1) (aftS h.base (wP h l[i]) s l[i]) (out ++ [aftS h.base (wP h l[i]) s l[i]]) (fuel - 1) h2 (by omega) (aft_ok hs hxo hr _ _) (by simp only [List.length_append, List.length_cons, List.length_nil]; omega) (by omega)
      refine ⟨e, env, X, ?_, g2, g3⟩
      rw [g1]
      rw [h1] at hr ⊢
      simp [runG, hr, wP]
    · obtain ⟨env, he⟩ := stop161 (d := d) h l (by omega) s out i hil hxo hr
      refine ⟨.ret, env, [(5, .arr (ac l[i]) 0 1), (4, .arr (sc s) 0 1)], ?_, .inl rfl, .inr ⟨_, _, rfl⟩⟩
      rw [loopN_end he (by simp) (by omega)]
      rw [h1] at hr
      simp [runG, hr]
theorem states137 {n : Nat} (hn : 1 ≤ n) (h : HallI) (l : List ActI) : RUN n 137 [ha h, asl l] = .ret (.p (.clo 161 [] [capL l, capH h])) := by
  obtain ⟨d, rfl⟩ : ∃ d, n = d + 1 := ⟨n - 1, by omega⟩
  rw [RUN, call_eq fe137 _ rfl]
  simp only [ha, csl, asl, capL, capH]
  generalize cI h.t0 = A0 at *
  generalize cI h.t1 = A1 at *
  generalize cI h.t2 = A2 at *
  generalize rowC ac l = A at *
  simp -implicitDefEqProofs [c137]
/-- all states after acts from the state at first, and whether all acts are permitted -/
def runH (h : HallI) (l : List ActI) : List StaI × Bool := runG h.base (wP h) bgS l
theorem runG_len (base : Int) (W : ActI → Int) : ∀ (l : List ActI) (s : StaI), (runG base W s l).1.length ≤ l.length ∧ ((runG base W s l).2 = true ↔ (runG base W s l).1.length = l.length) := by
  intro l
  induction l with
  | nil => intro s; simp [runG]
  | cons x r ih =>
    intro s
    by_cases hr : (reaL s x).length = 0
    · have := ih (aftS base (W x) s x)
      simp only [runG, hr, if_true, List.length_cons, Nat.add_le_add_iff_right, Nat.add_right_cancel_iff]
      exact this
    · simp [runG, hr]
end Fw
