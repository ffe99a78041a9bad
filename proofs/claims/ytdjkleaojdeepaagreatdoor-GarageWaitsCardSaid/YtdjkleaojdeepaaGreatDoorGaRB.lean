/- Several texts in one: steps of the proof, no condition of their own. -/
import Derived.Test.YtdjkleaojdeepaaGreatDoorGaR5
import Derived.Test.YtdjkleaojdeepaaGreatDoorFwC
attribute [local irreducible] Fw.evCode Fw.evOps Fw.evOpsD Fw.evOper Fw.evOperD Fw.evOp Fw.evFn Fw.loopN Fw.T.All Fw.T.bind Fw.callPure Fw.callOp Fw.opsK Fw.opsDK Fw.restK Fw.seqK Fw.blockK Fw.loopS Fw.setK Fw.setQ Fw.giveK Fw.scalK Fw.gcK Fw.finish Fw.finS Fw.rfunK Fw.yldK Fw.yldB Fw.loopK
section
set_option maxHeartbeats 16000000
namespace Fw
open Go

def runG (base : Int) (W : ActI → Int) : StaI → List ActI → List StaI × Bool
 | _, [] => ([], true)
 | s, x :: r => if (reaL s x).length = 0 then ((aftS base (W x) s x) :: (runG base W (aftS base (W x) s x) r).1, (runG base W (aftS base (W x) s x) r).2) else ([], false)
def capH (h : HallI) : PVal := .pp [.int .i64 h.doors, .int .i64 h.base, .sl (cI h.t0) h.t0.length, .sl (cI h.t1) h.t1.length, .sl (cI h.t2) h.t2.length]
def capL (l : List ActI) : PVal := .pp [.sl (rowC ac l) l.length]
def qLoop (h : HallI) (l : List ActI) (j : Option ACode) (e : Nat) : Obj := .loop [(1, asl l), (4, .p .nils), (5, iv 0), (6, iv 0), (8, .ptr 2 0 0), (19, .p (.clo 161 [] [capL l, capH h]))] [20, 21] c88A0 c88B0 j e
theorem qLoop_fold (h : HallI) (l : List ActI) (j : Option ACode) (e : Nat) : Obj.loop [(1, asl l), (4, .p .nils), (5, iv 0), (6, iv 0), (8, .ptr 2 0 0), (19, .p (.clo 161 [] [capL l, capH h]))] [20, 21] c88A0 c88B0 j e = qLoop h l j e := rfl
theorem refs_qLoop (h : HallI) (l : List ActI) (j : Option ACode) (e : Nat) : refsO (qLoop h l j e) = [2] := by simp [qLoop]
def pR (h : HallI) (out : List StaI) : Sto := [(2, .box [.sl 1 out.length 0 out.length]), (1, .arr (rowC sc out) out.length 15), (0, .box [iv h.doors, iv h.base, csl h.t0, csl h.t1, csl h.t2])]

theorem yield88 {d : Nat} (h : HallI) (l : List ActI) (out : List StaI) (s : StaI) (i : Int) (c5 c4 : List PVal) (hl : out.length < 100000) :
  evFn F C0 G0 (d + 1) (.yld 3) [iv i, sa s] ((5, .arr c5 0 1) :: (4, .arr c4 0 1) :: (3, qLoop h l none 0) :: pR h out) = .ret (bl true, (6, .arr (sc s) 0 1) :: (5, .arr c5 0 1) :: (4, .arr c4 0 1) :: (3, qLoop h l none 0) :: pR h (out ++ [s])) := by
 rw [evFn_yld (by rfl) (by rfl)]
 have hlim : out.length + 1 ≤ lim := by simp only [lim]; omega
 have hR := sR_len out
 have hr : rowC sc (out ++ [s]) = rowC sc out ++ sc s := rowC_snoc ..
 have hn : (out ++ [s]).length = out.length + 1 := by simp
 simp only [pR, hr, hn]
 generalize hA : rowC sc out = A at *
 generalize out.length = n at *
 obtain ⟨st, o0, o1, o2, o3, o4, o5, o6, o7, k0, k1, pp, ar, sh, ad⟩ := s
 simp -implicitDefEqProofs [c88A0]
 rw [yldK_eq (by rfl), qLoop_fold]
 simp -implicitDefEqProofs [c88B0, hlim, hR]
 rw [yldB_normal (by rfl), qLoop_fold]
 simp -implicitDefEqProofs [sc]
end Fw
end

section
set_option maxHeartbeats 16000000
namespace Fw
open Go

def P6 (h : HallI) (l : List ActI) (s : StaI) (out : List StaI) (i : Nat) : St := ⟨[(0, .yld 3), (2, .p (capH h)), (4, .ptr 4 0 0), (8, asl l), (9, iv l.length), (10, iv i)], (4, .arr (sc s) 0 1) :: (3, qLoop h l none 0) :: pR h out⟩
def ActOk (x : ActI) : Prop := NumOk x ∧ 0 ≤ x.tick ∧ x.tick ≤ 100000000

theorem gc6 (o : Obj) (c5 c4 : List PVal) (h : HallI) (l : List ActI) (out : List StaI) :
  gc 6 [(0, bl true)] ((6, o) :: (5, .arr c5 0 1) :: (4, .arr c4 0 1) :: (3, qLoop h l none 0) :: pR h out) = (5, .arr c5 0 1) :: (4, .arr c4 0 1) :: (3, qLoop h l none 0) :: pR h out := by
 have h := gc_new (lo := 6) (env := [(0, bl true)]) (X := [(6, o)]) (S := (5, .arr c5 0 1) :: (4, .arr c4 0 1) :: (3, qLoop h l none 0) :: pR h out) (by simp) (by simp [pR]) (by simp) (by simp [pR, refs_qLoop, refsO_arr, refsO_box, -refsO])
 simpa using h

theorem round161 {d : Nat} (h : HallI) (q0 : h.t0.length < 1000000) (q1 : h.t1.length < 1000000) (q2 : h.t2.length < 1000000) (hb : 0 ≤ h.base ∧ h.base ≤ 1000000) (l : List ActI) (hl : l.length < 100000) (s : StaI) (out : List StaI) (ho : out.length < 100000) (i : Nat) (hi : i < l.length) (hx : ActOk l[i]) (hs : StOk s) (hW : 0 ≤ waitP h l[i].a l[i].b l[i].c ∧ waitP h l[i].a l[i].b l[i].c ≤ 1000000) (hr : (reaL s l[i]).length = 0) :
  ∃ st1, loopS (evFn F C0 G0 (d + 6)) C0 G0 4 true [0, 2, 4, 8, 9, 10] c161L0 (P6 h l s out i) = .ret (.normal, st1) ∧
   loopS (evFn F C0 G0 (d + 6)) C0 G0 4 true [0, 2, 4, 8, 9, 10] c161L0 st1 = loopS (evFn F C0 G0 (d + 6)) C0 G0 4 true [0, 2, 4, 8, 9, 10] c161L0 (P6 h l (aftS h.base (waitP h l[i].a l[i].b l[i].c) s l[i]) (out ++ [aftS h.base (waitP h l[i].a l[i].b l[i].c) s l[i]]) (i + 1)) := by
 obtain ⟨hn, ht⟩ := hx
 have kr := reasons90 (n := d + 6) (by omega) s l[i] hn
 have ka := after162 (n := d + 6) (by omega) h q0 q1 q2 s l[i] hn hs hb ht hW
 rw [hr] at kr
 have hr0 : reaL s l[i] = [] := List.eq_nil_of_length_eq_zero hr
 rw [hr0] at kr
 generalize aftS h.base (waitP h l[i].a l[i].b l[i].c) s l[i] = s' at *
 have ky := yield88 (d := d + 5) h l out s' i (ac l[i]) (sc s') ho
 have kg := gc6 (.arr (sc s') 0 1) (ac l[i]) (sc s') h l (out ++ [s'])
 have hR := aR_len l
 have hlt : i * 6 < l.length * 6 := by omega
 have hlt6 : i * 6 + 6 ≤ l.length * 6 := by omega
 have wi := wrap_succ (i := i) (by omega)
 have hdr := rowC_drop ac_len l i hi
 simp only [P6, asl]
 have hrq := refs_qLoop h l none 0
 generalize qLoop h l none 0 = QL at *
 generalize hA : rowC ac l = A at *
 generalize rowC ac (l.drop (i + 1)) = R2 at *
 generalize l[i] = x at *
 obtain ⟨t, k, m, a, b, c⟩ := x
 obtain ⟨st, o0, o1, o2, o3, o4, o5, o6, o7, k0, k1, pp, ar, sh, ad⟩ := s
 obtain ⟨st', o0', o1', o2', o3', o4', o5', o6', o7', k0', k1', pp', ar', sh', ad'⟩ := s'
 simp only [pR, sc, ac, capH, ha, csl, pStr_nil] at *
 generalize cI h.t0 = A0 at *
 generalize cI h.t1 = A1 at *
 generalize cI h.t2 = A2 at *
 generalize rowC sc out = B at *
 generalize rowC sc (out ++ _) = B' at *
 generalize out.length = y at *
 generalize (out ++ _).length = y' at *
 refine ⟨?_, ?h1, ?h2⟩
 case h1 =>
  simp -implicitDefEqProofs [loopS_eq, c161L0, hi, hR, hlt, hdr, kr, ka, ky, wi, refsO_arr, refsO_box, hrq, -refsO]
  exact rfl
 case h2 => exact loopS_same (by simp) (by simp [refsO_arr, refsO_box, hrq, -refsO])
end Fw
end

section
set_option maxHeartbeats 16000000
namespace Fw
open Go

theorem addR_len (L : List (List UInt8)) (b : Bool) (w : List UInt8) : (addR L b w).length = L.length + b.toNat := by
 cases b <;> simp [addR]
theorem reaL_nil {s : StaI} {x : ActI} : (reaL s x).length = 0 ↔ s.tick ≤ x.tick ∧ stB s x = false ∧ armB s x = false ∧ dooB s x = false ∧ peoB s x = false ∧ keyR s x = false ∧ waiB s x = false := by
 unfold reaL
 simp only [addR_len, List.length_nil, Nat.zero_add]
 by_cases h : x.tick < s.tick
 ·have : ¬ s.tick ≤ x.tick := by omega
  simp [h, this]
 ·have : s.tick ≤ x.tick := by omega
  simp only [h, decide_false, Bool.toNat_false, this, true_and, Nat.zero_add]
  cases stB s x <;> cases armB s x <;> cases dooB s x <;> cases peoB s x <;> cases keyR s x <;> cases waiB s x <;> simp
theorem aft_ok {s : StaI} {x : ActI} (hs : StOk s) (hx : ActOk x) (hr : (reaL s x).length = 0) (base W : Int) : StOk (aftS base W s x) := by
 obtain ⟨a1, a2, a3, a4⟩ := hs
 obtain ⟨hn, t1, t2⟩ := hx
 obtain ⟨-, h1, -⟩ := reaL_nil.1 hr
 have hk := numOk_cases hn
 obtain ⟨t, k, m, a, b, c⟩ := x
 simp only at hk t1 t2
 rcases hk with rfl | rfl | rfl | rfl | rfl | rfl | rfl | rfl | rfl | rfl
 ·have e : aftS base W s ⟨t, kOpen, m, a, b, c⟩ = setO { s with tick := t } m true := rfl
  rw [e]; unfold setO; repeat' split
  all_goals exact ⟨a1, a2, a3, a4⟩
 ·have e : aftS base W s ⟨t, kClose, m, a, b, c⟩ = setO { s with tick := t } m false := rfl
  rw [e]; unfold setO; repeat' split
  all_goals exact ⟨a1, a2, a3, a4⟩
 ·have e : aftS base W s ⟨t, kInsert, m, a, b, c⟩ = setY { s with tick := t } m true := rfl
  rw [e]; unfold setY; split <;> exact ⟨a1, a2, a3, a4⟩
 ·have e : aftS base W s ⟨t, kRemove, m, a, b, c⟩ = setY { s with tick := t } m false := rfl
  rw [e]; unfold setY; split <;> exact ⟨a1, a2, a3, a4⟩
 ·have e : stB s ⟨t, kEnter, m, a, b, c⟩ = decide (100 ≤ s.people) := rfl
  rw [e] at h1
  simp only [decide_eq_false_iff_not] at h1
  exact ⟨show 0 ≤ s.people + 1 by omega, show s.people + 1 ≤ 100 by omega, a3, a4⟩
 ·have e : stB s ⟨t, kLeave, m, a, b, c⟩ = (s.people == 0) := rfl
  rw [e] at h1
  have h1 : ¬ s.people = 0 := by simpa using h1
  exact ⟨show 0 ≤ s.people - 1 by omega, show s.people - 1 ≤ 100 by omega, a3, a4⟩
 ·exact ⟨a1, a2, a3, a4⟩
 ·exact ⟨a1, a2, a3, a4⟩
 ·exact ⟨a1, a2, show -1 ≤ t by omega, t2⟩
 ·exact ⟨a1, a2, a3, a4⟩

theorem stop161 {d : Nat} (h : HallI) (l : List ActI) (_hl : l.length < 100000) (s : StaI) (out : List StaI) (i : Nat) (hi : i < l.length) (hx : ActOk l[i]) (hr : (reaL s l[i]).length ≠ 0) :
  ∃ env, loopS (evFn F C0 G0 (d + 6)) C0 G0 4 true [0, 2, 4, 8, 9, 10] c161L0 (P6 h l s out i) = .ret (.ret, ⟨env, (5, .arr (ac l[i]) 0 1) :: (4, .arr (sc s) 0 1) :: (3, qLoop h l none 0) :: pR h out⟩) := by
 obtain ⟨hn, ht⟩ := hx
 have kr := reasons90 (n := d + 6) (by omega) s l[i] hn
 have hR := aR_len l
 have hlt : i * 6 < l.length * 6 := by omega
 have hlt6 : i * 6 + 6 ≤ l.length * 6 := by omega
 have hdr := rowC_drop ac_len l i hi
 have hpos : 0 < (reaL s l[i]).length := by omega
 have hpi : (0 : Int) < (reaL s l[i]).length := by omega
 have hQ : (pStr (reaL s l[i])).length = (reaL s l[i]).length := by simp
 simp only [P6, asl]
 have hrq := refs_qLoop h l none 0
 generalize qLoop h l none 0 = QL at *
 generalize hA : rowC ac l = A at *
 generalize rowC ac (l.drop (i + 1)) = R2 at *
 generalize pStr (reaL s l[i]) = PQ at *
 generalize (reaL s l[i]).length = z at *
 generalize l[i] = x at *
 obtain ⟨t, k, m, a, b, c⟩ := x
 obtain ⟨st, o0, o1, o2, o3, o4, o5, o6, o7, k0, k1, pp, ar, sh, ad⟩ := s
 simp only [pR, sc, ac, capH, csl] at *
 generalize cI h.t0 = A0 at *
 generalize cI h.t1 = A1 at *
 generalize cI h.t2 = A2 at *
 generalize rowC sc out = B at *
 generalize out.length = y at *
 refine ⟨?_, ?h1⟩
 case h1 =>
  simp -implicitDefEqProofs [loopS_eq, c161L0, hi, hR, hlt, hdr, kr, hpos, refsO_arr, refsO_box, hrq, -refsO]
  exact rfl
theorem end161 {d : Nat} (h : HallI) (l : List ActI) (s : StaI) (out : List StaI) : ∃ env, loopS (evFn F C0 G0 (d + 6)) C0 G0 4 true [0, 2, 4, 8, 9, 10] c161L0 (P6 h l s out l.length) = .ret (.exit 0, ⟨env, (4, .arr (sc s) 0 1) :: (3, qLoop h l none 0) :: pR h out⟩) := by
 simp only [P6, asl]
 have hrq := refs_qLoop h l none 0
 generalize qLoop h l none 0 = QL at *
 simp only [pR, capH]
 refine ⟨?_, ?h1⟩
 case h1 =>
  simp -implicitDefEqProofs [loopS_eq, c161L0, refsO_arr, refsO_box, hrq, -refsO]
  exact rfl

def HallOk (h : HallI) : Prop := h.t0.length < 1000000 ∧ h.t1.length < 1000000 ∧ h.t2.length < 1000000 ∧ 0 ≤ h.base ∧ h.base ≤ 1000000 ∧ ∀ a b c, 0 ≤ waitP h a b c ∧ waitP h a b c ≤ 1000000
abbrev wP (h : HallI) (x : ActI) : Int := waitP h x.a x.b x.c

theorem loop161 {d : Nat} (h : HallI) (hh : HallOk h) (l : List ActI) (hl : l.length < 50000) (hx : ∀ x ∈ l, ActOk x) : ∀ (r : List ActI) (i : Nat) (s : StaI) (out : List StaI) (fuel : Nat), l.drop i = r → i + r.length = l.length → StOk s → out.length + r.length < 100000 → r.length + 1 < fuel →
  ∃ e env X, loopN (loopS (evFn F C0 G0 (d + 6)) C0 G0 4 true [0, 2, 4, 8, 9, 10] c161L0) fuel (P6 h l s out i) = .ret (e, ⟨env, X ++ (3, qLoop h l none 0) :: pR h (out ++ (runG h.base (wP h) s r).1)⟩) ∧ (e = .ret ∨ e = .exit 0) ∧ ((∃ c4, X = [(4, .arr c4 0 1)]) ∨ ∃ c5 c4, X = [(5, .arr c5 0 1), (4, .arr c4 0 1)]) := by
 obtain ⟨q0, q1, q2, b1, b2, hw⟩ := hh
 intro r
 induction r with
 | nil =>
  intro i s out fuel hd hi hs ho hf
  simp only [List.length_nil, Nat.add_zero] at hi
  subst hi
  obtain ⟨env, he⟩ := end161 (d := d) h l s out
  refine ⟨.exit 0, env, [(4, .arr (sc s) 0 1)], ?_, .inr rfl, .inl ⟨_, rfl⟩⟩
  rw [loopN_end he (by simp) (by omega)]
  simp [runG]
 | cons x r ih =>
  intro i s out fuel hd hi hs ho hf
  simp only [List.length_cons] at hi ho hf
  have hil : i < l.length := by omega
  rw [List.drop_eq_getElem_cons hil] at hd
  injection hd with h1 h2
  have hxo : ActOk l[i] := hx _ (List.getElem_mem hil)
  by_cases hr : (reaL s l[i]).length = 0
  ·have hstep := round161 (d := d) h q0 q1 q2 ⟨b1, b2⟩ l (by omega) s out (by omega) i hil hxo hs (hw _ _ _) hr
   rw [loopN_on' hstep (by omega)]
   obtain ⟨e, env, X, g1, g2, g3⟩ := ih (i + 1) (aftS h.base (wP h l[i]) s l[i]) (out ++ [aftS h.base (wP h l[i]) s l[i]]) (fuel - 1) h2 (by omega) (aft_ok hs hxo hr _ _) (by simp only [List.length_append, List.length_cons, List.length_nil]; omega) (by omega)
   refine ⟨e, env, X, ?_, g2, g3⟩
   rw [g1]
   rw [h1] at hr ⊢
   simp [runG, hr, wP]
  ·obtain ⟨env, he⟩ := stop161 (d := d) h l (by omega) s out i hil hxo hr
   refine ⟨.ret, env, [(5, .arr (ac l[i]) 0 1), (4, .arr (sc s) 0 1)], ?_, .inl rfl, .inr ⟨_, _, rfl⟩⟩
   rw [loopN_end he (by simp) (by omega)]
   rw [h1] at hr
   simp [runG, hr]
theorem states137 {n : Nat} (hn : 1 ≤ n) (h : HallI) (l : List ActI) : RUN n 137 [ha h, asl l] = .ret (.p (.clo 161 [] [capL l, capH h])) := by
 obtain ⟨d, rfl⟩ : ∃ d, n = d + 1 := ⟨n - 1, by omega⟩
 rw [RUN, call_eq fe137 _ rfl]
 simp only [ha, csl, asl, capL, capH]
 generalize cI h.t0 = A0 at *
 generalize cI h.t1 = A1 at *
 generalize cI h.t2 = A2 at *
 generalize rowC ac l = A at *
 simp -implicitDefEqProofs [c137]
def runH (h : HallI) (l : List ActI) : List StaI × Bool := runG h.base (wP h) bgS l
theorem runG_len (base : Int) (W : ActI → Int) : ∀ (l : List ActI) (s : StaI), (runG base W s l).1.length ≤ l.length ∧ ((runG base W s l).2 = true ↔ (runG base W s l).1.length = l.length) := by
 intro l
 induction l with
 | nil => intro s; simp [runG]
 | cons x r ih =>
  intro s
  by_cases hr : (reaL s x).length = 0
  ·have := ih (aftS base (W x) s x)
   simp only [runG, hr, if_true, List.length_cons, Nat.add_le_add_iff_right, Nat.add_right_cancel_iff]
   exact this
  ·simp [runG, hr]
end Fw
end

section
set_option maxHeartbeats 16000000
namespace Fw
open Go

theorem bg_ok : StOk bgS := ⟨by decide, by decide, by decide, by decide⟩
theorem run161 {d : Nat} (h : HallI) (hh : HallOk h) (l : List ActI) (hl : l.length < 50000) (hx : ∀ x ∈ l, ActOk x) :
  ∃ X, evFn F C0 G0 (d + 7) (.fn 161) [.yld 3, .p (capL l), .p (capH h)] ((3, qLoop h l none 0) :: pR h []) = .ret (.tup [], X ++ (3, qLoop h l none 0) :: pR h (runH h l).1) ∧ ((∃ c4, X = [(4, .arr c4 0 1)]) ∨ ∃ c5 c4, X = [(5, .arr c5 0 1), (4, .arr c4 0 1)]) := by
 obtain ⟨e, env, X, h1, h2, h3⟩ := loop161 (d := d) h hh l hl hx l 0 bgS [] loopFuel rfl (by omega) bg_ok (by simp; omega) (by simp [loopFuel]; omega)
 refine ⟨X, ?_, h3⟩
 rw [evFn_fn fe161]
 have kb := begin138 (n := d + 6) (by omega)
 simp only [List.nil_append] at h1
 rw [show runG h.base (wP h) bgS l = runH h l from rfl] at h1
 generalize hS : X ++ (3, qLoop h l none 0) :: pR h (runH h l).1 = S2 at *
 have hrq := refs_qLoop h l none 0
 simp only [P6] at h1
 generalize qLoop h l none 0 = QL at *
 have e0 : pR h [] = [(2, .box [.sl 1 0 0 0]), (1, .arr [] 0 15), (0, .box [iv h.doors, iv h.base, csl h.t0, csl h.t1, csl h.t2])] := rfl
 rw [e0] at h1 ⊢
 simp only [capH, capL, asl, csl, sc, bgS, iv] at *
 generalize cI h.t0 = A0 at *
 generalize cI h.t1 = A1 at *
 generalize cI h.t2 = A2 at *
 generalize rowC ac l = A at *
 simp only [Int.natCast_zero] at h1
 rcases h2 with rfl | rfl
 ·simp -implicitDefEqProofs [c161, kb, -refsO]
  rw [h1]
  simp
 ·simp -implicitDefEqProofs [c161, kb, -refsO]
  rw [h1]
  simp

abbrev nilS : AVal := .p (.sl [] 0)
def folR (h : HallI) (l : List ActI) : AVal :=
 if actsE h l ≠ 0 then .tup [nilS, iv 0, iv (actsE h l)] else if (runH h l).2 = true then .tup [.own (rowC sc (runH h l).1) (runH h l).1.length 15, iv 0, iv 0] else .tup [nilS, iv (runH h l).1.length, iv 21]
theorem act_ok {h : HallI} (hd : h.doors ≤ 8) {x : ActI} (he : actE h x = 0) : ActOk x := by
 unfold actE at he
 split at he
 ·omega
 ·rename_i h0
  split at he
  ·cases he
  ·rename_i h1
   split at he
   ·cases he
   ·rename_i h2
    have h0 : rangeE 0 100000000 x.tick = 0 := by simpa using h0
    unfold rangeE at h0
    split at h0
    ·cases h0
    ·refine ⟨⟨by simpa using h1, fun e => ?_, fun e => ?_⟩, by omega, by omega⟩
     ·simp only [numsE, e, if_true] at h2; omega
     ·have hd : doorB x.kind = false := by
       cases hq : doorB x.kind with
       | false => rfl
       | true =>
        unfold doorB at hq
        simp only [Bool.or_eq_true, beq_iff_eq] at hq
        rcases hq with ((hq | hq) | hq) | hq <;> rw [hq] at e <;> exact absurd e (by decide)
      simp only [numsE, hd, Bool.false_eq_true, if_false, e, if_true] at h2; omega
theorem acts_ok {h : HallI} {l : List ActI} (he : actsE h l = 0) : hallE h = 0 ∧ l.length ≤ 1000 ∧ ∀ x ∈ l, actE h x = 0 := by
 unfold actsE at he
 split at he
 ·rename_i h0
  have h1 := firstE_zero.1 h0 (hallE h) (by simp)
  have h2 := firstE_zero.1 h0 (whenE (decide (1000 < l.length)) 5) (by simp)
  refine ⟨h1, ?_, fun x hx => ?_⟩
  ·by_cases h3 : 1000 < l.length
   ·simp [whenE, h3] at h2
   ·omega
  ·obtain ⟨i, hi, rfl⟩ := List.getElem_of_mem hx
   have := firstE_zero.1 he _ (List.mem_map.2 ⟨i, List.mem_range.2 hi, rfl⟩)
   rwa [getA hi] at this
 ·rename_i h0; exact absurd he h0
theorem tab_le {l : List (Int × Int)} (h : tabE l = 0) : ∀ i, i < l.length → (l.getD i (0, 0)).2 ≤ 1000000 := by
 unfold tabE at h
 split at h
 ·cases h
 ·split at h
  ·cases h
  ·have hE := firstE_zero.1 h
   intro i hi
   have h2 := firstE_zero.1 (hE (stE (prvL l i) (l.getD i (0, 0)) (decide (i = 0))) (List.mem_map.2 ⟨i, List.mem_range.2 hi, rfl⟩)) (rangeE 0 1000000 (l.getD i (0, 0)).2) (by simp)
   unfold rangeE at h2
   split at h2
   ·cases h2
   ·omega
theorem wtP_le {l : List (Int × Int)} (h : ∀ i, i < l.length → (l.getD i (0, 0)).2 ≤ 1000000) (v acc : Int) (ha : 0 ≤ acc ∧ acc ≤ 1000000) : ∀ i, i ≤ l.length → 0 ≤ wtP l v acc i ∧ wtP l v acc i ≤ 1000000 := by
 intro i
 induction i with
 | zero => intro _; exact ha
 | succ i ih =>
  intro hi
  have h1 := ih (by omega)
  have h2 := h i (by omega)
  simp only [wtP]
  split <;> omega
theorem hall_ok {h : HallI} (hz : hallE h = 0) (q0 : h.t0.length < 1000000) (q1 : h.t1.length < 1000000) (q2 : h.t2.length < 1000000) : HallOk h := by
 have hE := firstE_zero.1 hz
 have hb := hE (rangeE 0 1000000 h.base) (by simp)
 unfold rangeE at hb
 split at hb
 ·cases hb
 ·refine ⟨q0, q1, q2, by omega, by omega, fun a b c => ?_⟩
  unfold waitP
  have h0 := wtP_le (tab_le (hE _ (by simp) : tabE h.t0 = 0)) a 0 (by omega) h.t0.length (Nat.le_refl _)
  have h1 := wtP_le (tab_le (hE _ (by simp) : tabE h.t1 = 0)) b _ h0 h.t1.length (Nat.le_refl _)
  exact wtP_le (tab_le (hE _ (by simp) : tabE h.t2 = 0)) c _ h1 h.t2.length (Nat.le_refl _)

theorem followed88 {n : Nat} (hn : 9 ≤ n) (h : HallI) (q0 : h.t0.length < 1000000) (q1 : h.t1.length < 1000000) (q2 : h.t2.length < 1000000) (l : List ActI) (hl : l.length < 50000) : RUN n 88 [ha h, asl l] = .ret (folR h l) := by
 obtain ⟨d, rfl⟩ : ∃ d, n = d + 9 := ⟨n - 9, by omega⟩
 rw [RUN, call_eq fe88 _ rfl]
 have ke := acts86 (n := d + 8) (by omega) h q0 q1 q2 l (by omega)
 have ks := states137 (n := d + 8) (by omega) h l
 unfold folR
 by_cases h0 : actsE h l = 0
 ·obtain ⟨z1, z2, z3⟩ := acts_ok h0
  have hd := (doors_of z1).2
  obtain ⟨X, r1, r2⟩ := run161 (d := d + 1) h (hall_ok z1 q0 q1 q2) l hl (fun x hx => act_ok hd (z3 x hx))
  have hlen := runG_len h.base (wP h) l bgS
  rw [show runG h.base (wP h) bgS l = runH h l from rfl] at hlen
  obtain ⟨g1, g2⟩ := hlen
  rw [h0] at ke
  rw [if_neg (by simpa using h0)]
  have r1 : evFn F C0 G0 (d + 8) (.fn 161) [.yld 3, .p (capL l), .p (capH h)] ((3, qLoop h l none 0) :: pR h []) = .ret (.tup [], X ++ (3, qLoop h l none 0) :: pR h (runH h l).1) := r1
  have e0 : pR h [] = [(2, .box [.sl 1 0 0 0]), (1, .arr [] 0 15), (0, .box [iv h.doors, iv h.base, csl h.t0, csl h.t1, csl h.t2])] := rfl
  rw [e0] at r1
  have hR := sR_len (runH h l).1
  have hlt : if (runH h l).2 = true then l.length ≤ (runH h l).1.length else (runH h l).1.length < l.length := by
   cases hb : (runH h l).2 with
   | true => have := g2.1 hb; simp only [if_true]; omega
   | false =>
    have : ¬ (runH h l).1.length = l.length := fun e => by rw [g2.2 e] at hb; cases hb
    simp only [Bool.false_eq_true, if_false]; omega
  simp only [qLoop, pR, capH, capL, ha, csl, asl] at *
  generalize cI h.t0 = A0 at *
  generalize cI h.t1 = A1 at *
  generalize cI h.t2 = A2 at *
  generalize rowC ac l = A at *
  generalize rowC sc (runH h l).1 = B at *
  generalize (runH h l).2 = w at *
  generalize (runH h l).1.length = y at *
  rcases r2 with ⟨c4, rfl⟩ | ⟨c5, c4, rfl⟩
  ·cases w <;> simp only [Bool.false_eq_true, if_false, if_true] at hlt <;> simp -implicitDefEqProofs [c88, ke, ks, r1, hlt, hR, rfunK, callee]
  ·cases w <;> simp only [Bool.false_eq_true, if_false, if_true] at hlt <;> simp -implicitDefEqProofs [c88, ke, ks, r1, hlt, hR, rfunK, callee]
 ·rw [if_pos h0]
  generalize actsE h l = e at *
  simp only [ha, csl, asl] at *
  generalize cI h.t0 = A0 at *
  generalize cI h.t1 = A1 at *
  generalize cI h.t2 = A2 at *
  generalize rowC ac l = A at *
  simp -implicitDefEqProofs [c88, ke, h0]
end Fw
end

section
set_option maxHeartbeats 16000000
namespace Fw
open Go

structure RunOk (h : HallI) (l : List ActI) : Prop where
 hall : hallE h = 0
 q0 : h.t0.length < 1000000
 q1 : h.t1.length < 1000000
 q2 : h.t2.length < 1000000
 len : l.length < 50000
 acts : ∀ x ∈ l, ActOk x
theorem RunOk.ok {h : HallI} {l : List ActI} (r : RunOk h l) : HallOk h := hall_ok r.hall r.q0 r.q1 r.q2
end Fw
end

section
set_option maxHeartbeats 16000000
namespace Fw
open Go

def zS : StaI := ⟨0, false, false, false, false, false, false, false, false, false, false, 0, false, 0, 0⟩
def chkE (h : HallI) (l : List ActI) : Int := if actsE h l ≠ 0 then actsE h l else if (runH h l).2 = true then 0 else 21
theorem runH_lt (h : HallI) {l : List ActI} (hl : l.length < 50000) : (runH h l).1.length < 50000 := by
 have := (runG_len h.base (wP h) l bgS).1
 rw [show runG h.base (wP h) bgS l = runH h l from rfl] at this
 omega
def runS (h : HallI) (l : List ActI) : StaI := if actsE h l = 0 ∧ (runH h l).2 = true then lastS (runH h l).1 else zS
def runI (h : HallI) (l : List ActI) : Int := if actsE h l = 0 ∧ (runH h l).2 = false then (runH h l).1.length else 0
theorem run70 {n : Nat} (hn : 10 ≤ n) (h : HallI) (q0 : h.t0.length < 1000000) (q1 : h.t1.length < 1000000) (q2 : h.t2.length < 1000000) (l : List ActI) (hl : l.length < 50000) : RUN n 70 [ha h, asl l] = .ret (.tup [sa (runS h l), iv (runI h l), iv (chkE h l)]) := by
 obtain ⟨d, rfl⟩ : ∃ d, n = d + 10 := ⟨n - 10, by omega⟩
 rw [RUN, call_eq fe70 _ rfl]
 have k88 := followed88 (n := d + 9) (by omega) h q0 q1 q2 l hl
 have k89 := last89 (n := d + 9) (by omega) (runH h l).1 (by have := runH_lt h hl; omega)
 unfold folR at k88
 by_cases h0 : actsE h l = 0
 ·rw [if_neg (by simp [h0])] at k88
  simp only [runS, runI, chkE, h0, true_and, ne_eq, not_true_eq_false, if_false]
  generalize lastS (runH h l).1 = s at *
  simp only [stl] at k89
  generalize rowC sc (runH h l).1 = B at *
  generalize (runH h l).1.length = y at *
  simp only [ha, csl, asl] at *
  generalize cI h.t0 = A0 at *
  generalize cI h.t1 = A1 at *
  generalize cI h.t2 = A2 at *
  generalize rowC ac l = A at *
  cases hw : (runH h l).2
  ·simp only [hw, Bool.false_eq_true, if_false, if_true] at k88 ⊢
   simp -implicitDefEqProofs [c70, k88, zS]
  ·simp only [hw, if_true] at k88 ⊢
   obtain ⟨st, o0, o1, o2, o3, o4, o5, o6, o7, k0, k1, pp, ar, sh, ad⟩ := s
   simp -implicitDefEqProofs [c70, k88, k89]
 ·rw [if_pos h0] at k88
  simp only [runS, runI, chkE, h0, false_and, if_false, ne_eq, not_false_eq_true, if_true]
  generalize actsE h l = e at *
  simp only [ha, csl, asl] at *
  generalize cI h.t0 = A0 at *
  generalize cI h.t1 = A1 at *
  generalize cI h.t2 = A2 at *
  generalize rowC ac l = A at *
  simp -implicitDefEqProofs [c70, k88, zS, h0]
end Fw
end

