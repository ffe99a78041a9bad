/- What is learned, by the chapter. -/
import Derived.Test.YtombnimlolbekaaGreatDoorPuQ4
set_option maxHeartbeats 8000000
namespace Fw
open Go
attribute [local irreducible] evCode evOps evOpsD evOper evOperD evOp evFn loopN T.All T.bind callPure callOp opsK opsDK restK seqK blockK loopS setK setQ giveK scalK gcK finish finS rfunK yldK yldB loopK

theorem setCells_append {α : Type} : ∀ (b a x : List α), b.length = a.length → setCells (x ++ a) x.length b = x ++ b := by
 intro b
 induction b with
 | nil => intro a x h; have : a = [] := List.eq_nil_of_length_eq_zero (by simpa using h.symm); subst this; simp [setCells]
 | cons y r ih =>
  intro a x h
  cases a with
  | nil => simp at h
  | cons z q =>
   have := ih q (x ++ [y]) (by simpa using h)
   rw [List.length_append, List.append_assoc, List.append_assoc] at this
   simpa [setCells] using this
theorem setCells_all {α : Type} (a b : List α) (h : b.length = a.length) : setCells a 0 b = b := by
 have := setCells_append b a [] h
 simpa using this

theorem learnS_rounds (s : SledI) (l c : List (Int × Int)) (p : List Int) (step : Int) (i : Nat) {out : List (Int × Int)} (hk : Keep l out) (hi : i < l.length) :
  roundL s c.length (l.getD i (0, 0)).1 (decide (bothI s l c i < twoI s l p c.length i)) i (step * -1) (roundL s c.length (l.getD i (0, 0)).1 (decide (twoI s l p c.length i < bothI s l c i)) i (step * 1) out) = learnS s l c p step i out := by
 have hv := hk.val i hi
 have hio : i < out.length := by rw [hk.len]; exact hi
 unfold roundL learnS wishI
 generalize (l.getD i (0, 0)).1 = x1
 by_cases h1 : (c.length : Int) ≤ x1
 ·simp [h1]
 ·by_cases h2 : twoI s l p c.length i < bothI s l c i
  ·have h3 : ¬ bothI s l c i < twoI s l p c.length i := by omega
   simp [h1, h2, h3]
  ·by_cases h3 : bothI s l c i < twoI s l p c.length i
   ·simp [h1, h2, h3]
   ·have : moveL out i 0 = out := by
     have hgo : out.getD i (0, 0) = out[i] := by simp [List.getD_eq_getElem?_getD, List.getElem?_eq_getElem hio]
     rw [hgo] at hv
     rw [moveL, hgo]
     have : max 0 (min 100 (out[i].2 + 0)) = out[i].2 := by omega
     rw [this]; exact List.set_getElem_self hio
    simp [h1, h2, h3, this]

theorem learned117 {n : Nat} (hn : 5 ≤ n) {s : SledI} (hs : SledOk s) {l c : List (Int × Int)} (hl : Valid l) {p : List Int} (h : Fit c p) (hc0 : 0 < c.length) {step : Int} (hst : 1 ≤ step ∧ step ≤ 100) :
  RUN n 117 [sla s, csl l, csl c, isl p, iv step] = .ret (.own (cI (learnedL s l c p step)) l.length 2) := by
 obtain ⟨d, rfl⟩ : ∃ d, n = d + 5 := ⟨n - 5, by omega⟩
 rw [RUN, call_eq fe117 _ rfl]
 have hsm := hl.small
 have hpos := hl.pos
 have hcl := h.small
 have hpl := h.len
 have hd := hs.delay
 let so : Obj := .arr (slc s) 0 1
 let inv : Nat → St := fun i => ⟨[(1, csl l), (2, csl c), (3, isl p), (4, iv step), (5, .ptr 0 0 0), (11, .sl 1 0 0 l.length), (27, csl l), (28, iv l.length), (29, iv i)], [(1, .arr (cI (outF s l c p step i)) 0 2), (0, so)]⟩
 have hlim0 : (l.length : Int) ≤ (lim : Int) := by simp only [lim]; omega
 have hlast := (outF_keep (s := s) (c := c) (p := p) (step := step) hl l.length (Nat.le_refl _)).len
 have hcp : setCells (List.replicate l.length [PVal.int .i64 0, PVal.int .i64 0]).flatten 0 ((cI l).take (l.length * 2)) = cI l := by
  rw [List.take_of_length_le (by simp)]
  exact setCells_all _ _ (by simp)
 simp -implicitDefEqProofs [c117, hlim0, hcp]
 rw [loop_run' inv l.length (e := .exit 0) (st' := ⟨(inv l.length).env ++ [(30, .p (.bool false))], (inv l.length).sto⟩) (by simp)]
 ·simp -implicitDefEqProofs [inv, so, hlast, learnedL]
 ·rfl
 ·intro i hi
  have hk := outF_keep (s := s) (c := c) (p := p) (step := step) hl i (by omega)
  have ho1 : outF s l c p step (i + 1) = learnS s l c p step i (outF s l c p step i) := rfl
  rw [← learnS_rounds s l c p step i hk hi] at ho1
  have hv := hl.val i hi
  have hgi : l.getD i (0, 0) = l[i] := by simp [List.getD_eq_getElem?_getD, List.getElem?_eq_getElem hi]
  have hx := cI_drop l i hi
  have hlt : i * 2 < l.length * 2 := by omega
  have hlt' : (i : Int) < l.length := by omega
  let a := fromN s l i
  let e := endN s l c.length i
  have ha : l[i].1 + s.delay = (a : Int) := by simp only [a, fromN, hgi]; rw [hgi] at hv; omega
  have hab : a ≤ 72 := by rw [hgi] at hv; omega
  have hwa : IntKind.i64.wrap (a : Int) = (a : Int) := wrap64 (by omega) (by omega)
  have hec : e ≤ c.length := by simp only [e, endN]; split <;> omega
  generalize hO : outF s l c p step i = out at *
  let J : Nat → St := fun t => ⟨[(1, csl l), (2, csl c), (3, isl p), (4, iv step), (5, .ptr 0 0 0), (11, .sl 1 0 0 l.length), (12, iv i), (13, .ptr 2 0 0), (14, iv e), (15, iv (twoF p a t)), (16, iv (bothF c a t)), (17, iv t), (27, csl l), (28, iv l.length), (29, iv i)], wS s l[i].1 l[i].2 out⟩
  have key : ∀ st0 : St, st0 = ⟨[(1, csl l), (2, csl c), (3, isl p), (4, iv step), (5, .ptr 0 0 0), (11, .sl 1 0 0 l.length), (12, iv i), (13, .ptr 2 0 0), (14, iv e), (15, iv 0), (16, iv 0), (17, iv a), (27, csl l), (28, iv l.length), (29, iv i)], wS s l[i].1 l[i].2 out⟩ →
    loopN (loopS (evFn F C0 G0 (d + 4)) C0 G0 0 false [1, 2, 3, 4, 5, 11, 12, 13, 14, 15, 16, 17, 27, 28, 29] c117L0) loopFuel st0 = .ret (.exit 2, ⟨(J (max a e)).env ++ [(59, .p (.bool false))], (J (max a e)).sto⟩) := by
   rintro st0 rfl
   refine loop_from J a (max a e) (by omega) (by simp) (by simp only [J, twoF_self, bothF_self]) (fun t h1 h2 => ?_) ?_ (by simp [loopFuel]; omega)
   ·have hte : t < e := by omega
    have htc : t < c.length := by omega
    have htp : t < p.length := by omega
    have hcx := cI_drop c t htc
    have b1 := twoF_bound h a t (by omega)
    have b2 := bothF_bound h a t (by omega)
    have b3 := twoF_bound h a (t + 1) (by omega)
    have b4 := bothF_bound h a (t + 1) (by omega)
    have hgc : c.getD t (0, 0) = c[t] := by simp [List.getD_eq_getElem?_getD, List.getElem?_eq_getElem htc]
    have hgp : p.getD t 0 = p[t] := by simp [List.getD_eq_getElem?_getD, List.getElem?_eq_getElem htp]
    have s1 : twoF p a (t + 1) = twoF p a t + 2 * p[t] := by rw [twoF_succ p h1, hgp]
    have s2 : bothF c a (t + 1) = bothF c a t + (c[t].1 + c[t].2) := by rw [bothF_succ c h1, hgc]
    have hc1 := h.corr c[t] (List.getElem_mem htc)
    have hp1 := h.acc p[t] (List.getElem_mem htp)
    rw [s1] at b3
    rw [s2] at b4
    have w1 := wrap64 (n := 2 * p[t]) (by omega) (by omega)
    have w2 := wrap64 (n := twoF p a t + 2 * p[t]) (by omega) (by omega)
    have w3 := wrap64 (n := c[t].1 + c[t].2) (by omega) (by omega)
    have w4 := wrap64 (n := bothF c a t + (c[t].1 + c[t].2)) (by omega) (by omega)
    have q1 : (t : Int) < c.length := by omega
    have q2 : (t : Int) < p.length := by omega
    have q3 : t * 2 < c.length * 2 := by omega
    have q4 : (t : Int) < e := by omega
    simp -implicitDefEqProofs [J, wS, loopS_eq, c117L0, hcx, q1, q2, q3, q4, htp, s1, s2, w1, w2, w3, w4, wrap_succ (i := t) (by omega)]
   ·have q4 : ¬ ((max a e : Nat) : Int) < e := by omega
    generalize max a e = m at *
    simp -implicitDefEqProofs [J, wS, loopS_eq, c117L0, q4]
  have hA : twoF p a (max a e) = twoI s l p c.length i := rfl
  have hB : bothF c a (max a e) = bothI s l c i := rfl
  rw [hgi] at ho1
  generalize hAg : twoI s l p c.length i = A at *
  generalize hBg : bothI s l c i = B at *
  generalize hM : max a e = m at *
  -- the wishes
  let o1 := roundL s c.length l[i].1 (decide (A < B)) i (step * 1) out
  have hk1 : Keep l o1 := by
   simp only [o1, roundL]
   split
   ·exact hk
   ·split
    ·split
     ·exact hk.move i _ hi
     ·exact hk
    ·exact hk
  let o2 := roundL s c.length l[i].1 (decide (B < A)) i (step * -1) o1
  have ho2 : outF s l c p step (i + 1) = o2 := ho1
  obtain ⟨t1, u1, u2⟩ := wish_round (d := d) hs hl p hst hc0 hcl hk i hi l[i].1 l[i].2 A B 0 180 1 _ (.inl ⟨rfl, rfl, rfl, rfl⟩)
  obtain ⟨t2, u3, u4⟩ := wish_round (d := d) hs hl p hst hc0 hcl hk1 i hi l[i].1 l[i].2 A B 1 181 (-1) _ (.inr ⟨rfl, rfl, rfl, rfl⟩)
  let K : Nat → St := fun r => ⟨wE l c p step i A B r, wS s l[i].1 l[i].2 (if r = 0 then out else if r = 1 then o1 else o2)⟩
  have key2 : ∀ st0 : St, st0 = ⟨[(1, csl l), (2, csl c), (3, isl p), (4, iv step), (5, .ptr 0 0 0), (11, .sl 1 0 0 l.length), (12, iv i), (13, .ptr 2 0 0), (15, iv A), (16, iv B), (27, csl l), (28, iv l.length), (29, iv i), (82, wishesA), (83, iv 0)], wS s l[i].1 l[i].2 out⟩ →
    loopN (loopS (evFn F C0 G0 (d + 4)) C0 G0 0 true [1, 2, 3, 4, 5, 11, 12, 13, 15, 16, 27, 28, 29, 82, 83] c117L1) loopFuel st0 = .ret (.exit 4, ⟨wE l c p step i A B 2 ++ [(84, .p (.bool false))], wS s l[i].1 l[i].2 o2⟩) := by
   rintro st0 rfl
   refine loop_run' K 2 (by simp) rfl (fun r hr => ?_) ?_ (by simp [loopFuel])
   ·rcases (show r = 0 ∨ r = 1 by omega) with rfl | rfl
    ·exact ⟨t1, u1, u2⟩
    ·exact ⟨t2, u3, u4⟩
   ·simp -implicitDefEqProofs [K, wE, wS, loopS_eq, c117L1]
  have h155 := wishes155 (n := d + 4) (by omega)
  have w1 := wrap64 (n := (i : Int) + 1) (by omega) (by omega)
  have key2 := key2 _ rfl
  simp only [wE, wS, List.cons_append, List.nil_append] at key2
  refine ⟨⟨(inv (i + 1)).env, (2, .arr [.int .i64 l[i].1, .int .i64 l[i].2] 0 1) :: (inv (i + 1)).sto⟩, ?_, loopS_same rfl (by simp [inv, so])⟩
  by_cases hnx : i + 1 < l.length
  ·have hgn : l.getD (i + 1) (0, 0) = l[i + 1] := by simp [List.getD_eq_getElem?_getD, List.getElem?_eq_getElem hnx]
   have hv2 := hl.val (i + 1) hnx
   rw [hgn] at hv2
   have he : min (c.length : Int) (l[i + 1].1 + s.delay) = (e : Int) := by
    simp only [e, endN, if_pos hnx, fromN, hgn]
    omega
   have hwn := wrap64 (n := l[i + 1].1 + s.delay) (by omega) (by omega)
   have hmn := min2 (c.length : Int) (l[i + 1].1 + s.delay)
   rw [he] at hmn
   have hxn := cI_drop l (i + 1) hnx
   have q1 : (i : Int) + 1 < l.length := by omega
   have q2 : (i + 1) * 2 < l.length * 2 := by omega
   have q3 : (0 : Int) ≤ (i : Int) + 1 := by omega
   have q4 : ((i : Int) + 1).toNat = i + 1 := by omega
   have key := key _ rfl
   simp only [J, wS, hA, hB, List.cons_append, List.nil_append] at key
   simp -implicitDefEqProofs [inv, so, loopS_eq, c117L2, hx, hlt, hlt', ha, hwa, w1, hwn, hmn, hxn, q1, q2, q3, q4, hO]
   rw [key]
   simp -implicitDefEqProofs [h155]
   rw [key2]
   simp -implicitDefEqProofs [ho2, w1]
  ·have he : c.length = e := by simp only [e, endN, if_neg hnx]
   have q1 : ¬ (i : Int) + 1 < l.length := by omega
   have key := key _ rfl
   rw [← he] at key
   simp only [J, wS, hA, hB, List.cons_append, List.nil_append] at key
   simp -implicitDefEqProofs [inv, so, loopS_eq, c117L2, hx, hlt, hlt', ha, hwa, w1, q1, hO]
   rw [key]
   simp -implicitDefEqProofs [h155]
   rw [key2]
   simp -implicitDefEqProofs [ho2, w1]
 ·simp -implicitDefEqProofs [inv, so, loopS_eq, c117L2]
 ·simp [loopFuel]; omega
end Fw
