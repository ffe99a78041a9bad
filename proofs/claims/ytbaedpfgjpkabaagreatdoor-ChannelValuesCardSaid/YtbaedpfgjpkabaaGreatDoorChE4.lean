/- Enclosed: the products added up, in whatever order the map gives them; one interval. -/
import Derived.Test.YtbaedpfgjpkabaaGreatDoorChE3
set_option maxHeartbeats 16000000
namespace Fw
open Go
attribute [local irreducible] evCode evOps evOpsD evOper evOperD evOp evFn loopN T.All T.bind callPure callOp opsK opsDK restK seqK blockK loopS setK setQ giveK scalK gcK finish finS rfunK yldK yldB loopK
section
variable {C : Nat → List AVal → Option (T AVal)} {G : Nat → Option (List PVal)} {d : Nat}

def fLo (l : List (Int × Int)) (k v : Int) : Int := min ((l.getD k.toNat (0, 0)).1 * v) ((l.getD k.toNat (0, 0)).2 * v)
def fHi (l : List (Int × Int)) (k v : Int) : Int := max ((l.getD k.toNat (0, 0)).1 * v) ((l.getD k.toNat (0, 0)).2 * v)

theorem iv_get {l : List (Int × Int)} (h : IvOk l) {k : Int} (h0 : 0 ≤ k) (h1 : k < l.length) : ∃ hk : k.toNat < l.length, l.getD k.toNat (0, 0) = l[k.toNat] ∧ -200000 ≤ l[k.toNat].1 ∧ l[k.toNat].1 ≤ l[k.toNat].2 ∧ l[k.toNat].2 ≤ 200000 := by
  have hk : k.toNat < l.length := by omega
  exact ⟨hk, by simp [List.getD_eq_getElem?_getD, List.getElem?_eq_getElem hk], h _ (List.getElem_mem hk)⟩
theorem f_bound {l : List (Int × Int)} (h : IvOk l) {k v : Int} (h0 : 0 ≤ k) (h1 : k < l.length) : ((fLo l k v).natAbs : Int) ≤ 200000 * v.natAbs ∧ ((fHi l k v).natAbs : Int) ≤ 200000 * v.natAbs := by
  obtain ⟨hk, hg, b1, b2, b3⟩ := iv_get h h0 h1
  have m1 : ((l[k.toNat].1 * v).natAbs : Int) ≤ 200000 * v.natAbs := mul_abs (by omega) (Int.le_refl _)
  have m2 : ((l[k.toNat].2 * v).natAbs : Int) ≤ 200000 * v.natAbs := mul_abs (by omega) (Int.le_refl _)
  simp only [fLo, fHi, hg]
  omega

def enc2 (l : List (Int × Int)) (W : PVal) (D : Int) (at' v : Nat) (outs : List PVal) (es : List (Int × Int)) (cur : Option (PVal × PVal)) (a b : Int) : St :=
  ⟨[(0, .p (.sl (cI l) l.length)), (4, .p .nils), (5, .p (.int .i64 0)), (8, .p W), (9, .p (.int .i64 D)), (10, .sl 0 v 0 v), (15, .ptr 3 0 0), (42, .p (.int .i64 l.length)), (43, .p (.int .i64 at')), (60, .it 4)],
    [(4, .miter (kA es) (kB es) cur), (3, .arr [.int .i64 a, .int .i64 b] 0 1), (0, .arr outs v 2)]⟩

theorem enc2_step (hC : ∀ f ∈ [117, 173, 174], ∀ as, C f as = none) (l : List (Int × Int)) (hl : IvOk l) (W : PVal) (D : Int) (at' v : Nat) (outs : List PVal) (es : List (Int × Int)) (hks : ∀ k ∈ keysE es, 0 ≤ k ∧ k < l.length) (cur : Option (PVal × PVal)) (a b : Int)
    (ha : a.natAbs + 200000 * asum es ≤ 200000000000000) (hb : b.natAbs + 200000 * asum es ≤ 200000000000000) (hne : 0 < es.length) :
    (loopS (evFn F C G (d + 2)) C G 0 true [0, 4, 5, 8, 9, 10, 15, 42, 43, 60] c51L1 (enc2 l W D at' v outs es cur a b)).All (fun r => ∃ i, ∃ h : i < es.length, ∃ cur', r.1 = .normal ∧
      loopS (evFn F C G (d + 2)) C G 0 true [0, 4, 5, 8, 9, 10, 15, 42, 43, 60] c51L1 r.2 = loopS (evFn F C G (d + 2)) C G 0 true [0, 4, 5, 8, 9, 10, 15, 42, 43, 60] c51L1 (enc2 l W D at' v outs (es.eraseIdx i) cur' (a + fLo l es[i].1 es[i].2) (b + fHi l es[i].1 es[i].2))) := by
  have hgc : gc 0 (restrict (enc2 l W D at' v outs es cur a b).env [0, 4, 5, 8, 9, 10, 15, 42, 43, 60]) (enc2 l W D at' v outs es cur a b).sto = (enc2 l W D at' v outs es cur a b).sto := by
    simp [enc2]
  rw [loopS_eq, if_pos rfl, hgc]
  simp only [c51L1, enc2, ev_seq, ev_ops, evOps_cons, evOper_none, evOp, restrict, List.map, look, if_true, if_false, OfNat.ofNat, Nat.reduceEqDiff]
  rw [nxt_pick (id := 4) (ks := kA es) (vs := kB es) (cur := cur) rfl rfl (by simp) (by simpa using hne)]
  simp only [bind_pick, All_pick]
  refine ⟨by simpa using hne, fun i hi => ?_⟩
  have hi' : i < es.length := by simpa using hi
  rw [nxtK_eq (kA_get es i hi') (kB_get es i hi'), kA_erase, kB_erase]
  obtain ⟨k0, k1⟩ := hks es[i].1 (List.mem_map.2 ⟨es[i], List.getElem_mem hi', rfl⟩)
  have hwb := asum_mem (List.getElem_mem hi')
  have hee := asum_erase es i hi'
  have hn0 := asum_nonneg (es.eraseIdx i)
  obtain ⟨hk, hg, b1, b2, b3⟩ := iv_get hl k0 k1
  obtain ⟨f1, f2⟩ := f_bound hl (v := es[i].2) k0 k1
  have he := ends117 (C := C) (G := G) (d := d) hC (w := es[i].2) b1 b2 b3 (by omega) (by omega)
  have hlo : fLo l es[i].1 es[i].2 = min (l[es[i].1.toNat].1 * es[i].2) (l[es[i].1.toNat].2 * es[i].2) := by simp only [fLo, hg]
  have hhi : fHi l es[i].1 es[i].2 = max (l[es[i].1.toNat].1 * es[i].2) (l[es[i].1.toNat].2 * es[i].2) := by simp only [fHi, hg]
  rw [← hlo, ← hhi] at he
  have w1 := wrap64 (n := a + fLo l es[i].1 es[i].2) (by omega) (by omega)
  have w2 := wrap64 (n := b + fHi l es[i].1 es[i].2) (by omega) (by omega)
  have hlt : es[i].1.toNat * 2 < l.length * 2 := by omega
  have hdr := cI_drop l es[i].1.toNat hk
  generalize hp : fLo l es[i].1 es[i].2 = p at *
  generalize hq : fHi l es[i].1 es[i].2 = q at *
  refine T.All_mono (Q := fun r => ∃ o, r = (.normal, ⟨[(0, .p (.sl (cI l) l.length)), (4, .p .nils), (5, .p (.int .i64 0)), (8, .p W), (9, .p (.int .i64 D)), (10, .sl 0 v 0 v), (15, .ptr 3 0 0), (42, .p (.int .i64 l.length)), (43, .p (.int .i64 at')), (60, .it 4)],
    (5, o) :: (enc2 l W D at' v outs (es.eraseIdx i) (some (.int .i64 es[i].1, .int .i64 es[i].2)) (a + p) (b + q)).sto⟩)) ?_ (fun r hr => ?_)
  · simp [k0, k1, hlt, hdr, he, w1, w2, enc2]
  · obtain ⟨o, rfl⟩ := hr
    refine ⟨i, hi', some (.int .i64 es[i].1, .int .i64 es[i].2), rfl, loopS_same rfl ?_⟩
    simp [enc2, hp, hq]

theorem enc2_end (l : List (Int × Int)) (W : PVal) (D : Int) (at' v : Nat) (outs : List PVal) (cur : Option (PVal × PVal)) (a b : Int) :
    loopS (evFn F C G (d + 2)) C G 0 true [0, 4, 5, 8, 9, 10, 15, 42, 43, 60] c51L1 (enc2 l W D at' v outs [] cur a b) = .ret (.exit 4, ⟨(enc2 l W D at' v outs [] cur a b).env ++ [(62, .p (.bool false))], (enc2 l W D at' v outs [] cur a b).sto⟩) := by
  have hgc : gc 0 (restrict (enc2 l W D at' v outs [] cur a b).env [0, 4, 5, 8, 9, 10, 15, 42, 43, 60]) (enc2 l W D at' v outs [] cur a b).sto = (enc2 l W D at' v outs [] cur a b).sto := by
    simp [enc2]
  rw [loopS_eq, if_pos rfl, hgc]
  simp only [c51L1, enc2, ev_seq, ev_ops, evOps_cons, evOper_none, evOp, restrict, List.map, look, if_true, if_false, OfNat.ofNat, Nat.reduceEqDiff]
  rw [nxt_none (id := 4) (cur := cur) rfl rfl]
  simp

theorem enc2_loop (hC : ∀ f ∈ [117, 173, 174], ∀ as, C f as = none) (l : List (Int × Int)) (hl : IvOk l) (W : PVal) (D : Int) (at' v : Nat) (outs : List PVal) : ∀ (n : Nat) (es : List (Int × Int)), es.length = n → (∀ k ∈ keysE es, 0 ≤ k ∧ k < l.length) → ∀ (cur : Option (PVal × PVal)) (a b : Int) (fuel : Nat) (st : St),
    a.natAbs + 200000 * asum es ≤ 200000000000000 → b.natAbs + 200000 * asum es ≤ 200000000000000 → n < fuel →
    loopS (evFn F C G (d + 2)) C G 0 true [0, 4, 5, 8, 9, 10, 15, 42, 43, 60] c51L1 st = loopS (evFn F C G (d + 2)) C G 0 true [0, 4, 5, 8, 9, 10, 15, 42, 43, 60] c51L1 (enc2 l W D at' v outs es cur a b) →
    (loopN (loopS (evFn F C G (d + 2)) C G 0 true [0, 4, 5, 8, 9, 10, 15, 42, 43, 60] c51L1) fuel st).All (fun r => ∃ cur', r = (.exit 4, ⟨(enc2 l W D at' v outs [] cur' (a + fsum (fLo l) es) (b + fsum (fHi l) es)).env ++ [(62, .p (.bool false))], (enc2 l W D at' v outs [] cur' (a + fsum (fLo l) es) (b + fsum (fHi l) es)).sto⟩)) := by
  intro n
  induction n with
  | zero =>
    intro es hn hks cur a b fuel st ha hb hf hst
    have : es = [] := List.eq_nil_of_length_eq_zero hn
    subst this
    obtain ⟨fuel, rfl⟩ : ∃ k, fuel = k + 1 := ⟨fuel - 1, by omega⟩
    rw [loopN_succ, hst, enc2_end, bind_ret, loopK_exit, All_ret]
    exact ⟨cur, by simp [fsum]⟩
  | succ n ih =>
    intro es hn hks cur a b fuel st ha hb hf hst
    obtain ⟨fuel, rfl⟩ : ∃ k, fuel = k + 1 := ⟨fuel - 1, by omega⟩
    rw [loopN_succ, hst, T.All_bind]
    refine T.All_mono (enc2_step hC l hl W D at' v outs es hks cur a b ha hb (by omega)) (fun r hr => ?_)
    obtain ⟨i, hi, cur', h1, h2⟩ := hr
    obtain ⟨ex, st2⟩ := r
    simp only at h1 h2
    subst h1
    rw [loopK_normal]
    have hee := asum_erase es i hi
    obtain ⟨k0, k1⟩ := hks es[i].1 (List.mem_map.2 ⟨es[i], List.getElem_mem hi, rfl⟩)
    obtain ⟨f1, f2⟩ := f_bound hl (v := es[i].2) k0 k1
    have hlen : (es.eraseIdx i).length = n := by rw [List.length_eraseIdx]; simp [hi]; omega
    have hks' : ∀ k ∈ keysE (es.eraseIdx i), 0 ≤ k ∧ k < l.length := fun k hk => by
      simp only [keysE, List.mem_map] at hk
      obtain ⟨e, he, rfl⟩ := hk
      exact hks _ (List.mem_map.2 ⟨e, List.mem_of_mem_eraseIdx he, rfl⟩)
    refine T.All_mono (ih (es.eraseIdx i) hlen hks' cur' _ _ fuel st2 ?_ ?_ (by omega) h2) (fun r hr => ?_)
    · omega
    · omega
    · obtain ⟨cur2, h⟩ := hr
      exact ⟨cur2, by rw [h, fsum_erase (fLo l) es i hi, fsum_erase (fHi l) es i hi, Int.add_assoc, Int.add_assoc]⟩

/-! one interval -/
def totW (es : List (Int × Int)) (at' n i : Nat) : Int := dot (fun k => ind i (clampI at' k n)) es
def loS (l es : List (Int × Int)) (at' : Nat) : Int := sumN (fun i => fLo l i (totW es at' l.length i)) l.length
def hiS (l es : List (Int × Int)) (at' : Nat) : Int := sumN (fun i => fHi l i (totW es at' l.length i)) l.length
def encO (l es : List (Int × Int)) (D : Int) (at' : Nat) : Int × Int := (loS l es at' / D, upQ (hiS l es at') D)
def encB (x : Int × Int) : Bool := decide (x.1 < -200000) || decide (200000 < x.2)

theorem fLo_zero (l : List (Int × Int)) (k : Int) : fLo l k 0 = 0 := by simp [fLo]
theorem fHi_zero (l : List (Int × Int)) (k : Int) : fHi l k 0 = 0 := by simp [fHi]

def encInv (l : List (Int × Int)) (W : PVal) (D : Int) (outs : List (Int × Int)) (i : Nat) : St :=
  ⟨[(0, .p (.sl (cI l) l.length)), (4, .p .nils), (5, .p (.int .i64 0)), (8, .p W), (9, .p (.int .i64 D)), (10, .sl 0 i 0 i), (42, .p (.int .i64 l.length)), (43, .p (.int .i64 i))], [(0, .arr (cI (outs.take i)) i 2)]⟩

theorem enc_round (hC : ∀ f ∈ [136, 181, 117, 173, 174, 268, 269], ∀ as, C f as = none) (hG2 : G 2 = some [.clo 268 [] []]) (hG3 : G 3 = some [.clo 269 [] []]) (l : List (Int × Int)) (hl : IvOk l) (hxl : l.length < 1000000) (es : List (Int × Int)) (hel : es.length < 1000000) (hes : ∀ e ∈ es, -1000000 ≤ e.1 ∧ e.1 ≤ 1000000) (hb : asum es ≤ 1000000000)
    (D : Int) (hD : 0 < D) (outs : List (Int × Int)) (hol : outs.length = l.length) (i : Nat) (hi : i < l.length) (ho : outs[i]? = some (encO l es D i)) :
    (loopS (evFn F C G (d + 2)) C G 0 true [0, 4, 5, 8, 9, 10, 42, 43] c51L2 (encInv l (.map (kA es) (kB es)) D outs i)).All (fun r =>
      (encB (encO l es D i) = false ∧ r.1 = .normal ∧ loopS (evFn F C G (d + 2)) C G 0 true [0, 4, 5, 8, 9, 10, 42, 43] c51L2 r.2 = loopS (evFn F C G (d + 2)) C G 0 true [0, 4, 5, 8, 9, 10, 42, 43] c51L2 (encInv l (.map (kA es) (kB es)) D outs (i + 1))) ∨
      (encB (encO l es D i) = true ∧ ∃ s, r = (.ret, ⟨[(4, .p .nils), (5, .p (.int .i64 4))], s⟩))) := by
  have hgc : gc 0 (restrict (encInv l (.map (kA es) (kB es)) D outs i).env [0, 4, 5, 8, 9, 10, 42, 43]) (encInv l (.map (kA es) (kB es)) D outs i).sto = (encInv l (.map (kA es) (kB es)) D outs i).sto := by
    simp [encInv]
  have h0 : loopS (evFn F C G (d + 2)) C G 0 true [0, 4, 5, 8, 9, 10, 42, 43] c51L2 (encInv l (.map (kA es) (kB es)) D outs i) = evCode (evFn F C G (d + 2)) C G 0 c51L2 ⟨restrict (encInv l (.map (kA es) (kB es)) D outs i).env [0, 4, 5, 8, 9, 10, 42, 43], (encInv l (.map (kA es) (kB es)) D outs i).sto⟩ := by rw [loopS_eq, if_pos rfl, hgc]
  rw [h0]
  have hp := fun (a n : Int) => padded_ok (C := C) (G := G) (d := d + 1) (hC 136 (by simp)) es a n
  have hlim : i + 1 ≤ lim := by simp only [lim]; omega
  have hmin : min i outs.length = i := by omega
  have htake : outs.take (i + 1) = outs.take i ++ [encO l es D i] := by
    rw [List.take_add_one, ho]; rfl
  have wi := wrap_succ (i := i) (by omega)
  simp [c51L2, encInv, hi, hp, -ev_rfun]
  simp only [T.All_bind]
  refine T.All_mono (enc_tot l D i i (cI (outs.take i)) hi hxl es hel hes hb) (fun r hr => ?_)
  obtain ⟨M, ⟨m1, m2, m3, m4, m5⟩, rfl⟩ := hr
  simp only [asum] at m1
  have hlo : fsum (fLo l) M = loS l es i := by
    rw [fsum_all (fLo l) (fLo_zero l) l.length M m3 m4]
    exact sumN_congr _ fun j _ => by simp only [m5, dot, totW, Int.zero_add]
  have hhi : fsum (fHi l) M = hiS l es i := by
    rw [fsum_all (fHi l) (fHi_zero l) l.length M m3 m4]
    exact sumN_congr _ fun j _ => by simp only [m5, dot, totW, Int.zero_add]
  have hblo : ((fsum (fLo l) M).natAbs : Int) ≤ 200000 * asum M := fsum_bound fun e he => (f_bound hl (m4 _ (List.mem_map.2 ⟨e, he, rfl⟩)).1 (m4 _ (List.mem_map.2 ⟨e, he, rfl⟩)).2).1
  have hbhi : ((fsum (fHi l) M).natAbs : Int) ≤ 200000 * asum M := fsum_bound fun e he => (f_bound hl (m4 _ (List.mem_map.2 ⟨e, he, rfl⟩)).1 (m4 _ (List.mem_map.2 ⟨e, he, rfl⟩)).2).2
  rw [hlo] at hblo
  rw [hhi] at hbhi
  simp [encE]
  simp only [T.All_bind]
  refine T.All_mono (enc2_loop (C := C) (G := G) (d := d) (fun f hf => hC f (by simp at hf ⊢; omega)) l hl (.map (kA es) (kB es)) D i i (cI (outs.take i)) M.length M rfl m4 none 0 0 loopFuel _ (by simp; omega) (by simp; omega) (by simp only [loopFuel]; simp at m2; omega) ?h0) (fun r hr => ?_)
  case h0 =>
    refine loopS_same rfl ?_
    simp [enc2]
  obtain ⟨cur', rfl⟩ := hr
  rw [hlo, hhi, Int.zero_add, Int.zero_add]
  have hf := floor_ok (C := C) (G := G) (d := d + 1) (hC 268 (by simp)) (loS l es i) D hD (by omega) (by omega)
  have hu := up269 (C := C) (G := G) (d := d) (fun f hf => hC f (by simp at hf ⊢; omega)) (hiS l es i) D hD (by omega) (by omega)
  have hE : encO l es D i = (loS l es i / D, upQ (hiS l es i) D) := rfl
  generalize loS l es i / D = p at *
  generalize upQ (hiS l es i) D = q at *
  have hcI : cI (outs.take (i + 1)) = cI (outs.take i) ++ [.int .i64 p, .int .i64 q] := by rw [htake, cI_append, hE]; rfl
  by_cases c1 : p < -200000
  · simp [enc2, hG2, hG3, hf, hu, c1, hE, encB]
  · by_cases c2 : 200000 < q
    · simp [enc2, hG2, hG3, hf, hu, c1, c2, hE, encB]
    · simp [enc2, hG2, hG3, hf, hu, c1, c2, hE, encB, hlim, hmin, wi]
      refine loopS_same rfl ?_
      simp [hcI]
end
end Fw
