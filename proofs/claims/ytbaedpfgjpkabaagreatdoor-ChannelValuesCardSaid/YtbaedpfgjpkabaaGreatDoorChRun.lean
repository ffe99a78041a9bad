import Derived.Test.YtbaedpfgjpkabaaGreatDoorChFe
import Derived.Test.YtbaedpfgjpkabaaGreatDoorFwC
set_option maxHeartbeats 8000000
namespace Fw
open Go
attribute [local irreducible] evCode evOps evOpsD evOper evOperD evOp evFn loopN T.All T.bind callPure callOp opsK opsDK restK seqK blockK loopS setK setQ giveK scalK gcK finish finS rfunK yldK yldB
section
variable {C : Nat → List AVal → Option (T AVal)} {G : Nat → Option (List PVal)} {d : Nat}

def clampI (at' k n : Int) : Int := let c := if at' + k < n - 1 then at' + k else n - 1; if c > 0 then c else 0


/-- one round of the loop over the weights -/
theorem run_yld (E : Env) (h8 : look E 8 = .ptr 0 0 0) (h11 : look E 11 = .ptr 2 0 0) (iter : Obj) (r1 : Obj) (acc x w : Int) (xs : List Int) (hx0 : 0 ≤ x) (hx1 : x < xs.length) :
    evFn F C G (d + 1) (.yld 3) [.p (.int .i64 x), .p (.int .i64 w)] [(4, iter), (3, .loop E [27, 28] c123A0 c123B0 none 0), (2, .arr [.int .i64 acc] 0 1), (1, r1), (0, .box [.p (.sl (pI xs) xs.length)])] =
    .ret (.p (.bool true), [(4, iter), (3, .loop E [27, 28] c123A0 c123B0 none 0), (2, .arr [.int .i64 (IntKind.i64.wrap (acc + IntKind.i64.wrap (w * (xs.getD x.toNat 0))))] 0 1), (1, r1), (0, .box [.p (.sl (pI xs) xs.length)])]) := by
  rw [evFn_yld (env := E) (ps := [27, 28]) (a := c123A0) (b := c123B0) rfl rfl]
  have hi : x.toNat < xs.length := by omega
  have hx : xs[x.toNat]? = some xs[x.toNat] := List.getElem?_eq_getElem hi
  simp [c123A0, h8, h11]
  rw [yldK_eq (e2 := E) (p2 := [27, 28]) (a2 := c123A0) (b2 := c123B0) rfl]
  simp [c123B0, hx0, hx1, hi]
  rw [yldB_normal rfl]
  simp [c123A0]
end
end Fw
namespace Fw
open Go
attribute [local irreducible] evCode evOps evOpsD evOper evOperD evOp evFn loopN T.All T.bind callPure callOp opsK opsDK restK seqK blockK loopS setK setQ giveK scalK gcK finish finS rfunK yldK yldB
section
variable {C : Nat → List AVal → Option (T AVal)} {G : Nat → Option (List PVal)} {d : Nat}

/-- the weighted sum, as the program adds it up -/
def wsum (xs : List Int) (at' : Int) : List (Int × Int) → Int
  | [] => 0
  | e :: r => e.2 * (xs.getD (clampI at' e.1 xs.length).toNat 0) + wsum xs at' r

theorem wsum_erase (xs : List Int) (at' : Int) : ∀ (es : List (Int × Int)) (i : Nat) (h : i < es.length), wsum xs at' es = es[i].2 * (xs.getD (clampI at' es[i].1 xs.length).toNat 0) + wsum xs at' (es.eraseIdx i) := by
  intro es
  induction es with
  | nil => intro i h; cases h
  | cons e r ih =>
    intro i h
    cases i with
    | zero => simp [wsum]
    | succ i =>
      have := ih i (by simpa using h)
      simp only [wsum, List.getElem_cons_succ, List.eraseIdx_cons_succ]
      omega

theorem eraseIdx_map' {α β : Type} (f : α → β) : ∀ (l : List α) (i : Nat), (l.map f).eraseIdx i = (l.eraseIdx i).map f := by
  intro l
  induction l with
  | nil => intro i; rfl
  | cons a r ih => intro i; cases i <;> simp [ih]

def kA (es : List (Int × Int)) : List PVal := pI (es.map (·.1))
def kB (es : List (Int × Int)) : List PVal := pI (es.map (·.2))
@[simp] theorem kA_length (es : List (Int × Int)) : (kA es).length = es.length := by simp [kA]
@[simp] theorem kB_length (es : List (Int × Int)) : (kB es).length = es.length := by simp [kB]
theorem kA_get (es : List (Int × Int)) (i : Nat) (h : i < es.length) : (kA es)[i]? = some (.int .i64 es[i].1) := by simp [kA, h]
theorem kB_get (es : List (Int × Int)) (i : Nat) (h : i < es.length) : (kB es)[i]? = some (.int .i64 es[i].2) := by simp [kB, h]
theorem kA_erase (es : List (Int × Int)) (i : Nat) : (kA es).eraseIdx i = kA (es.eraseIdx i) := by simp [kA, pI, eraseIdx_map']
theorem kB_erase (es : List (Int × Int)) (i : Nat) : (kB es).eraseIdx i = kB (es.eraseIdx i) := by simp [kB, pI, eraseIdx_map']


def runE (W : PVal) (D : Int) (xs : List Int) (at' v : Nat) : Env :=
  [(1, .p W), (2, .p (.int .i64 D)), (6, .p .nils), (7, .p (.int .i64 0)), (8, .ptr 0 0 0), (9, .sl 1 v 0 v), (11, .ptr 2 0 0), (18, .p (.int .i64 xs.length)), (19, .p (.int .i64 at')), (26, .p (.clo 181 [] [.pp [W], .pp [.int .i64 xs.length], .pp [.int .i64 at']]))]

def runR (W : PVal) (D : Int) (xs : List Int) (at' v : Nat) (outs : List PVal) (acc : Int) : Sto :=
  [(3, .loop (runE W D xs at' v) [27, 28] c123A0 c123B0 none 0), (2, .arr [.int .i64 acc] 0 1), (1, .arr outs v 1), (0, .box [.p (.sl (pI xs) xs.length)])]

def runSt (W : PVal) (D : Int) (xs : List Int) (at' v : Nat) (outs : List PVal) (es : List (Int × Int)) (cur : Option (PVal × PVal)) (acc : Int) : St :=
  ⟨[(0, .yld 3), (2, .p (.pp [.int .i64 xs.length])), (3, .p (.pp [.int .i64 at'])), (8, .it 4)], (4, .miter (kA es) (kB es) cur) :: runR W D xs at' v outs acc⟩

@[simp] theorem runE_refs (W : PVal) (D : Int) (xs : List Int) (at' v : Nat) : refsE (runE W D xs at' v) = [0, 1, 2] := rfl

theorem runSt_gc (W : PVal) (D : Int) (xs : List Int) (at' v : Nat) (outs : List PVal) (es : List (Int × Int)) (cur : Option (PVal × PVal)) (acc : Int) :
    gc 4 (restrict (runSt W D xs at' v outs es cur acc).env [0, 2, 3, 8]) (runSt W D xs at' v outs es cur acc).sto = (runSt W D xs at' v outs es cur acc).sto := by
  simp [runSt, runR]

theorem run_step (W : PVal) (D : Int) (xs : List Int) (at' v : Nat) (outs : List PVal) (ha1 : at' < xs.length) (hxl : xs.length < 1000000) (es : List (Int × Int)) (hes : ∀ e ∈ es, -1000000 ≤ e.1 ∧ e.1 ≤ 1000000) (cur : Option (PVal × PVal)) (acc : Int) (hne : 0 < es.length) :
    (loopS (evFn F C G (d + 1)) C G 4 true [0, 2, 3, 8] c181L0 (runSt W D xs at' v outs es cur acc)).All (fun r => ∃ i, ∃ h : i < es.length, ∃ cur' acc', acc' = IntKind.i64.wrap (acc + IntKind.i64.wrap (es[i].2 * (xs.getD (clampI at' es[i].1 xs.length).toNat 0))) ∧
      r = (.normal, ⟨(runSt W D xs at' v outs (es.eraseIdx i) cur' acc').env ++ [(24, .p (.bool false))], (runSt W D xs at' v outs (es.eraseIdx i) cur' acc').sto⟩)) := by
  rw [loopS_eq, if_pos rfl, runSt_gc]
  simp only [c181L0, runSt, ev_seq, ev_ops, evOps_cons, evOper_none, evOp, restrict, List.map, look, if_true, if_false, OfNat.ofNat, Nat.reduceEqDiff]
  rw [nxt_pick (id := 4) (ks := kA es) (vs := kB es) (cur := cur) rfl rfl (by simp) (by simpa using hne)]
  simp only [bind_pick, All_pick]
  refine ⟨by simpa using hne, fun i hi => ?_⟩
  have hi' : i < es.length := by simpa using hi
  rw [nxtK_eq (kA_get es i hi') (kB_get es i hi'), kA_erase, kB_erase]
  have hk1 := (hes es[i] (List.getElem_mem hi')).1
  have hk2 := (hes es[i] (List.getElem_mem hi')).2
  generalize hm : (if (at' : Int) + es[i].1 < (xs.length : Int) - 1 then (at' : Int) + es[i].1 else (xs.length : Int) - 1) = m
  have hmin : minInt (IntKind.i64.wrap (↑xs.length - 1)) [AVal.p (PVal.int IntKind.i64 (IntKind.i64.wrap (↑at' + es[i].fst)))] = some m := by
    rw [wrap64 (n := (xs.length : Int) - 1) (by omega) (by omega), wrap64 (n := (at' : Int) + es[i].1) (by omega) (by omega)]
    simp only [minInt, hm]
  have hmax : maxInt 0 [AVal.p (PVal.int IntKind.i64 m)] = some (clampI at' es[i].1 xs.length) := by
    simp only [maxInt, clampI, hm]
  have hc0 : 0 ≤ clampI at' es[i].1 xs.length := by simp only [clampI, hm]; split <;> omega
  have hc1 : clampI at' es[i].1 xs.length < xs.length := by simp only [clampI, hm]; split <;> first | (rw [← hm]; split <;> omega) | omega
  have hy := run_yld (C := C) (G := G) (d := d) (runE W D xs at' v) rfl rfl (.miter (kA (es.eraseIdx i)) (kB (es.eraseIdx i)) (some (.int .i64 es[i].1, .int .i64 es[i].2))) (.arr outs v 1) acc (clampI at' es[i].1 xs.length) es[i].2 xs hc0 hc1
  refine T.All_mono (Q := fun r => r = (.normal, ⟨(runSt W D xs at' v outs (es.eraseIdx i) (some (.int .i64 es[i].1, .int .i64 es[i].2)) (IntKind.i64.wrap (acc + IntKind.i64.wrap (es[i].2 * (xs.getD (clampI at' es[i].1 xs.length).toNat 0))))).env ++ [(24, .p (.bool false))], (runSt W D xs at' v outs (es.eraseIdx i) (some (.int .i64 es[i].1, .int .i64 es[i].2)) (IntKind.i64.wrap (acc + IntKind.i64.wrap (es[i].2 * (xs.getD (clampI at' es[i].1 xs.length).toNat 0))))).sto⟩)) ?_ (fun r hr => ⟨i, hi', _, _, rfl, hr⟩)
  simp [runR, runSt, hmin, hmax, hy]

theorem run_end (W : PVal) (D : Int) (xs : List Int) (at' v : Nat) (outs : List PVal) (cur : Option (PVal × PVal)) (acc : Int) :
    loopS (evFn F C G (d + 1)) C G 4 true [0, 2, 3, 8] c181L0 (runSt W D xs at' v outs [] cur acc) = .ret (.exit 0, ⟨(runSt W D xs at' v outs [] cur acc).env ++ [(10, .p (.bool false))], (runSt W D xs at' v outs [] cur acc).sto⟩) := by
  rw [loopS_eq, if_pos rfl, runSt_gc]
  simp only [c181L0, runSt, ev_seq, ev_ops, evOps_cons, evOper_none, evOp, restrict, List.map, look, if_true, if_false, OfNat.ofNat, Nat.reduceEqDiff]
  rw [nxt_none (id := 4) (cur := cur) rfl rfl]
  simp [runR]

theorem run_more (W : PVal) (D : Int) (xs : List Int) (at' v : Nat) (outs : List PVal) (es : List (Int × Int)) (cur : Option (PVal × PVal)) (acc : Int) :
    loopS (evFn F C G (d + 1)) C G 4 true [0, 2, 3, 8] c181L0 ⟨(runSt W D xs at' v outs es cur acc).env ++ [(24, .p (.bool false))], (runSt W D xs at' v outs es cur acc).sto⟩ = loopS (evFn F C G (d + 1)) C G 4 true [0, 2, 3, 8] c181L0 (runSt W D xs at' v outs es cur acc) := by
  rw [loopS_eq, loopS_eq]
  rfl

theorem run_loop (W : PVal) (D : Int) (xs : List Int) (at' v : Nat) (outs : List PVal) (ha1 : at' < xs.length) (hxl : xs.length < 1000000) : ∀ (n : Nat) (es : List (Int × Int)), es.length = n → (∀ e ∈ es, -1000000 ≤ e.1 ∧ e.1 ≤ 1000000) → ∀ (cur : Option (PVal × PVal)) (acc : Int) (fuel : Nat) (st : St), acc = IntKind.i64.wrap acc → n < fuel →
    loopS (evFn F C G (d + 1)) C G 4 true [0, 2, 3, 8] c181L0 st = loopS (evFn F C G (d + 1)) C G 4 true [0, 2, 3, 8] c181L0 (runSt W D xs at' v outs es cur acc) →
    (loopN (loopS (evFn F C G (d + 1)) C G 4 true [0, 2, 3, 8] c181L0) fuel st).All (fun r => ∃ cur' acc', acc' = IntKind.i64.wrap (acc + wsum xs at' es) ∧
      r = (.exit 0, ⟨(runSt W D xs at' v outs [] cur' acc').env ++ [(10, .p (.bool false))], (runSt W D xs at' v outs [] cur' acc').sto⟩)) := by
  intro n
  induction n with
  | zero =>
    intro es hn hes cur acc fuel st hacc hf hst
    have : es = [] := List.eq_nil_of_length_eq_zero hn
    subst this
    obtain ⟨fuel, rfl⟩ : ∃ k, fuel = k + 1 := ⟨fuel - 1, by omega⟩
    rw [loopN_succ, hst, run_end, bind_ret, loopK_exit, All_ret]
    exact ⟨cur, acc, by simp [wsum, ← hacc], rfl⟩
  | succ n ih =>
    intro es hn hes cur acc fuel st hacc hf hst
    obtain ⟨fuel, rfl⟩ : ∃ k, fuel = k + 1 := ⟨fuel - 1, by omega⟩
    rw [loopN_succ, hst, T.All_bind]
    refine T.All_mono (run_step W D xs at' v outs ha1 hxl es hes cur acc (by omega)) (fun r hr => ?_)
    obtain ⟨i, hi, cur', acc', he, rfl⟩ := hr
    rw [loopK_normal]
    refine T.All_mono (ih (es.eraseIdx i) (by rw [List.length_eraseIdx]; simp [hi]; omega) (fun e he => hes e (List.mem_of_mem_eraseIdx he)) cur' acc' fuel _ (by rw [he]; simp only [IntKind.wrap_i64]; omega) (by omega) (run_more ..)) (fun r hr => ?_)
    obtain ⟨cur2, acc2, h1, h2⟩ := hr
    refine ⟨cur2, acc2, ?_, h2⟩
    rw [h1, he, wsum_erase xs at' es i hi]
    simp only [IntKind.wrap_i64]
    omega
end
end Fw
