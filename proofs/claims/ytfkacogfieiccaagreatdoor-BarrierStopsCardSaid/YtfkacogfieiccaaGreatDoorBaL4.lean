/- The last stopping point: the chapter's and the reference's. -/
import Derived.Test.YtfkacogfieiccaaGreatDoorBaL3
set_option maxHeartbeats 8000000
namespace Fw
open Go
attribute [local irreducible] evCode evOps evOpsD evOper evOperD evOp evFn loopN T.All T.bind callPure callOp opsK opsDK restK seqK blockK loopS setK setQ giveK scalK gcK finish finS rfunK yldK yldB loopK

/-- how many zeros there are at first -/
def lead (e : Nat → Int) : Nat → Nat
  | 0 => 0
  | n + 1 => if lead e n = n ∧ e n = 0 then n + 1 else lead e n
theorem lead_le (e : Nat → Int) : ∀ n, lead e n ≤ n := by
  intro n
  induction n with
  | zero => exact Nat.le_refl _
  | succ n ih => simp only [lead]; split <;> omega
theorem lead_all {e : Nat → Int} : ∀ n, (∀ q, q < n → e q = 0) → lead e n = n := by
  intro n
  induction n with
  | zero => intro _; rfl
  | succ n ih =>
    intro h
    simp only [lead]
    rw [if_pos ⟨ih (fun q hq => h q (by omega)), h n (by omega)⟩]
theorem lead_at {e : Nat → Int} {j : Nat} (hj : e j ≠ 0) (hq : ∀ q, q < j → e q = 0) : ∀ n, j < n → lead e n = j := by
  intro n
  induction n with
  | zero => intro h; omega
  | succ n ih =>
    intro h
    simp only [lead]
    by_cases hn : j = n
    · subst hn
      rw [if_neg (fun h => hj h.2)]
      exact lead_all _ hq
    · have := ih (by omega)
      rw [this, if_neg (by omega)]

def unE (t : TowI) (i : Nat) : Int := if safeB t i = true then 0 else 1
def lastI (t : TowI) : Int := (lead (unE t) (t.wall.toNat + 1) : Int) - 1

theorem all_zero {e : Nat → Int} {n : Nat} (h : firstE ((List.range n).map e) = 0) : ∀ q, q < n → e q = 0 := fun q hq =>
  firstE_zero.1 h (e q) (List.mem_map.2 ⟨q, by simpa using hq, rfl⟩)

theorem safe_zero {t : TowI} (h : TowOk t) : unE t 0 = 0 := by
  have hw := h.wl
  have : brA t 0 t.fl t.bl = (0, 0) := by simp [brA, runF]
  simp [unE, safeB, this]
  omega

theorem last47 {n : Nat} (hn : 5 ≤ n) {t : TowI} (h : TowOk t) : RUN n 47 [twa t] = .ret (iv (lastI t)) := by
  obtain ⟨d, rfl⟩ : ∃ d, n = d + 5 := ⟨n - 5, by omega⟩
  rw [RUN, call_eq fe47 _ rfl]
  have hw := h.wl
  have hfew := h.few
  obtain ⟨k, hk⟩ : ∃ k : Nat, t.wall = k := ⟨t.wall.toNat, by omega⟩
  have hlast : lastI t = (lead (unE t) (k + 1) : Int) - 1 := by simp [lastI, hk]
  let inv : Nat → St := fun i => ⟨[(1, .ptr 0 0 0), (3, iv ((i - 1 : Nat) : Int)), (4, iv i)], [(0, .box (twl t))]⟩
  have key := loop_first (step := loopS (evFn F C0 G0 (d + 4)) C0 G0 0 false [1, 3, 4] c47L0) inv (unE t) (k + 1) (.exit 0, ⟨[(1, .ptr 0 0 0), (3, iv k), (4, iv ((k : Int) + 1)), (8, .p (.bool false))], [(0, .box (twl t))]⟩) (fun i => (.ret, ⟨[(2, iv ((i - 1 : Nat) : Int))], [(0, .box (twl t))]⟩))
    (st0 := ⟨[(1, .ptr 0 0 0), (3, iv 0), (4, iv 0)], [(0, .box (twl t))]⟩) rfl (fun i hi => by
      have hle : (i : Int) ≤ t.wall := by omega
      have h1 := safe45 (n := d + 4) (by omega) h (c := i) (by omega)
      have hu : unE t i = if safeB t i = true then 0 else 1 := rfl
      rw [hu]
      cases hs : safeB t i with
      | true =>
        rw [hs] at h1
        refine ⟨fun _ => ⟨inv (i + 1), ?_, rfl⟩, fun hz => by simp at hz⟩
        simp -implicitDefEqProofs [inv, loopS_eq, c47L0, hle, h1, wrap_succ (i := i) (by omega)]
      | false =>
        rw [hs] at h1
        refine ⟨fun hz => by simp at hz, fun _ => ?_⟩
        simp -implicitDefEqProofs [inv, loopS_eq, c47L0, hle, h1]) (fun i => by simp) (by
      have : ¬ (k : Int) + 1 ≤ t.wall := by omega
      simp -implicitDefEqProofs [inv, loopS_eq, c47L0, this]) (by simp) (fuel := loopFuel) (by simp [loopFuel]; omega)
  simp -implicitDefEqProofs [c47]
  rcases key with ⟨k1, k2⟩ | ⟨j, hj, k1, k2, k3, k4⟩
  · rw [k1]
    have := lead_all (k + 1) (all_zero k2)
    rw [hlast, this]
    simp -implicitDefEqProofs
  · rw [k1]
    have := lead_at k3 k4 (k + 1) hj
    have hj0 : j ≠ 0 := fun e => k3 (by subst e; exact safe_zero h)
    rw [hlast, this]
    have e : ((j - 1 : Nat) : Int) = (j : Int) - 1 := by omega
    simp -implicitDefEqProofs [e]

theorem yldB_exit {call : CallF} {C : Nat → List AVal → Option (T AVal)} {G : Nat → Option (List PVal)} {id i : Nat} {st : St} {e3 : Env} {p3 : List Nat} {a3 b3 : ACode} {j : Option ACode} {n : Nat} (h : get st.sto id = some (.loop e3 p3 a3 b3 j n)) : yldB call C G id (.exit i, st) = .ret (.p (.bool false), put st.sto id (.loop e3 p3 a3 b3 (some (.exit i)) 2)) := by
  unfold yldB
  simp [jumpOf, h]
theorem rfunK_exit {lo : Nat} {env : Env} {id i : Nat} {a : AVal} {s : Sto} {e1 : Env} {p1 : List Nat} {a1 b1 : ACode} {n : Nat} (h : get s id = some (.loop e1 p1 a1 b1 (some (.exit i)) n)) (hn : n ≠ 1) : rfunK lo env id (a, s) = .ret (.exit i, ⟨env, gc lo env (put s id (.loop e1 p1 a1 b1 (some (.exit i)) 3))⟩) := by
  unfold rfunK
  simp [h, hn]

def lEnv (t : TowI) : Env := [(2, iv 0), (3, iv 0), (5, .ptr 1 0 0), (15, .p (.clo 160 [] [.pp (twc t)]))]
def lLoop (t : TowI) (j : Option ACode) (e : Nat) : Obj := .loop (lEnv t) [16] c39A0 c39B0 j e
def lS (t : TowI) (x : Int) (j : Option ACode) (e : Nat) : Sto := [(2, lLoop t j e), (1, .arr [.int .i64 x] 0 1), (0, .box (twl t))]

theorem yld39 {d : Nat} (t : TowI) (i : Nat) (hi : i < 1000) : evFn F C0 G0 (d + 1) (.yld 2) [iv i] (lS t t.wall none 0) = .ret (.p (.bool false), lS t ((i : Int) - 1) (some (.exit 0)) 2) := by
  rw [evFn_yld (by rfl) (by rfl)]
  have w := wrap64 (n := (i : Int) - 1) (by omega) (by omega)
  simp -implicitDefEqProofs [c39A0, lEnv]
  rw [yldK_eq (by rfl)]
  simp -implicitDefEqProofs [c39B0, lS, lLoop, w, -gc]
  rw [yldB_exit (by rfl)]
  simp -implicitDefEqProofs

theorem unsafe160 {d : Nat} {t : TowI} (h : TowOk t) : evFn F C0 G0 (d + 5) (.fn 160) [.yld 2, .p (.pp (twc t))] (lS t t.wall none 0) = .ret (.tup [], if lead (unE t) (t.wall.toNat + 1) = t.wall.toNat + 1 then lS t t.wall none 0 else lS t (lastI t) (some (.exit 0)) 2) := by
  rw [evFn_fn fe160]
  have hw := h.wl
  have hfew := h.few
  obtain ⟨k, hk⟩ : ∃ k : Nat, t.wall = k := ⟨t.wall.toNat, by omega⟩
  have hlast : lastI t = (lead (unE t) (k + 1) : Int) - 1 := by simp [lastI, hk]
  have hn3 : ∀ x j e, nextId (lS t x j e) = 3 := fun _ _ _ => rfl
  have hgc : ∀ env x j e, gc 3 env (lS t x j e) = lS t x j e := fun env x j e => gc_all (by simp [lS])
  let inv : Nat → St := fun i => ⟨[(0, .yld 2), (1, .p (.pp (twc t))), (6, iv ((k : Int) + 1)), (7, iv i)], lS t t.wall none 0⟩
  have key := loop_first (step := loopS (evFn F C0 G0 (d + 4)) C0 G0 3 true [0, 1, 6, 7] c160L0) inv (unE t) (k + 1) (.exit 0, ⟨[(0, .yld 2), (1, .p (.pp (twc t))), (6, iv ((k : Int) + 1)), (7, iv ((k : Int) + 1)), (8, .p (.bool false))], lS t t.wall none 0⟩) (fun i => (.ret, ⟨[(0, .yld 2), (1, .p (.pp (twc t))), (6, iv ((k : Int) + 1)), (7, iv i), (19, .p (.bool true))], lS t ((i : Int) - 1) (some (.exit 0)) 2⟩))
    (st0 := ⟨[(0, .yld 2), (1, .p (.pp (twc t))), (6, iv ((k : Int) + 1)), (7, iv 0)], lS t t.wall none 0⟩) rfl (fun i hi => by
      have hlt : (i : Int) < (k : Int) + 1 := by omega
      have h1 := safe119 (n := d + 4) (by omega) h (c := i) (by omega)
      have hy := yld39 (d := d + 3) t i (by omega)
      have hu : unE t i = if safeB t i = true then 0 else 1 := rfl
      rw [hu]
      cases hs : safeB t i with
      | true =>
        rw [hs] at h1
        refine ⟨fun _ => ⟨inv (i + 1), ?_, rfl⟩, fun hz => by simp at hz⟩
        simp -implicitDefEqProofs [inv, loopS_eq, c160L0, hlt, h1, hgc, -gc, -nextId, wrap_succ (i := i) (by omega)]
      | false =>
        rw [hs] at h1
        refine ⟨fun hz => by simp at hz, fun _ => ?_⟩
        simp -implicitDefEqProofs [inv, loopS_eq, c160L0, hlt, h1, hy, hgc, hn3, -gc, -nextId]) (fun i => by simp) (by
      simp -implicitDefEqProofs [inv, loopS_eq, c160L0, hgc, -gc, -nextId]) (by simp) (fuel := loopFuel) (by simp [loopFuel]; omega)
  have w := wrap64 (n := (k : Int) + 1) (by omega) (by omega)
  have hkt : t.wall.toNat = k := by omega
  rw [hkt]
  simp only [twc, hk] at key ⊢
  simp -implicitDefEqProofs [c160, w, hn3, -nextId]
  rcases key with ⟨k1, k2⟩ | ⟨j, hj, k1, k2, k3, k4⟩
  · rw [k1]
    have := lead_all (k + 1) (all_zero k2)
    rw [this, if_pos rfl]
    simp -implicitDefEqProofs
  · rw [k1]
    have := lead_at k3 k4 (k + 1) hj
    rw [hlast, this, if_neg (by omega)]
    simp -implicitDefEqProofs

theorem last39 {n : Nat} (hn : 7 ≤ n) (t : TowI) (hl : t.pull.length < 1000000) : RUN n 39 [twa t] = .ret (if towE t = 0 then .tup [iv (lastI t), iv 0] else .tup [iv 0, iv (towE t)]) := by
  obtain ⟨d, rfl⟩ : ∃ d, n = d + 7 := ⟨n - 7, by omega⟩
  rw [RUN, call_eq fe39 _ rfl]
  have h0 := tow48 (n := d + 6) (by omega) t hl
  by_cases z0 : towE t = 0
  · rw [if_pos z0]
    have h := tow_of z0
    have hw := h.wl
    have h120 : RUN (d + 6) 120 [twa t] = .ret (.p (.clo 160 [] [.pp (twc t)])) := by
      rw [RUN, call_eq fe120 _ rfl]
      simp -implicitDefEqProofs [c120]
    have key := unsafe160 (d := d + 1) h
    have hlastw : lead (unE t) (t.wall.toNat + 1) = t.wall.toNat + 1 → lastI t = t.wall := fun e => by
      rw [lastI, e]; omega
    have hf : Obj.loop (lEnv t) [16] c39A0 c39B0 none 0 = lLoop t none 0 := rfl
    simp -implicitDefEqProofs [c39, h0, z0, h120, callee]
    simp only [lS, lLoop, lEnv, twc] at key
    rw [key]
    split
    · rename_i e
      rw [hlastw e]
      rw [bind_ret, rfunK_none (by rfl) (by simp)]
      simp -implicitDefEqProofs
    · rw [bind_ret, rfunK_exit (by rfl) (by simp)]
      simp -implicitDefEqProofs
  · rw [if_neg z0]
    have hb : (towE t != 0) = true := by simpa using z0
    simp -implicitDefEqProofs [c39, h0, hb]
end Fw
