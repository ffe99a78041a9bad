/- Tables: the chapter's and the reference's. -/
import Derived.Test.YtfkacogfieiccaaGreatDoorBaL1
set_option maxHeartbeats 8000000
namespace Fw
open Go
attribute [local irreducible] evCode evOps evOpsD evOper evOperD evOp evFn loopN T.All T.bind callPure callOp opsK opsDK restK seqK blockK loopS setK setQ giveK scalK gcK finish finS rfunK yldK yldB loopK

theorem prod_in {a b A B : Int} (ha : 0 ≤ a ∧ a ≤ A) (hb : 0 ≤ b ∧ b ≤ B) : 0 ≤ a * b ∧ a * b ≤ A * B := by
  have h1 : 0 ≤ a * b := Int.mul_nonneg ha.1 hb.1
  have h2 : a * b ≤ A * B := Int.mul_le_mul ha.2 hb.2 hb.1 (by omega)
  exact ⟨h1, h2⟩

theorem ints52 {n : Nat} (hn : 1 ≤ n) (l : List Int) (hl : l.length < 1000000) : RUN n 52 [isl l] = .ret (.own (pI l) l.length 1) := by
  obtain ⟨d, rfl⟩ : ∃ d, n = d + 1 := ⟨n - 1, by omega⟩
  rw [RUN, call_eq fe52 _ rfl]
  have hlim : l.length ≤ lim := by simp only [lim]; omega
  by_cases h : l.length = 0
  · have : l = [] := List.eq_nil_of_length_eq_zero h
    subst this
    simp -implicitDefEqProofs [c52, lim]
  · simp -implicitDefEqProofs [c52, hlim, h]

theorem given35 {n : Nat} (hn : 2 ≤ n) (t : TowI) (hl : t.pull.length < 1000000) : RUN n 35 [twa t] = .ret (twa t) := by
  obtain ⟨d, rfl⟩ : ∃ d, n = d + 2 := ⟨n - 2, by omega⟩
  rw [RUN, call_eq fe35 _ rfl]
  have h1 := ints52 (n := d + 1) (by omega) t.pull hl
  simp -implicitDefEqProofs [c35, h1]

def tabL (t : TowI) : List Int := (runL t t.fl).take (t.wall.toNat + 1)
theorem tabL_length {t : TowI} (h : TowOk t) : (tabL t).length = t.wall.toNat + 1 := by
  have := h.wl
  simp [tabL]; omega
theorem pI_take (l : List Int) (k : Nat) : (pI l).take k = pI (l.take k) := by simp [pI, List.map_take]

theorem table53 {n : Nat} (hn : 2 ≤ n) {t : TowI} (h : TowOk t) : RUN n 53 [twa t] = .ret (isl (tabL t)) := by
  obtain ⟨d, rfl⟩ : ∃ d, n = d + 2 := ⟨n - 2, by omega⟩
  rw [RUN, call_eq fe53 _ rfl]
  have hw := h.wl
  have hfew := h.few
  have hfr := h.fr
  have h1 := run43 (n := d + 1) (by omega) h (f := t.fl) (by omega)
  have hlen := tabL_length h
  have w := wrap64 (n := t.wall + 1) (by omega) (by omega)
  have htab : tabL t = (runL t t.fl).take (t.wall.toNat + 1) := rfl
  have b1 : t.wall + 1 ≤ (t.pull.length : Int) + 1 := by omega
  have b2 : (0 : Int) ≤ t.wall + 1 := by omega
  have hto : (t.wall + 1).toNat = t.wall.toNat + 1 := by omega
  have b3 : t.wall.toNat + 1 ≤ t.pull.length + 1 := by omega
  simp -implicitDefEqProofs [c53, h1, w, b1, b2, hto, hlen, pI_take, ← htab]

theorem table50 {n : Nat} (hn : 7 ≤ n) (t : TowI) (hl : t.pull.length < 1000000) : RUN n 50 [twa t] = .ret (if towE t = 0 then .tup [isl (tabL t), iv 0] else .tup [.p (.sl [] 0), iv (towE t)]) := by
  obtain ⟨d, rfl⟩ : ∃ d, n = d + 7 := ⟨n - 7, by omega⟩
  rw [RUN, call_eq fe50 _ rfl]
  have h0 := tow48 (n := d + 6) (by omega) t hl
  by_cases hz : towE t = 0
  · have h := tow_of hz
    rw [if_pos hz]
    have hw := h.wl
    have hfew := h.few
    have hfr := h.fr
    have h1 := run116 (n := d + 6) (by omega) h (f := t.fl) (by omega)
    have hlen := tabL_length h
    have w := wrap64 (n := t.wall + 1) (by omega) (by omega)
    have htab : tabL t = (runL t t.fl).take (t.wall.toNat + 1) := rfl
    have b1 : t.wall + 1 ≤ (t.pull.length : Int) + 1 := by omega
    have b2 : (0 : Int) ≤ t.wall + 1 := by omega
    have hto : (t.wall + 1).toNat = t.wall.toNat + 1 := by omega
    have b3 : t.wall.toNat + 1 ≤ t.pull.length + 1 := by omega
    simp -implicitDefEqProofs [c50, h0, h1, hz, w, b1, b2, hto, hlen, pI_take, ← htab]
  · rw [if_neg hz]
    have hb : (towE t != 0) = true := by simpa using hz
    simp -implicitDefEqProofs [c50, h0, hb]

def cellE (t : TowI) (c : Int) : Int := whenE (decide (c < 0) || decide (t.wall < c)) 10
theorem cell42 {n : Nat} (hn : 2 ≤ n) (t : TowI) (c : Int) : RUN n 42 [twa t, iv c] = .ret (iv (cellE t c)) := by
  obtain ⟨d, rfl⟩ : ∃ d, n = d + 2 := ⟨n - 2, by omega⟩
  rw [RUN, call_eq fe42 _ rfl]
  have h1 := fun b e => when55 (n := d + 1) (by omega) b e
  by_cases c1 : c < 0 <;> simp -implicitDefEqProofs [c42, h1, cellE, c1]
theorem cell117 {n : Nat} (hn : 2 ≤ n) (t : TowI) (c : Int) : RUN n 117 [twa t, iv c] = .ret (iv (cellE t c)) := by
  obtain ⟨d, rfl⟩ : ∃ d, n = d + 2 := ⟨n - 2, by omega⟩
  rw [RUN, call_eq fe117 _ rfl]
  have h1 := fun b e => when107 (n := d + 1) (by omega) b e
  by_cases c1 : c < 0 <;> simp -implicitDefEqProofs [c117, h1, cellE, c1]
theorem cellE_zero {t : TowI} {c : Int} : cellE t c = 0 ↔ 0 ≤ c ∧ c ≤ t.wall := by
  unfold cellE
  rw [whenE_zero (by decide)]
  simp

def shapeE (t : TowI) (tab : List Int) : Int := whenE ((tab.length : Int) != t.wall + 1) 2
def formE (t : TowI) (tab : List Int) : Int := firstE [shapeE t tab, rangesE 0 100000000 tab]
theorem form54 {n : Nat} (hn : 4 ≤ n) {t : TowI} (h : TowOk t) (tab : List Int) (hl : tab.length < 1000000) : RUN n 54 [twa t, isl tab] = .ret (iv (formE t tab)) := by
  obtain ⟨d, rfl⟩ : ∃ d, n = d + 4 := ⟨n - 4, by omega⟩
  rw [RUN, call_eq fe54 _ rfl]
  have hw := h.wl
  have hfew := h.few
  have h1 := fun b e => when55 (n := d + 3) (by omega) b e
  have h2 := ranges121 (n := d + 3) (by omega) tab 0 100000000 hl
  have h3 := fun a b => first101_2 (n := d + 3) (by omega) a b
  have w := wrap64 (n := t.wall + 1) (by omega) (by omega)
  simp -implicitDefEqProofs [c54, h1, h2, h3, w, formE, shapeE]

/-! what a table says -/
def bad1 (t : TowI) (tab : List Int) (i : Nat) : Bool := decide (tab.getD (i + 1) 0 < tab.getD i 0 + t.pull.getD i 0 - t.fl)
def bad2 (t : TowI) (tab : List Int) (i : Nat) : Bool := decide ((t.wall - i) * (t.bl + t.fl) < tab.getD i 0)
def e1 (t : TowI) (tab : List Int) (k : Nat) : Int := if bad1 t tab k = true then 1 else 0
def e2 (t : TowI) (tab : List Int) (k : Nat) : Int := if bad2 t tab k = true then 1 else 0
def e3 (t : TowI) (tab : List Int) (cell : Int) : Nat → Int
  | 0 => if (decide (0 ≤ cell) && bad2 t tab 0) = true then 19 else 0
  | k + 1 => if (bad1 t tab k || (decide (((k + 1 : Nat) : Int) ≤ cell) && bad2 t tab (k + 1))) = true then 19 else 0
def provB (t : TowI) (tab : List Int) (c : Nat) : Bool := decide (firstE ((List.range (tab.length - 1)).map (e1 t tab)) = 0) && decide (firstE ((List.range (c + 1)).map (e2 t tab)) = 0)

theorem firstE_19 {l : List Int} (h : ∀ x ∈ l, x = 0 ∨ x = 19) : firstE l = 0 ∨ firstE l = 19 := by
  induction l with
  | nil => exact .inl rfl
  | cons x r ih =>
    rw [firstE_cons]
    split
    · exact ih (fun y hy => h y (by simp [hy]))
    · exact h x (by simp)

theorem prov_eq {t : TowI} {tab : List Int} {c : Nat} (hc : c < tab.length) : firstE ((List.range tab.length).map (e3 t tab c)) = whenE (!provB t tab c) 19 := by
  have hv : ∀ x ∈ (List.range tab.length).map (e3 t tab c), x = 0 ∨ x = 19 := by
    intro x hx
    obtain ⟨i, _, rfl⟩ := List.mem_map.1 hx
    cases i <;> simp only [e3] <;> split <;> simp
  have hiff : firstE ((List.range tab.length).map (e3 t tab c)) = 0 ↔ provB t tab c = true := by
    simp only [provB, Bool.and_eq_true, decide_eq_true_eq, firstE_zero, List.mem_map, List.mem_range, forall_exists_index, and_imp, forall_apply_eq_imp_iff₂]
    constructor
    · intro h
      refine ⟨fun k hk => ?_, fun k hk => ?_⟩
      · have := h (k + 1) (by omega)
        simp only [e3] at this
        unfold e1
        split
        · rename_i hb; rw [hb] at this; simp at this
        · rfl
      · have := h k (by omega)
        unfold e2
        split
        · rename_i hb
          cases k with
          | zero => simp [e3, hb] at this
          | succ k =>
            have hle : (((k + 1 : Nat) : Int)) ≤ (c : Int) := by omega
            simp only [e3, hb, decide_eq_true hle, Bool.and_true, Bool.or_true, if_true] at this
            cases this
        · rfl
    · rintro ⟨h1, h2⟩ i hi
      cases i with
      | zero =>
        simp only [e3]
        have := h2 0 (by omega)
        unfold e2 at this
        split
        · rename_i hb
          simp only [Bool.and_eq_true] at hb
          rw [if_pos hb.2] at this; cases this
        · rfl
      | succ k =>
        simp only [e3]
        split
        · rename_i hb
          simp only [Bool.or_eq_true, Bool.and_eq_true, decide_eq_true_eq] at hb
          rcases hb with hb | ⟨hb1, hb2⟩
          · have := h1 k (by omega)
            unfold e1 at this
            rw [if_pos hb] at this; cases this
          · have := h2 (k + 1) (by omega)
            unfold e2 at this
            rw [if_pos hb2] at this; cases this
        · rfl
  cases hp : provB t tab c with
  | true => rw [hiff.2 hp]; rfl
  | false =>
    rcases firstE_19 hv with h | h
    · rw [hiff.1 h] at hp; cases hp
    · rw [h]; rfl

structure TabOk (t : TowI) (tab : List Int) : Prop where
  len : tab.length = t.wall.toNat + 1
  all : ∀ x ∈ tab, 0 ≤ x ∧ x ≤ 100000000
theorem tab_of {t : TowI} (h : TowOk t) {tab : List Int} (hf : formE t tab = 0) : TabOk t tab := by
  have hz := firstE_zero.1 hf
  have h1 := (whenE_zero (by decide)).1 (hz (shapeE t tab) (by simp))
  have h2 := rangesE_zero.1 (hz (rangesE 0 100000000 tab) (by simp))
  have hw := h.wl
  simp at h1
  exact ⟨by omega, h2⟩

theorem proves56 {n : Nat} (hn : 1 ≤ n) {t : TowI} (h : TowOk t) {tab : List Int} (ht : TabOk t tab) {c : Nat} (hc : (c : Int) ≤ t.wall) : RUN n 56 [twa t, isl tab, iv c] = .ret (.p (.bool (provB t tab c))) := by
  obtain ⟨d, rfl⟩ : ∃ d, n = d + 1 := ⟨n - 1, by omega⟩
  rw [RUN, call_eq fe56 _ rfl]
  have hw := h.wl
  have hfew := h.few
  have hfr := h.fr
  have hbr := h.br
  have hlen := ht.len
  let B : Sto := [(0, .box (twl t))]
  let inv : Nat → St := fun i => ⟨[(1, isl tab), (2, iv c), (3, .ptr 0 0 0), (7, iv ((i + 1 : Nat) : Int))], B⟩
  let inv2 : Nat → St := fun i => ⟨[(1, isl tab), (2, iv c), (3, .ptr 0 0 0), (8, iv i)], B⟩
  have key := loop_first (step := loopS (evFn F C0 G0 d) C0 G0 0 false [1, 2, 3, 7] c56L0) inv (e1 t tab) (tab.length - 1) (.exit 0, ⟨[(1, isl tab), (2, iv c), (3, .ptr 0 0 0), (7, iv tab.length), (12, .p (.bool false))], B⟩) (fun i => (.ret, ⟨[(6, .p (.bool false))], B⟩))
    (st0 := ⟨[(1, isl tab), (2, iv c), (3, .ptr 0 0 0), (7, iv 1)], B⟩) rfl (fun k hk => by
      have hk1 : k + 1 < tab.length := by omega
      have hk2 : k < tab.length := by omega
      have hk3 : k < t.pull.length := by omega
      have hlt' : (k : Int) + 1 < tab.length := by omega
      have hlt2 : (k : Int) < tab.length := by omega
      have hlt3 : (k : Int) < t.pull.length := by omega
      have g1 : tab[k + 1]? = some tab[k + 1] := List.getElem?_eq_getElem hk1
      have g2 : tab[k]? = some tab[k] := List.getElem?_eq_getElem hk2
      have g3 : t.pull[k]? = some t.pull[k] := List.getElem?_eq_getElem hk3
      have q1 := ht.all _ (List.getElem_mem hk1)
      have q2 := ht.all _ (List.getElem_mem hk2)
      have q3 := h.pulls _ (List.getElem_mem hk3)
      have hb : bad1 t tab k = decide (tab[k + 1] < tab[k] + t.pull[k] - t.fl) := by simp only [bad1, getD_i hk1, getD_i hk2, getD_i hk3]
      have w0 := wrap64 (n := (k : Int)) (by omega) (by omega)
      have hk0 : (0 : Int) ≤ (k : Int) + 1 := by omega
      have w1 := wrap64 (n := tab[k] + t.pull[k]) (by omega) (by omega)
      have w2 := wrap64 (n := tab[k] + t.pull[k] - t.fl) (by omega) (by omega)
      have w3 := wrap64 (n := (k : Int) + 1 + 1) (by omega) (by omega)
      unfold e1
      rw [hb]
      by_cases hx : tab[k + 1] < tab[k] + t.pull[k] - t.fl
      · refine ⟨fun hz => by simp [hx] at hz, fun _ => ?_⟩
        simp -implicitDefEqProofs [inv, B, loopS_eq, c56L0, hk1, hk2, hk3, hlt', hlt2, hlt3, hk0, w0, w1, w2, hx]
      · refine ⟨fun _ => ⟨inv (k + 1), ?_, rfl⟩, fun hz => by simp [hx] at hz⟩
        simp -implicitDefEqProofs [inv, B, loopS_eq, c56L0, hk1, hk2, hk3, hlt', hlt2, hlt3, hk0, w0, w1, w2, w3, hx]) (fun i => by simp) (by
      have e : ((tab.length - 1 + 1 : Nat) : Int) = tab.length := by omega
      simp -implicitDefEqProofs only [inv, e]
      simp -implicitDefEqProofs [B, loopS_eq, c56L0]) (by simp) (fuel := loopFuel) (by simp [loopFuel]; omega)
  have key2 := loop_first (step := loopS (evFn F C0 G0 d) C0 G0 0 false [1, 2, 3, 8] c56L1) inv2 (e2 t tab) (c + 1) (.exit 2, ⟨[(1, isl tab), (2, iv c), (3, .ptr 0 0 0), (8, iv ((c : Int) + 1)), (38, .p (.bool false))], B⟩) (fun i => (.ret, ⟨[(6, .p (.bool false))], B⟩))
    (st0 := ⟨[(1, isl tab), (2, iv c), (3, .ptr 0 0 0), (8, iv 0)], B⟩) rfl (fun k hk => by
      have hk2 : k < tab.length := by omega
      have hle : (k : Int) ≤ c := by omega
      have hlt2 : (k : Int) < tab.length := by omega
      have g2 : tab[k]? = some tab[k] := List.getElem?_eq_getElem hk2
      have q2 := ht.all _ (List.getElem_mem hk2)
      have hb : bad2 t tab k = decide ((t.wall - k) * (t.bl + t.fl) < tab[k]) := by simp only [bad2, getD_i hk2]
      have w1 := wrap64 (n := t.wall - k) (by omega) (by omega)
      have w2 := wrap64 (n := t.bl + t.fl) (by omega) (by omega)
      have pr := prod_in (a := t.wall - k) (b := t.bl + t.fl) (A := 64) (B := 200000) (by omega) (by omega)
      have w4 := wrap64 (n := (t.wall - k) * (t.bl + t.fl)) (by omega) (by omega)
      unfold e2
      rw [hb]
      by_cases hx : (t.wall - k) * (t.bl + t.fl) < tab[k]
      · refine ⟨fun hz => by simp [hx] at hz, fun _ => ?_⟩
        simp -implicitDefEqProofs [inv2, B, loopS_eq, c56L1, hk2, hle, hlt2, w1, w2, w4, hx]
      · refine ⟨fun _ => ⟨inv2 (k + 1), ?_, rfl⟩, fun hz => by simp [hx] at hz⟩
        simp -implicitDefEqProofs [inv2, B, loopS_eq, c56L1, hk2, hle, hlt2, w1, w2, w4, hx, wrap_succ (i := k) (by omega)]) (fun i => by simp) (by
      have : ¬ (c : Int) + 1 ≤ c := by omega
      simp -implicitDefEqProofs [inv2, B, loopS_eq, c56L1, this]) (by simp) (fuel := loopFuel) (by simp [loopFuel]; omega)
  simp only [B] at key key2
  simp -implicitDefEqProofs [c56]
  rcases key with ⟨k1, k2⟩ | ⟨j, hj, k1, k2, k3, _⟩
  · rw [k1]
    simp -implicitDefEqProofs
    rcases key2 with ⟨m1, m2⟩ | ⟨j, hj, m1, m2, m3, _⟩
    · rw [m1]
      simp -implicitDefEqProofs [provB, k2, m2]
    · rw [m1]
      simp -implicitDefEqProofs [provB, m2, m3]
  · rw [k1]
    simp -implicitDefEqProofs [provB, k2, k3]

def cellsE (t : TowI) (tab : List Int) (cell : Int) : Int := firstE [shapeE t tab, rangesE 0 100000000 tab, cellE t cell]
def checkE (t : TowI) (tab : List Int) (cell : Int) : Int := if towE t = 0 then (if cellsE t tab cell = 0 then whenE (!provB t tab cell.toNat) 19 else cellsE t tab cell) else towE t

theorem check51 {n : Nat} (hn : 7 ≤ n) (t : TowI) (hl : t.pull.length < 1000000) (tab : List Int) (htl : tab.length < 1000000) (cell : Int) : RUN n 51 [twa t, isl tab, iv cell] = .ret (iv (checkE t tab cell)) := by
  obtain ⟨d, rfl⟩ : ∃ d, n = d + 7 := ⟨n - 7, by omega⟩
  rw [RUN, call_eq fe51 _ rfl]
  have h0 := tow48 (n := d + 6) (by omega) t hl
  by_cases hz : towE t = 0
  · have h := tow_of hz
    have hw := h.wl
    have hfew := h.few
    have hfr := h.fr
    have hbr := h.br
    have h1 := fun b e => when107 (n := d + 6) (by omega) b e
    have h2 := ranged122 (n := d + 6) (by omega) tab 0 100000000 htl
    have h3 := cell117 (n := d + 6) (by omega) t cell
    have h4 := fun a b c => first98_3 (n := d + 6) (by omega) a b c
    have w := wrap64 (n := t.wall + 1) (by omega) (by omega)
    have hsh : whenE ((tab.length : Int) != t.wall + 1) 2 = shapeE t tab := rfl
    have hce : firstE [shapeE t tab, rangesE 0 100000000 tab, cellE t cell] = cellsE t tab cell := rfl
    unfold checkE
    rw [if_pos hz]
    by_cases hc : cellsE t tab cell = 0
    · rw [if_pos hc]
      have hzz := firstE_zero.1 hc
      have ht : TabOk t tab := tab_of h (firstE_zero.2 (fun e he => by
        simp at he
        rcases he with rfl | rfl
        · exact hzz (shapeE t tab) (by simp)
        · exact hzz (rangesE 0 100000000 tab) (by simp)))
      have hcl := cellE_zero.1 (hzz (cellE t cell) (by simp))
      obtain ⟨c, rfl⟩ : ∃ c : Nat, cell = c := ⟨cell.toNat, by omega⟩
      have hlen := ht.len
      rw [Int.toNat_natCast, ← prov_eq (by omega)]
      let B : Sto := [(0, .box (twl t))]
      let inv : Nat → St := fun i => ⟨[(1, isl tab), (2, iv c), (3, .ptr 0 0 0), (33, isl tab), (34, iv tab.length), (35, iv i)], B⟩
      have key := loop_first (step := loopS (evFn F C0 G0 (d + 6)) C0 G0 0 false [1, 2, 3, 33, 34, 35] c51L0) inv (e3 t tab c) tab.length (.exit 0, ⟨(inv tab.length).env ++ [(36, .p (.bool false))], B⟩) (fun i => (.ret, ⟨[(6, iv (e3 t tab c i))], B⟩))
        (st0 := ⟨[(1, isl tab), (2, iv c), (3, .ptr 0 0 0), (33, isl tab), (34, iv tab.length), (35, iv 0)], B⟩) rfl (fun i hi => by
          have hlt' : (i : Int) < tab.length := by omega
          have gi : tab[i]? = some tab[i] := List.getElem?_eq_getElem hi
          have qi := ht.all _ (List.getElem_mem hi)
          have w1 := wrap64 (n := t.wall - i) (by omega) (by omega)
          have w2 := wrap64 (n := t.bl + t.fl) (by omega) (by omega)
          have pr := prod_in (a := t.wall - i) (b := t.bl + t.fl) (A := 64) (B := 200000) (by omega) (by omega)
          have w4 := wrap64 (n := (t.wall - i) * (t.bl + t.fl)) (by omega) (by omega)
          have hws := wrap_succ (i := i) (by omega)
          have hb2 : bad2 t tab i = decide ((t.wall - i) * (t.bl + t.fl) < tab[i]) := by simp only [bad2, getD_i hi]
          cases i with
          | zero =>
            have hc0 : (0 : Int) ≤ c := by omega
            simp only [e3, hb2, decide_eq_true hc0, Bool.true_and]
            simp only [Int.natCast_zero, Int.sub_zero] at w1 w4
            by_cases hx : t.wall * (t.bl + t.fl) < tab[0]
            · refine ⟨fun hz => by simp [hx] at hz, fun _ => ?_⟩
              simp -implicitDefEqProofs [inv, B, loopS_eq, c51L0, hi, w1, w2, w4, hx, hc0]
            · have hw1 : IntKind.i64.wrap 1 = 1 := wrap64 (by decide) (by decide)
              refine ⟨fun _ => ⟨inv 1, ?_, rfl⟩, fun hz => by simp [hx] at hz⟩
              simp -implicitDefEqProofs [inv, B, loopS_eq, c51L0, hi, w1, w2, w4, hx, hc0, hw1]
          | succ k =>
            have hk2 : k < tab.length := by omega
            have hk3 : k < t.pull.length := by omega
            have hlt2 : (k : Int) < tab.length := by omega
            have hlt3 : (k : Int) < t.pull.length := by omega
            have g2 : tab[k]? = some tab[k] := List.getElem?_eq_getElem hk2
            have g3 : t.pull[k]? = some t.pull[k] := List.getElem?_eq_getElem hk3
            have q2 := ht.all _ (List.getElem_mem hk2)
            have q3 := h.pulls _ (List.getElem_mem hk3)
            have hb1 : bad1 t tab k = decide (tab[k + 1] < tab[k] + t.pull[k] - t.fl) := by simp only [bad1, getD_i hi, getD_i hk2, getD_i hk3]
            have v0 := wrap64 (n := (k : Int)) (by omega) (by omega)
            have v1 := wrap64 (n := tab[k] + t.pull[k]) (by omega) (by omega)
            have v2 := wrap64 (n := tab[k] + t.pull[k] - t.fl) (by omega) (by omega)
            have hpos : (0 : Int) < (k : Int) + 1 := by omega
            have hpos' : (0 : Int) ≤ (k : Int) + 1 := by omega
            simp only [e3, hb1, hb2]
            push_cast at w1 w4 hws hlt' ⊢
            by_cases hx : tab[k + 1] < tab[k] + t.pull[k] - t.fl
            · refine ⟨fun hz => by simp [hx] at hz, fun _ => ?_⟩
              simp -implicitDefEqProofs [inv, B, loopS_eq, c51L0, hi, hlt', hk2, hk3, hlt2, hlt3, v0, v1, v2, hpos, hpos', hx]
            · by_cases hcc : (k : Int) + 1 ≤ c
              · by_cases hy : (t.wall - ((k : Int) + 1)) * (t.bl + t.fl) < tab[k + 1]
                · refine ⟨fun hz => by simp [hcc, hy] at hz, fun _ => ?_⟩
                  simp -implicitDefEqProofs [inv, B, loopS_eq, c51L0, hi, hlt', hk2, hk3, hlt2, hlt3, v0, v1, v2, hpos, hpos', hx, hcc, w1, w2, w4, hy]
                · refine ⟨fun _ => ⟨inv (k + 1 + 1), ?_, rfl⟩, fun hz => by simp [hx, hy] at hz⟩
                  simp -implicitDefEqProofs [inv, B, loopS_eq, c51L0, hi, hlt', hk2, hk3, hlt2, hlt3, v0, v1, v2, hpos, hpos', hx, hcc, w1, w2, w4, hy, hws]
              · refine ⟨fun _ => ⟨inv (k + 1 + 1), ?_, rfl⟩, fun hz => by simp [hx, hcc] at hz⟩
                simp -implicitDefEqProofs [inv, B, loopS_eq, c51L0, hi, hlt', hk2, hk3, hlt2, hlt3, v0, v1, v2, hpos, hpos', hx, hcc, hws]) (fun i => by simp) (by simp -implicitDefEqProofs [inv, B, loopS_eq, c51L0]) (by simp) (fuel := loopFuel) (by simp [loopFuel]; omega)
      simp only [B] at key
      simp -implicitDefEqProofs [c51, h0, hz, h1, h2, h3, h4, w, hsh, hce, hc]
      rcases key with ⟨k1, k2⟩ | ⟨j, hj, k1, k2, k3, _⟩
      · rw [k1, k2]
        simp -implicitDefEqProofs [inv]
      · rw [k1, k2]
        simp -implicitDefEqProofs
    · rw [if_neg hc]
      have hb : (cellsE t tab cell != 0) = true := by simpa using hc
      simp -implicitDefEqProofs [c51, h0, hz, h1, h2, h3, h4, w, hsh, hce, hb]
  · have hb : (towE t != 0) = true := by simpa using hz
    simp -implicitDefEqProofs [c51, h0, hb, checkE, hz]
end Fw
