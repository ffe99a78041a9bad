/- Tows: what is checked, runs. -/
import Derived.Test.YtfkacogfieiccaaGreatDoorBaK
set_option maxHeartbeats 8000000
namespace Fw
open Go
attribute [local irreducible] evCode evOps evOpsD evOper evOperD evOp evFn loopN T.All T.bind callPure callOp opsK opsDK restK seqK blockK loopS setK setQ giveK scalK gcK finish finS rfunK yldK yldB loopK

theorem pI_map (l : List Int) (g : Int → Int) : (pI l).map (fun c => match c with | .int .i64 n => .int .i64 (g n) | c => c) = pI (l.map g) := by
  simp [pI]
theorem pI_set (l : List Int) (k : Nat) (v : Int) : (pI l).set k (.int .i64 v) = pI (l.set k v) := by
  simp [pI, List.map_set]
theorem getD_i {l : List Int} {i : Nat} (h : i < l.length) : l.getD i 0 = l[i] := by simp [List.getD_eq_getElem?_getD, List.getElem?_eq_getElem h]
theorem rangeE_zero {lo hi n : Int} : rangeE lo hi n = 0 ↔ lo ≤ n ∧ n ≤ hi := by
  unfold rangeE; split <;> omega
theorem whenE_zero {b : Bool} {e : Int} (he : e ≠ 0) : whenE b e = 0 ↔ b = false := by
  cases b <;> simp [whenE, he]
theorem ivE_zero {lo hi : Int} {x : Int × Int} : ivE lo hi x = 0 ↔ lo ≤ x.1 ∧ x.1 ≤ hi ∧ lo ≤ x.2 ∧ x.2 ≤ hi ∧ x.1 ≤ x.2 := by
  unfold ivE
  rw [firstE_zero]
  simp only [List.mem_cons, List.not_mem_nil, or_false, forall_eq_or_imp, forall_eq, rangeE_zero, whenE_zero (show (11 : Int) ≠ 0 by decide), decide_eq_false_iff_not]
  omega

theorem interval109' {n : Nat} (hn : 3 ≤ n) (a b lo hi : Int) : RUN n 109 [.agg [iv a, iv b], iv lo, iv hi] = .ret (iv (ivE lo hi (a, b))) := interval109 hn (a, b) lo hi
theorem ends103' {n : Nat} (hn : 3 ≤ n) (a b lo hi : Int) : RUN n 103 [.agg [iv a, iv b], iv lo, iv hi] = .ret (iv (ivE lo hi (a, b))) := ends103 hn (a, b) lo hi

/-! numbers in a range -/
def rangesE (lo hi : Int) (l : List Int) : Int := firstE (l.map (rangeE lo hi))
theorem rangesE_zero {lo hi : Int} {l : List Int} : rangesE lo hi l = 0 ↔ ∀ x ∈ l, lo ≤ x ∧ x ≤ hi := by
  unfold rangesE
  rw [firstE_zero]
  simp only [List.mem_map, forall_exists_index, and_imp, forall_apply_eq_imp_iff₂, rangeE_zero]

theorem range162 {n : Nat} (hn : 3 ≤ n) (x lo hi : Int) : RUN n 162 [iv x, .p (.pp [.int .i64 lo]), .p (.pp [.int .i64 hi])] = .ret (iv (rangeE lo hi x)) := by
  obtain ⟨d, rfl⟩ : ∃ d, n = d + 3 := ⟨n - 3, by omega⟩
  rw [RUN, call_eq fe162 _ rfl]
  have h := within108 (n := d + 2) (by omega) x lo hi
  simp -implicitDefEqProofs [c162, h]

theorem map161 {n : Nat} (hn : 4 ≤ n) (l : List Int) (lo hi : Int) (hl : l.length < 1000000) : RUN n 161 [isl l, .p (.clo 162 [] [.pp [.int .i64 lo], .pp [.int .i64 hi]])] = .ret (.own (pI (l.map (rangeE lo hi))) l.length 1) := by
  obtain ⟨d, rfl⟩ : ∃ d, n = d + 4 := ⟨n - 4, by omega⟩
  have := map_ok (C := C0) (G := G0) (d := d + 3) fc161 (by decide) (fun _ => rfl) (pI l) 162 [.pp [.int .i64 lo], .pp [.int .i64 hi]] (fun c => match c with | .int .i64 n => .int .i64 (rangeE lo hi n) | c => c) (by simpa using hl) (by simp) (fun c hc => by
    obtain ⟨x, hx, rfl⟩ := List.mem_map.1 hc
    refine ⟨?_, rfl⟩
    simp only [nrm_int, List.map_cons, List.map_nil]
    exact range162 (n := d + 3) (by omega) x lo hi)
  rw [pI_map, pI_length] at this
  exact this

theorem ranged122 {n : Nat} (hn : 5 ≤ n) (l : List Int) (lo hi : Int) (hl : l.length < 1000000) : RUN n 122 [isl l, iv lo, iv hi] = .ret (iv (rangesE lo hi l)) := by
  obtain ⟨d, rfl⟩ : ∃ d, n = d + 5 := ⟨n - 5, by omega⟩
  rw [RUN, call_eq fe122 _ rfl]
  have h1 := map161 (n := d + 4) (by omega) l lo hi hl
  have h2 := first98 (n := d + 4) (by omega) (l.map (rangeE lo hi)) (by simpa using hl)
  simp only [List.length_map] at h2
  simp -implicitDefEqProofs [c122, h1, h2, rangesE]

theorem ranges121 {n : Nat} (hn : 3 ≤ n) (l : List Int) (lo hi : Int) (hl : l.length < 1000000) : RUN n 121 [isl l, iv lo, iv hi] = .ret (iv (rangesE lo hi l)) := by
  obtain ⟨d, rfl⟩ : ∃ d, n = d + 3 := ⟨n - 3, by omega⟩
  rw [RUN, call_eq fe121 _ rfl]
  let inv : Nat → St := fun i => ⟨[(0, isl l), (1, iv lo), (2, iv hi), (7, iv i)], []⟩
  let e : Nat → Int := fun i => rangeE lo hi (l.getD i 0)
  have hm : rangesE lo hi l = firstE ((List.range l.length).map e) := by
    unfold rangesE
    congr 1
    refine List.ext_getElem (by simp) (fun i h1 h2 => ?_)
    have : i < l.length := by simpa using h1
    simp only [List.getElem_map, List.getElem_range, e, getD_i this]
  have key := loop_first (step := loopS (evFn F C0 G0 (d + 2)) C0 G0 0 false [0, 1, 2, 7] c121L0) inv e l.length (.exit 0, ⟨(inv l.length).env ++ [(12, .p (.bool false))], []⟩) (fun i => (.ret, ⟨[(6, iv (e i))], []⟩))
    (st0 := ⟨[(0, isl l), (1, iv lo), (2, iv hi), (7, iv 0)], []⟩) rfl (fun i hi' => by
      have hlt' : (i : Int) < l.length := by omega
      have hgo : l[i]? = some l[i] := List.getElem?_eq_getElem hi'
      have hei : e i = rangeE lo hi l[i] := by simp only [e, getD_i hi']
      have h1 := range102 (n := d + 2) (by omega) l[i] lo hi
      rw [hei]
      refine ⟨fun hz => ⟨inv (i + 1), ?_, rfl⟩, fun hz => ?_⟩
      · simp -implicitDefEqProofs [inv, loopS_eq, c121L0, hi', hlt', h1, hz, wrap_succ (i := i) (by omega)]
      · simp -implicitDefEqProofs [inv, loopS_eq, c121L0, hi', hlt', h1, hz]) (fun i => by simp) (by simp -implicitDefEqProofs [inv, loopS_eq, c121L0]) (by simp) (fuel := loopFuel) (by simp [loopFuel]; omega)
  simp -implicitDefEqProofs [c121]
  rw [hm]
  rcases key with ⟨k1, k2⟩ | ⟨j, hj, k1, k2, k3, _⟩
  · rw [k1, k2]
    simp -implicitDefEqProofs [inv]
  · rw [k1, k2]
    simp -implicitDefEqProofs

/-! tows -/
structure TowI where
  pull : List Int
  fl : Int
  fh : Int
  bl : Int
  bh : Int
  wall : Int
abbrev twc (t : TowI) : List PVal := [.sl (pI t.pull) t.pull.length, .int .i64 t.fl, .int .i64 t.fh, .int .i64 t.bl, .int .i64 t.bh, .int .i64 t.wall]
abbrev twl (t : TowI) : List AVal := [isl t.pull, iv t.fl, iv t.fh, iv t.bl, iv t.bh, iv t.wall]
abbrev twa (t : TowI) : AVal := .agg (twl t)

def towE (t : TowI) : Int := firstE [whenE ((t.pull.length : Int) == 0) 12, whenE (decide ((64 : Int) < t.pull.length)) 5, rangesE 0 100000 t.pull, ivE 0 100000 (t.fl, t.fh), ivE 0 100000 (t.bl, t.bh), rangeE 1 t.pull.length t.wall]

structure TowOk (t : TowI) : Prop where
  pos : 0 < t.pull.length
  few : t.pull.length ≤ 64
  pulls : ∀ x ∈ t.pull, 0 ≤ x ∧ x ≤ 100000
  fr : 0 ≤ t.fl ∧ t.fl ≤ t.fh ∧ t.fh ≤ 100000
  br : 0 ≤ t.bl ∧ t.bl ≤ t.bh ∧ t.bh ≤ 100000
  wl : 1 ≤ t.wall ∧ t.wall ≤ t.pull.length

theorem tow_of {t : TowI} (h : towE t = 0) : TowOk t := by
  have hz := firstE_zero.1 h
  have h1 := (whenE_zero (by decide)).1 (hz (whenE ((t.pull.length : Int) == 0) 12) (by simp))
  have h2 := (whenE_zero (by decide)).1 (hz (whenE (decide ((64 : Int) < t.pull.length)) 5) (by simp))
  have h3 := rangesE_zero.1 (hz (rangesE 0 100000 t.pull) (by simp))
  have h4 := ivE_zero.1 (hz (ivE 0 100000 (t.fl, t.fh)) (by simp))
  have h5 := ivE_zero.1 (hz (ivE 0 100000 (t.bl, t.bh)) (by simp))
  have h6 := rangeE_zero.1 (hz (rangeE 1 t.pull.length t.wall) (by simp))
  simp at h1 h2 h4 h5
  exact ⟨by have : t.pull.length ≠ 0 := by simpa using h1
            omega, by omega, h3, by omega, by omega, h6⟩

theorem tow40 {n : Nat} (hn : 4 ≤ n) (t : TowI) (hl : t.pull.length < 1000000) : RUN n 40 [twa t] = .ret (iv (towE t)) := by
  obtain ⟨d, rfl⟩ : ∃ d, n = d + 4 := ⟨n - 4, by omega⟩
  rw [RUN, call_eq fe40 _ rfl]
  have h1 := fun b e => when55 (n := d + 3) (by omega) b e
  have h2 := ranges121 (n := d + 3) (by omega) t.pull 0 100000 hl
  have h3 := fun a b lo hi => ends103' (n := d + 3) (by omega) a b lo hi
  have h4 := fun x lo hi => range102 (n := d + 3) (by omega) x lo hi
  have h5 := fun a b c e f g => first101 (n := d + 3) (by omega) [a, b, c, e, f, g] (by simp)
  simp only [pI, List.map_cons, List.map_nil, List.length_cons, List.length_nil] at h5
  simp -implicitDefEqProofs [c40, h1, h2, h3, h4, h5, towE]

theorem tow48 {n : Nat} (hn : 6 ≤ n) (t : TowI) (hl : t.pull.length < 1000000) : RUN n 48 [twa t] = .ret (iv (towE t)) := by
  obtain ⟨d, rfl⟩ : ∃ d, n = d + 6 := ⟨n - 6, by omega⟩
  rw [RUN, call_eq fe48 _ rfl]
  have h1 := fun b e => when107 (n := d + 5) (by omega) b e
  have h2 := ranged122 (n := d + 5) (by omega) t.pull 0 100000 hl
  have h3 := fun a b lo hi => interval109' (n := d + 5) (by omega) a b lo hi
  have h4 := fun x lo hi => within108 (n := d + 5) (by omega) x lo hi
  have h5 := fun a b => first98_2 (n := d + 5) (by omega) a b
  have h6 := fun a b c e => first98_4 (n := d + 5) (by omega) a b c e
  have hs : towE t = if firstE [whenE ((t.pull.length : Int) == 0) 12, whenE (decide ((64 : Int) < t.pull.length)) 5] = 0 then firstE [rangesE 0 100000 t.pull, ivE 0 100000 (t.fl, t.fh), ivE 0 100000 (t.bl, t.bh), rangeE 1 t.pull.length t.wall] else firstE [whenE ((t.pull.length : Int) == 0) 12, whenE (decide ((64 : Int) < t.pull.length)) 5] := by
    simp only [towE, firstE]
    by_cases q1 : whenE ((t.pull.length : Int) == 0) 12 = 0 <;> by_cases q2 : whenE (decide ((64 : Int) < t.pull.length)) 5 = 0 <;> simp [q1, q2]
  rw [hs]
  generalize hE : firstE [whenE ((t.pull.length : Int) == 0) 12, whenE (decide ((64 : Int) < t.pull.length)) 5] = e at *
  by_cases hz : e = 0
  · simp -implicitDefEqProofs [c48, h1, h2, h3, h4, h5, h6, hE, hz]
  · have hb : (e != 0) = true := by simpa using hz
    simp -implicitDefEqProofs [c48, h1, h5, hE, hz, hb]

/-! runs -/
def runF (t : TowI) (f : Int) : Nat → Int
  | 0 => 0
  | i + 1 => max 0 (runF t f i + t.pull.getD i 0 - f)
def runL (t : TowI) (f : Int) : List Int := (List.range (t.pull.length + 1)).map (runF t f)
@[simp] theorem runL_length (t : TowI) (f : Int) : (runL t f).length = t.pull.length + 1 := by simp [runL]
theorem runF_in {t : TowI} (h : TowOk t) {f : Int} (hf : 0 ≤ f) : ∀ i, i ≤ t.pull.length → 0 ≤ runF t f i ∧ runF t f i ≤ 100000 * (i : Int) := by
  intro i
  induction i with
  | zero => intro _; simp [runF]
  | succ i ih =>
    intro hi
    have h1 := ih (by omega)
    have h2 := h.pulls _ (List.getElem_mem (show i < t.pull.length by omega))
    simp only [runF, getD_i (show i < t.pull.length by omega)]
    omega

theorem max2' (a : Int) : maxInt 0 [iv a] = some (max 0 a) := max2 0 a

theorem run43 {n : Nat} (hn : 1 ≤ n) {t : TowI} (h : TowOk t) {f : Int} (hf : 0 ≤ f ∧ f ≤ 100000) : RUN n 43 [twa t, iv f] = .ret (.own (pI (runL t f)) (t.pull.length + 1) 1) := by
  obtain ⟨d, rfl⟩ : ∃ d, n = d + 1 := ⟨n - 1, by omega⟩
  rw [RUN, call_eq fe43 _ rfl]
  have hfew := h.few
  let L : Nat → List Int := fun i => (List.range (i + 1)).map (runF t f)
  let inv : Nat → St := fun i => ⟨[(1, iv f), (2, .ptr 0 0 0), (5, .sl 1 i 0 (i + 1)), (6, iv i)], [(1, .arr (pI (L i)) i 1), (0, .box (twl t))]⟩
  have h0 : L 0 = [0] := rfl
  have hLl : ∀ i, (L i).length = i + 1 := fun i => by simp [L]
  have hend : L t.pull.length = runL t f := rfl
  simp -implicitDefEqProofs [c43]
  rw [loop_run inv t.pull.length (e := .exit 0) (st' := ⟨(inv t.pull.length).env ++ [(12, .p (.bool false))], (inv t.pull.length).sto⟩) (by simp)]
  · simp -implicitDefEqProofs [inv, hend]
  · simp [inv, h0, pI]
  · intro i hi
    have hlt' : (i : Int) < t.pull.length := by omega
    have hgo : t.pull[i]? = some t.pull[i] := List.getElem?_eq_getElem hi
    have hp := h.pulls _ (List.getElem_mem hi)
    have hb := runF_in h hf.1 i (by omega)
    have hb1 := runF_in h hf.1 (i + 1) (by omega)
    have hs : runF t f (i + 1) = max 0 (runF t f i + t.pull[i] - f) := by simp only [runF, getD_i hi]
    have w1 := wrap64 (n := runF t f i + t.pull[i]) (by omega) (by omega)
    have w2 := wrap64 (n := runF t f i + t.pull[i] - f) (by omega) (by omega)
    have hL : pI (L i) ++ [.int .i64 (max 0 (runF t f i + t.pull[i] - f))] = pI (L (i + 1)) := by
      rw [← hs, pI_snoc]
      congr 1
      simp [L, List.range_succ]
    have hg : ∀ q, (L i)[i]'q = runF t f i := fun q => by simp [L]
    have hlen := hLl i
    have hlim : i + 1 + 1 ≤ lim := by simp only [lim]; omega
    have hii : (i : Int) < (i : Int) + 1 := by omega
    simp -implicitDefEqProofs [inv, loopS_eq, c43L0, hi, hii, hlt', hlen, hlim, hg, w1, w2, max2', hL, wrap_succ (i := i) (by omega)]
  · simp -implicitDefEqProofs [inv, loopS_eq, c43L0]
  · simp [loopFuel]; omega

theorem run116 {n : Nat} (hn : 1 ≤ n) {t : TowI} (h : TowOk t) {f : Int} (hf : 0 ≤ f ∧ f ≤ 100000) : RUN n 116 [twa t, iv f] = .ret (.own (pI (runL t f)) (t.pull.length + 1) 1) := by
  obtain ⟨d, rfl⟩ : ∃ d, n = d + 1 := ⟨n - 1, by omega⟩
  rw [RUN, call_eq fe116 _ rfl]
  have hfew := h.few
  let L : Nat → List Int := fun i => (List.range (t.pull.length + 1)).map (fun k => if k ≤ i then runF t f k else 0)
  let inv : Nat → St := fun i => ⟨[(1, iv f), (5, .sl 1 0 0 (t.pull.length + 1)), (14, isl t.pull), (15, iv t.pull.length), (16, iv i)], [(1, .arr (pI (L i)) 0 1), (0, .box (twl t))]⟩
  have h0 : L 0 = List.replicate (t.pull.length + 1) 0 := by
    refine List.ext_getElem (by simp [L]) (fun i h1 h2 => ?_)
    simp only [L, List.getElem_map, List.getElem_range, List.getElem_replicate]
    split
    · have : i = 0 := by omega
      subst this; rfl
    · rfl
  have hend : L t.pull.length = runL t f := by
    refine List.map_congr_left (fun i hi => ?_)
    have := List.mem_range.1 hi
    rw [if_pos (by omega)]
  have hz : List.replicate (t.pull.length + 1) [PVal.int .i64 0] = List.replicate (t.pull.length + 1) [PVal.int .i64 0] := rfl
  have hfl : (List.replicate (t.pull.length + 1) [PVal.int .i64 0]).flatten = pI (L 0) := by
    rw [h0, List.flatten_replicate_singleton]
    simp [pI]
  have w0 := wrap64 (n := (t.pull.length : Int) + 1) (by omega) (by omega)
  have hm1 : (0 : Int) ≤ (t.pull.length : Int) + 1 := by omega
  have hm2 : (t.pull.length : Int) + 1 ≤ (lim : Int) := by simp only [lim]; omega
  have hm3 : ((t.pull.length : Int) + 1).toNat = t.pull.length + 1 := by omega
  simp -implicitDefEqProofs [c116, w0, hm1, hm2, hm3]
  rw [loop_run inv t.pull.length (e := .exit 0) (st' := ⟨(inv t.pull.length).env ++ [(17, .p (.bool false))], (inv t.pull.length).sto⟩) (by simp)]
  · simp -implicitDefEqProofs [inv, hend]
  · simp [inv, h0, pI]
  · intro i hi
    have hlt' : (i : Int) < t.pull.length := by omega
    have hgo : t.pull[i]? = some t.pull[i] := List.getElem?_eq_getElem hi
    have hp := h.pulls _ (List.getElem_mem hi)
    have hb := runF_in h hf.1 i (by omega)
    have hs : runF t f (i + 1) = max 0 (runF t f i + t.pull[i] - f) := by simp only [runF, getD_i hi]
    have w1 := wrap64 (n := runF t f i + t.pull[i]) (by omega) (by omega)
    have w2 := wrap64 (n := runF t f i + t.pull[i] - f) (by omega) (by omega)
    have hlen : (L i).length = t.pull.length + 1 := by simp [L]
    have hL : (pI (L i)).set (i + 1) (.int .i64 (max 0 (runF t f i + t.pull[i] - f))) = pI (L (i + 1)) := by
      rw [← hs, pI_set]
      congr 1
      refine List.ext_getElem (by simp [L]) (fun k h1 h2 => ?_)
      simp only [List.getElem_set, L, List.getElem_map, List.getElem_range]
      by_cases hk : i + 1 = k
      · subst hk; simp
      · rw [if_neg hk]
        by_cases hk2 : k ≤ i
        · rw [if_pos hk2, if_pos (by omega)]
        · rw [if_neg hk2, if_neg (by omega)]
    have hg : ∀ q, (L i)[i]'q = runF t f i := fun q => by simp [L]
    have hi5 : (0 : Int) ≤ (i : Int) + 1 := by omega
    have hi6 : i + 1 ≤ t.pull.length := hi
    have hi3 : (i : Int) < (t.pull.length : Int) + 1 := by omega
    have hi4 : (i : Int) + 1 < (t.pull.length : Int) + 1 := by omega
    have hi1 : i + 1 < t.pull.length + 1 := by omega
    have hi2 : i < t.pull.length + 1 := by omega
    simp -implicitDefEqProofs [inv, loopS_eq, c116L0, hi, hlt', hlen, hg, w1, w2, max2', hL, hi2, hi3, hi4, hi5, hi6, wrap_succ (i := i) (by omega)]
  · simp -implicitDefEqProofs [inv, loopS_eq, c116L0]
  · simp [loopFuel]; omega
end Fw
