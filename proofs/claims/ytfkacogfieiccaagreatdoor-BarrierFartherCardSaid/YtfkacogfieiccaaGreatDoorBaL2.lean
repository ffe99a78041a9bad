/- Several texts in one: steps of the proof, no condition of their own. -/
import Derived.Test.YtfkacogfieiccaaGreatDoorBaFe
import Derived.Test.YtfkacogfieiccaaGreatDoorFwC
attribute [local irreducible] Fw.evCode Fw.evOps Fw.evOpsD Fw.evOper Fw.evOperD Fw.evOp Fw.evFn Fw.loopN Fw.T.All Fw.T.bind Fw.callPure Fw.callOp Fw.opsK Fw.opsDK Fw.restK Fw.seqK Fw.blockK Fw.loopS Fw.setK Fw.setQ Fw.giveK Fw.scalK Fw.gcK Fw.finish Fw.finS Fw.rfunK Fw.yldK Fw.yldB Fw.loopK
section
set_option maxHeartbeats 8000000
namespace Fw
open Go

abbrev iv (n : Int) : AVal := .p (.int .i64 n)
abbrev RUN (n f : Nat) (args : List AVal) : T AVal := callPure (evFn F C0 G0 n) C0 (.fn f) args

def whenE (b : Bool) (e : Int) : Int := if b then e else 0
def rangeE (lo hi n : Int) : Int := if n < lo ∨ hi < n then 3 else 0

def cI : List (Int × Int) → List PVal
 | [] => []
 | x :: r => .int .i64 x.1 :: .int .i64 x.2 :: cI r

@[simp] theorem cI_length (l : List (Int × Int)) : (cI l).length = l.length * 2 := by
 induction l with
 | nil => rfl
 | cons x r ih => simp [cI, ih]; omega

theorem when107 {n : Nat} (hn : 1 ≤ n) (b : Bool) (e : Int) : RUN n 107 [.p (.bool b), iv e] = .ret (iv (whenE b e)) := by
 obtain ⟨d, rfl⟩ : ∃ d, n = d + 1 := ⟨n - 1, by omega⟩
 rw [RUN, call_eq fe107 _ rfl]
 cases b <;> simp [c107, whenE]
theorem when55 {n : Nat} (hn : 1 ≤ n) (b : Bool) (e : Int) : RUN n 55 [.p (.bool b), iv e] = .ret (iv (whenE b e)) := by
 obtain ⟨d, rfl⟩ : ∃ d, n = d + 1 := ⟨n - 1, by omega⟩
 rw [RUN, call_eq fe55 _ rfl]
 cases b <;> simp [c55, whenE]

theorem within108 {n : Nat} (hn : 2 ≤ n) (x lo hi : Int) : RUN n 108 [iv x, iv lo, iv hi] = .ret (iv (rangeE lo hi x)) := by
 obtain ⟨d, rfl⟩ : ∃ d, n = d + 2 := ⟨n - 2, by omega⟩
 rw [RUN, call_eq fe108 _ rfl]
 have hw := fun b e => when107 (n := d + 1) (by omega) b e
 by_cases h1 : x < lo <;> by_cases h2 : hi < x <;> simp [c108, h1, h2, hw, whenE, rangeE]
theorem range102 {n : Nat} (hn : 2 ≤ n) (x lo hi : Int) : RUN n 102 [iv x, iv lo, iv hi] = .ret (iv (rangeE lo hi x)) := by
 obtain ⟨d, rfl⟩ : ∃ d, n = d + 2 := ⟨n - 2, by omega⟩
 rw [RUN, call_eq fe102 _ rfl]
 have hw := fun b e => when55 (n := d + 1) (by omega) b e
 by_cases h1 : x < lo <;> by_cases h2 : hi < x <;> simp [c102, h1, h2, hw, whenE, rangeE]

theorem m98 : c98 = firstC := rfl
theorem first98 {n : Nat} (hn : 1 ≤ n) (l : List Int) (hl : l.length < 1000000) : RUN n 98 [.p (.sl (pI l) l.length)] = .ret (iv (firstE l)) := by
 obtain ⟨d, rfl⟩ : ∃ d, n = d + 1 := ⟨n - 1, by omega⟩
 exact first_ok (m98 ▸ fe98) (fun _ => rfl) l hl

theorem first101 {n : Nat} (hn : 1 ≤ n) (l : List Int) (hl : l.length < 1000000) : RUN n 101 [.p (.sl (pI l) l.length)] = .ret (iv (firstE l)) := by
 obtain ⟨d, rfl⟩ : ∃ d, n = d + 1 := ⟨n - 1, by omega⟩
 rw [RUN, call_eq fe101 _ rfl]
 let inv : Nat → St := fun i => ⟨[(0, .p (.sl (pI l) l.length)), (3, iv i)], []⟩
 let out : Nat → Ex × St := fun i => if firstE (l.drop i) = 0 then (.exit 0, ⟨[(0, .p (.sl (pI l) l.length)), (3, iv l.length), (7, .p (.bool false))], []⟩) else (.ret, ⟨[(2, iv (firstE (l.drop i)))], []⟩)
 simp [c101]
 rw [loop_rec inv out l.length (by rfl)]
 ·by_cases h : firstE l = 0 <;> simp [out, h]
 ·intro i hi
  have hx : l[i]? = some l[i] := List.getElem?_eq_getElem hi
  have hd : firstE (l.drop i) = if l[i] = 0 then firstE (l.drop (i + 1)) else l[i] := by rw [List.drop_eq_getElem_cons hi]; rfl
  by_cases h : l[i] = 0
  ·refine .inl ⟨?_, ?_⟩
   ·simp [inv, loopS_eq, c101L0, hi, h, wrap_succ (i := i) (by omega)]
   ·simp [out, hd, h]
  ·refine .inr ⟨?_, ?_⟩
   ·simp [inv, loopS_eq, c101L0, hi, h, out, hd]
   ·simp [out, hd, h]
 ·simp [inv, loopS_eq, c101L0, out, firstE]
 ·simp [loopFuel]; omega

theorem first98_2 {n : Nat} (hn : 1 ≤ n) (a b : Int) : RUN n 98 [.p (.sl [.int .i64 a, .int .i64 b] 2)] = .ret (iv (firstE [a, b])) := first98 hn [a, b] (by simp)
theorem first98_3 {n : Nat} (hn : 1 ≤ n) (a b c : Int) : RUN n 98 [.p (.sl [.int .i64 a, .int .i64 b, .int .i64 c] 3)] = .ret (iv (firstE [a, b, c])) := first98 hn [a, b, c] (by simp)
theorem first98_4 {n : Nat} (hn : 1 ≤ n) (a b c e : Int) : RUN n 98 [.p (.sl [.int .i64 a, .int .i64 b, .int .i64 c, .int .i64 e] 4)] = .ret (iv (firstE [a, b, c, e])) := first98 hn [a, b, c, e] (by simp)
theorem first101_3 {n : Nat} (hn : 1 ≤ n) (a b c : Int) : RUN n 101 [.p (.sl [.int .i64 a, .int .i64 b, .int .i64 c] 3)] = .ret (iv (firstE [a, b, c])) := first101 hn [a, b, c] (by simp)
def ivE (lo hi : Int) (x : Int × Int) : Int := firstE [rangeE lo hi x.1, rangeE lo hi x.2, whenE (decide (x.2 < x.1)) 11]

theorem interval109 {n : Nat} (hn : 3 ≤ n) (x : Int × Int) (lo hi : Int) : RUN n 109 [.agg [iv x.1, iv x.2], iv lo, iv hi] = .ret (iv (ivE lo hi x)) := by
 obtain ⟨d, rfl⟩ : ∃ d, n = d + 3 := ⟨n - 3, by omega⟩
 rw [RUN, call_eq fe109 _ rfl]
 simp [c109, within108 (n := d + 2), when107 (n := d + 2), first98_3 (n := d + 2), ivE]

theorem ends103 {n : Nat} (hn : 3 ≤ n) (x : Int × Int) (lo hi : Int) : RUN n 103 [.agg [iv x.1, iv x.2], iv lo, iv hi] = .ret (iv (ivE lo hi x)) := by
 obtain ⟨d, rfl⟩ : ∃ d, n = d + 3 := ⟨n - 3, by omega⟩
 rw [RUN, call_eq fe103 _ rfl]
 simp [c103, range102 (n := d + 2), when55 (n := d + 2), first101_3 (n := d + 2), ivE]
abbrev isl (l : List Int) : AVal := .p (.sl (pI l) l.length)
abbrev csl (c : List (Int × Int)) : AVal := .p (.sl (cI c) c.length)

theorem m161 : c161 = mapC (.p (.int .i64 0)) 8 := rfl

theorem fc161 : F 161 = some (mapC (.p (.int .i64 0)) 8) := m161 ▸ fe161

theorem firstE_cons (e : Int) (r : List Int) : firstE (e :: r) = if e = 0 then firstE r else e := rfl

theorem firstE_zero {l : List Int} : firstE l = 0 ↔ ∀ e ∈ l, e = 0 := by
 induction l with
 | nil => simp [firstE]
 | cons e r ih =>
  rw [firstE_cons]
  by_cases h : e = 0 <;> simp [h, ih]

theorem max2 (a b : Int) : maxInt a [iv b] = some (max a b) := by
 simp only [maxInt]; congr 1; split <;> omega
abbrev sv (l : List UInt8) : AVal := .p (.str l)
end Fw
end

section
set_option maxHeartbeats 8000000
namespace Fw
open Go

theorem pI_map (l : List Int) (g : Int → Int) : (pI l).map (fun c => match c with | .int .i64 n => .int .i64 (g n) | c => c) = pI (l.map g) := by
 simp [pI]
theorem pI_set (l : List Int) (k : Nat) (v : Int) : (pI l).set k (.int .i64 v) = pI (l.set k v) := by
 simp [pI, List.map_set]
theorem getD_i {l : List Int} {i : Nat} (h : i < l.length) : l.getD i 0 = l[i] := by simp [List.getD_eq_getElem?_getD, List.getElem?_eq_getElem h]
theorem rangeE_zero {lo hi n : Int} : rangeE lo hi n = 0 ↔ lo ≤ n ∧ n ≤ hi := by
 unfold rangeE; split <;> omega
theorem whenE_zero {b : Bool} {e : Int} (he : e ≠ 0) : whenE b e = 0 ↔ b = false := by
 cases b <;> simp [whenE, he]
theorem ivE_zero {lo hi : Int} {x : Int × Int} : ivE lo hi x = 0 ↔ lo ≤ x.1 ∧ x.1 ≤ hi ∧ lo ≤ x.2 ∧ x.2 ≤ hi ∧ x.1 ≤ x.2 := by
 unfold ivE
 rw [firstE_zero]
 simp only [List.mem_cons, List.not_mem_nil, or_false, forall_eq_or_imp, forall_eq, rangeE_zero, whenE_zero (show (11 : Int) ≠ 0 by decide), decide_eq_false_iff_not]
 omega

theorem interval109' {n : Nat} (hn : 3 ≤ n) (a b lo hi : Int) : RUN n 109 [.agg [iv a, iv b], iv lo, iv hi] = .ret (iv (ivE lo hi (a, b))) := interval109 hn (a, b) lo hi
theorem ends103' {n : Nat} (hn : 3 ≤ n) (a b lo hi : Int) : RUN n 103 [.agg [iv a, iv b], iv lo, iv hi] = .ret (iv (ivE lo hi (a, b))) := ends103 hn (a, b) lo hi

/-! numbers in a range -/
def rangesE (lo hi : Int) (l : List Int) : Int := firstE (l.map (rangeE lo hi))
theorem rangesE_zero {lo hi : Int} {l : List Int} : rangesE lo hi l = 0 ↔ ∀ x ∈ l, lo ≤ x ∧ x ≤ hi := by
 unfold rangesE
 rw [firstE_zero]
 simp only [List.mem_map, forall_exists_index, and_imp, forall_apply_eq_imp_iff₂, rangeE_zero]

theorem range162 {n : Nat} (hn : 3 ≤ n) (x lo hi : Int) : RUN n 162 [iv x, .p (.pp [.int .i64 lo]), .p (.pp [.int .i64 hi])] = .ret (iv (rangeE lo hi x)) := by
 obtain ⟨d, rfl⟩ : ∃ d, n = d + 3 := ⟨n - 3, by omega⟩
 rw [RUN, call_eq fe162 _ rfl]
 have h := within108 (n := d + 2) (by omega) x lo hi
 simp -implicitDefEqProofs [c162, h]

theorem map161 {n : Nat} (hn : 4 ≤ n) (l : List Int) (lo hi : Int) (hl : l.length < 1000000) : RUN n 161 [isl l, .p (.clo 162 [] [.pp [.int .i64 lo], .pp [.int .i64 hi]])] = .ret (.own (pI (l.map (rangeE lo hi))) l.length 1) := by
 obtain ⟨d, rfl⟩ : ∃ d, n = d + 4 := ⟨n - 4, by omega⟩
 have := map_ok (C := C0) (G := G0) (d := d + 3) fc161 (by decide) (fun _ => rfl) (pI l) 162 [.pp [.int .i64 lo], .pp [.int .i64 hi]] (fun c => match c with | .int .i64 n => .int .i64 (rangeE lo hi n) | c => c) (by simpa using hl) (by simp) (fun c hc => by
  obtain ⟨x, hx, rfl⟩ := List.mem_map.1 hc
  refine ⟨?_, rfl⟩
  simp only [nrm_int, List.map_cons, List.map_nil]
  exact range162 (n := d + 3) (by omega) x lo hi)
 rw [pI_map, pI_length] at this
 exact this

theorem ranged122 {n : Nat} (hn : 5 ≤ n) (l : List Int) (lo hi : Int) (hl : l.length < 1000000) : RUN n 122 [isl l, iv lo, iv hi] = .ret (iv (rangesE lo hi l)) := by
 obtain ⟨d, rfl⟩ : ∃ d, n = d + 5 := ⟨n - 5, by omega⟩
 rw [RUN, call_eq fe122 _ rfl]
 have h1 := map161 (n := d + 4) (by omega) l lo hi hl
 have h2 := first98 (n := d + 4) (by omega) (l.map (rangeE lo hi)) (by simpa using hl)
 simp only [List.length_map] at h2
 simp -implicitDefEqProofs [c122, h1, h2, rangesE]

theorem ranges121 {n : Nat} (hn : 3 ≤ n) (l : List Int) (lo hi : Int) (hl : l.length < 1000000) : RUN n 121 [isl l, iv lo, iv hi] = .ret (iv (rangesE lo hi l)) := by
 obtain ⟨d, rfl⟩ : ∃ d, n = d + 3 := ⟨n - 3, by omega⟩
 rw [RUN, call_eq fe121 _ rfl]
 let inv : Nat → St := fun i => ⟨[(0, isl l), (1, iv lo), (2, iv hi), (7, iv i)], []⟩
 let e : Nat → Int := fun i => rangeE lo hi (l.getD i 0)
 have hm : rangesE lo hi l = firstE ((List.range l.length).map e) := by
  unfold rangesE
  congr 1
  refine List.ext_getElem (by simp) (fun i h1 h2 => ?_)
  have : i < l.length := by simpa using h1
  simp only [List.getElem_map, List.getElem_range, e, getD_i this]
 have key := loop_first (step := loopS (evFn F C0 G0 (d + 2)) C0 G0 0 false [0, 1, 2, 7] c121L0) inv e l.length (.exit 0, ⟨(inv l.length).env ++ [(12, .p (.bool false))], []⟩) (fun i => (.ret, ⟨[(6, iv (e i))], []⟩))
  (st0 := ⟨[(0, isl l), (1, iv lo), (2, iv hi), (7, iv 0)], []⟩) rfl (fun i hi' => by
   have hlt' : (i : Int) < l.length := by omega
   have hgo : l[i]? = some l[i] := List.getElem?_eq_getElem hi'
   have hei : e i = rangeE lo hi l[i] := by simp only [e, getD_i hi']
   have h1 := range102 (n := d + 2) (by omega) l[i] lo hi
   rw [hei]
   refine ⟨fun hz => ⟨inv (i + 1), ?_, rfl⟩, fun hz => ?_⟩
   ·simp -implicitDefEqProofs [inv, loopS_eq, c121L0, hi', hlt', h1, hz, wrap_succ (i := i) (by omega)]
   ·simp -implicitDefEqProofs [inv, loopS_eq, c121L0, hi', hlt', h1, hz]) (fun i => by simp) (by simp -implicitDefEqProofs [inv, loopS_eq, c121L0]) (by simp) (fuel := loopFuel) (by simp [loopFuel]; omega)
 simp -implicitDefEqProofs [c121]
 rw [hm]
 rcases key with ⟨k1, k2⟩ | ⟨j, hj, k1, k2, k3, _⟩
 ·rw [k1, k2]
  simp -implicitDefEqProofs [inv]
 ·rw [k1, k2]
  simp -implicitDefEqProofs

/-! tows -/
structure TowI where
 pull : List Int
 fl : Int
 fh : Int
 bl : Int
 bh : Int
 wall : Int
abbrev twc (t : TowI) : List PVal := [.sl (pI t.pull) t.pull.length, .int .i64 t.fl, .int .i64 t.fh, .int .i64 t.bl, .int .i64 t.bh, .int .i64 t.wall]
abbrev twl (t : TowI) : List AVal := [isl t.pull, iv t.fl, iv t.fh, iv t.bl, iv t.bh, iv t.wall]
abbrev twa (t : TowI) : AVal := .agg (twl t)

def towE (t : TowI) : Int := firstE [whenE ((t.pull.length : Int) == 0) 12, whenE (decide ((64 : Int) < t.pull.length)) 5, rangesE 0 100000 t.pull, ivE 0 100000 (t.fl, t.fh), ivE 0 100000 (t.bl, t.bh), rangeE 1 t.pull.length t.wall]

structure TowOk (t : TowI) : Prop where
 pos : 0 < t.pull.length
 few : t.pull.length ≤ 64
 pulls : ∀ x ∈ t.pull, 0 ≤ x ∧ x ≤ 100000
 fr : 0 ≤ t.fl ∧ t.fl ≤ t.fh ∧ t.fh ≤ 100000
 br : 0 ≤ t.bl ∧ t.bl ≤ t.bh ∧ t.bh ≤ 100000
 wl : 1 ≤ t.wall ∧ t.wall ≤ t.pull.length

theorem tow_of {t : TowI} (h : towE t = 0) : TowOk t := by
 have hz := firstE_zero.1 h
 have h1 := (whenE_zero (by decide)).1 (hz (whenE ((t.pull.length : Int) == 0) 12) (by simp))
 have h2 := (whenE_zero (by decide)).1 (hz (whenE (decide ((64 : Int) < t.pull.length)) 5) (by simp))
 have h3 := rangesE_zero.1 (hz (rangesE 0 100000 t.pull) (by simp))
 have h4 := ivE_zero.1 (hz (ivE 0 100000 (t.fl, t.fh)) (by simp))
 have h5 := ivE_zero.1 (hz (ivE 0 100000 (t.bl, t.bh)) (by simp))
 have h6 := rangeE_zero.1 (hz (rangeE 1 t.pull.length t.wall) (by simp))
 simp at h1 h2 h4 h5
 exact ⟨by
  have : t.pull.length ≠ 0 := by simpa using h1
  omega, by omega, h3, by omega, by omega, h6⟩

theorem tow40 {n : Nat} (hn : 4 ≤ n) (t : TowI) (hl : t.pull.length < 1000000) : RUN n 40 [twa t] = .ret (iv (towE t)) := by
 obtain ⟨d, rfl⟩ : ∃ d, n = d + 4 := ⟨n - 4, by omega⟩
 rw [RUN, call_eq fe40 _ rfl]
 have h1 := fun b e => when55 (n := d + 3) (by omega) b e
 have h2 := ranges121 (n := d + 3) (by omega) t.pull 0 100000 hl
 have h3 := fun a b lo hi => ends103' (n := d + 3) (by omega) a b lo hi
 have h4 := fun x lo hi => range102 (n := d + 3) (by omega) x lo hi
 have h5 := fun a b c e f g => first101 (n := d + 3) (by omega) [a, b, c, e, f, g] (by simp)
 simp only [pI, List.map_cons, List.map_nil, List.length_cons, List.length_nil] at h5
 simp -implicitDefEqProofs [c40, h1, h2, h3, h4, h5, towE]

theorem tow48 {n : Nat} (hn : 6 ≤ n) (t : TowI) (hl : t.pull.length < 1000000) : RUN n 48 [twa t] = .ret (iv (towE t)) := by
 obtain ⟨d, rfl⟩ : ∃ d, n = d + 6 := ⟨n - 6, by omega⟩
 rw [RUN, call_eq fe48 _ rfl]
 have h1 := fun b e => when107 (n := d + 5) (by omega) b e
 have h2 := ranged122 (n := d + 5) (by omega) t.pull 0 100000 hl
 have h3 := fun a b lo hi => interval109' (n := d + 5) (by omega) a b lo hi
 have h4 := fun x lo hi => within108 (n := d + 5) (by omega) x lo hi
 have h5 := fun a b => first98_2 (n := d + 5) (by omega) a b
 have h6 := fun a b c e => first98_4 (n := d + 5) (by omega) a b c e
 have hs : towE t = if firstE [whenE ((t.pull.length : Int) == 0) 12, whenE (decide ((64 : Int) < t.pull.length)) 5] = 0 then firstE [rangesE 0 100000 t.pull, ivE 0 100000 (t.fl, t.fh), ivE 0 100000 (t.bl, t.bh), rangeE 1 t.pull.length t.wall] else firstE [whenE ((t.pull.length : Int) == 0) 12, whenE (decide ((64 : Int) < t.pull.length)) 5] := by
  simp only [towE, firstE]
  by_cases q1 : whenE ((t.pull.length : Int) == 0) 12 = 0 <;> by_cases q2 : whenE (decide ((64 : Int) < t.pull.length)) 5 = 0 <;> simp [q1, q2]
 rw [hs]
 generalize hE : firstE [whenE ((t.pull.length : Int) == 0) 12, whenE (decide ((64 : Int) < t.pull.length)) 5] = e at *
 by_cases hz : e = 0
 ·simp -implicitDefEqProofs [c48, h1, h2, h3, h4, h5, h6, hE, hz]
 ·have hb : (e != 0) = true := by simpa using hz
  simp -implicitDefEqProofs [c48, h1, h5, hE, hz, hb]

/-! runs -/
def runF (t : TowI) (f : Int) : Nat → Int
 | 0 => 0
 | i + 1 => max 0 (runF t f i + t.pull.getD i 0 - f)
def runL (t : TowI) (f : Int) : List Int := (List.range (t.pull.length + 1)).map (runF t f)
@[simp] theorem runL_length (t : TowI) (f : Int) : (runL t f).length = t.pull.length + 1 := by simp [runL]
theorem runF_in {t : TowI} (h : TowOk t) {f : Int} (hf : 0 ≤ f) : ∀ i, i ≤ t.pull.length → 0 ≤ runF t f i ∧ runF t f i ≤ 100000 * (i : Int) := by
 intro i
 induction i with
 | zero => intro _; simp [runF]
 | succ i ih =>
  intro hi
  have h1 := ih (by omega)
  have h2 := h.pulls _ (List.getElem_mem (show i < t.pull.length by omega))
  simp only [runF, getD_i (show i < t.pull.length by omega)]
  omega

theorem max2' (a : Int) : maxInt 0 [iv a] = some (max 0 a) := max2 0 a

theorem run116 {n : Nat} (hn : 1 ≤ n) {t : TowI} (h : TowOk t) {f : Int} (hf : 0 ≤ f ∧ f ≤ 100000) : RUN n 116 [twa t, iv f] = .ret (.own (pI (runL t f)) (t.pull.length + 1) 1) := by
 obtain ⟨d, rfl⟩ : ∃ d, n = d + 1 := ⟨n - 1, by omega⟩
 rw [RUN, call_eq fe116 _ rfl]
 have hfew := h.few
 let L : Nat → List Int := fun i => (List.range (t.pull.length + 1)).map (fun k => if k ≤ i then runF t f k else 0)
 let inv : Nat → St := fun i => ⟨[(1, iv f), (5, .sl 1 0 0 (t.pull.length + 1)), (14, isl t.pull), (15, iv t.pull.length), (16, iv i)], [(1, .arr (pI (L i)) 0 1), (0, .box (twl t))]⟩
 have h0 : L 0 = List.replicate (t.pull.length + 1) 0 := by
  refine List.ext_getElem (by simp [L]) (fun i h1 h2 => ?_)
  simp only [L, List.getElem_map, List.getElem_range, List.getElem_replicate]
  split
  ·have : i = 0 := by omega
   subst this; rfl
  ·rfl
 have hend : L t.pull.length = runL t f := by
  refine List.map_congr_left (fun i hi => ?_)
  have := List.mem_range.1 hi
  rw [if_pos (by omega)]
 have hz : List.replicate (t.pull.length + 1) [PVal.int .i64 0] = List.replicate (t.pull.length + 1) [PVal.int .i64 0] := rfl
 have hfl : (List.replicate (t.pull.length + 1) [PVal.int .i64 0]).flatten = pI (L 0) := by
  rw [h0, List.flatten_replicate_singleton]
  simp [pI]
 have w0 := wrap64 (n := (t.pull.length : Int) + 1) (by omega) (by omega)
 have hm1 : (0 : Int) ≤ (t.pull.length : Int) + 1 := by omega
 have hm2 : (t.pull.length : Int) + 1 ≤ (lim : Int) := by simp only [lim]; omega
 have hm3 : ((t.pull.length : Int) + 1).toNat = t.pull.length + 1 := by omega
 simp -implicitDefEqProofs [c116, w0, hm1, hm2, hm3]
 rw [loop_run inv t.pull.length (e := .exit 0) (st' := ⟨(inv t.pull.length).env ++ [(17, .p (.bool false))], (inv t.pull.length).sto⟩) (by simp)]
 ·simp -implicitDefEqProofs [inv, hend]
 ·simp [inv, h0, pI]
 ·intro i hi
  have hlt' : (i : Int) < t.pull.length := by omega
  have hgo : t.pull[i]? = some t.pull[i] := List.getElem?_eq_getElem hi
  have hp := h.pulls _ (List.getElem_mem hi)
  have hb := runF_in h hf.1 i (by omega)
  have hs : runF t f (i + 1) = max 0 (runF t f i + t.pull[i] - f) := by simp only [runF, getD_i hi]
  have w1 := wrap64 (n := runF t f i + t.pull[i]) (by omega) (by omega)
  have w2 := wrap64 (n := runF t f i + t.pull[i] - f) (by omega) (by omega)
  have hlen : (L i).length = t.pull.length + 1 := by simp [L]
  have hL : (pI (L i)).set (i + 1) (.int .i64 (max 0 (runF t f i + t.pull[i] - f))) = pI (L (i + 1)) := by
   rw [← hs, pI_set]
   congr 1
   refine List.ext_getElem (by simp [L]) (fun k h1 h2 => ?_)
   simp only [List.getElem_set, L, List.getElem_map, List.getElem_range]
   by_cases hk : i + 1 = k
   ·subst hk; simp
   ·rw [if_neg hk]
    by_cases hk2 : k ≤ i
    ·rw [if_pos hk2, if_pos (by omega)]
    ·rw [if_neg hk2, if_neg (by omega)]
  have hg : ∀ q, (L i)[i]'q = runF t f i := fun q => by simp [L]
  have hi5 : (0 : Int) ≤ (i : Int) + 1 := by omega
  have hi6 : i + 1 ≤ t.pull.length := hi
  have hi3 : (i : Int) < (t.pull.length : Int) + 1 := by omega
  have hi4 : (i : Int) + 1 < (t.pull.length : Int) + 1 := by omega
  have hi1 : i + 1 < t.pull.length + 1 := by omega
  have hi2 : i < t.pull.length + 1 := by omega
  simp -implicitDefEqProofs [inv, loopS_eq, c116L0, hi, hlt', hlen, hg, w1, w2, max2', hL, hi2, hi3, hi4, hi5, hi6, wrap_succ (i := i) (by omega)]
 ·simp -implicitDefEqProofs [inv, loopS_eq, c116L0]
 ·simp [loopFuel]; omega
end Fw
end

section
set_option maxHeartbeats 8000000
namespace Fw
open Go

theorem prod_in {a b A B : Int} (ha : 0 ≤ a ∧ a ≤ A) (hb : 0 ≤ b ∧ b ≤ B) : 0 ≤ a * b ∧ a * b ≤ A * B := by
 have h1 : 0 ≤ a * b := Int.mul_nonneg ha.1 hb.1
 have h2 : a * b ≤ A * B := Int.mul_le_mul ha.2 hb.2 hb.1 (by omega)
 exact ⟨h1, h2⟩

theorem ints52 {n : Nat} (hn : 1 ≤ n) (l : List Int) (hl : l.length < 1000000) : RUN n 52 [isl l] = .ret (.own (pI l) l.length 1) := by
 obtain ⟨d, rfl⟩ : ∃ d, n = d + 1 := ⟨n - 1, by omega⟩
 rw [RUN, call_eq fe52 _ rfl]
 have hlim : l.length ≤ lim := by simp only [lim]; omega
 by_cases h : l.length = 0
 ·have : l = [] := List.eq_nil_of_length_eq_zero h
  subst this
  simp -implicitDefEqProofs [c52, lim]
 ·simp -implicitDefEqProofs [c52, hlim, h]

theorem given35 {n : Nat} (hn : 2 ≤ n) (t : TowI) (hl : t.pull.length < 1000000) : RUN n 35 [twa t] = .ret (twa t) := by
 obtain ⟨d, rfl⟩ : ∃ d, n = d + 2 := ⟨n - 2, by omega⟩
 rw [RUN, call_eq fe35 _ rfl]
 have h1 := ints52 (n := d + 1) (by omega) t.pull hl
 simp -implicitDefEqProofs [c35, h1]

def tabL (t : TowI) : List Int := (runL t t.fl).take (t.wall.toNat + 1)
theorem tabL_length {t : TowI} (h : TowOk t) : (tabL t).length = t.wall.toNat + 1 := by
 have := h.wl
 simp [tabL]; omega
theorem pI_take (l : List Int) (k : Nat) : (pI l).take k = pI (l.take k) := by simp [pI, List.map_take]

theorem table50 {n : Nat} (hn : 7 ≤ n) (t : TowI) (hl : t.pull.length < 1000000) : RUN n 50 [twa t] = .ret (if towE t = 0 then .tup [isl (tabL t), iv 0] else .tup [.p (.sl [] 0), iv (towE t)]) := by
 obtain ⟨d, rfl⟩ : ∃ d, n = d + 7 := ⟨n - 7, by omega⟩
 rw [RUN, call_eq fe50 _ rfl]
 have h0 := tow48 (n := d + 6) (by omega) t hl
 by_cases hz : towE t = 0
 ·have h := tow_of hz
  rw [if_pos hz]
  have hw := h.wl
  have hfew := h.few
  have hfr := h.fr
  have h1 := run116 (n := d + 6) (by omega) h (f := t.fl) (by omega)
  have hlen := tabL_length h
  have w := wrap64 (n := t.wall + 1) (by omega) (by omega)
  have htab : tabL t = (runL t t.fl).take (t.wall.toNat + 1) := rfl
  have b1 : t.wall + 1 ≤ (t.pull.length : Int) + 1 := by omega
  have b2 : (0 : Int) ≤ t.wall + 1 := by omega
  have hto : (t.wall + 1).toNat = t.wall.toNat + 1 := by omega
  have b3 : t.wall.toNat + 1 ≤ t.pull.length + 1 := by omega
  simp -implicitDefEqProofs [c50, h0, h1, hz, w, b1, b2, hto, hlen, pI_take, ← htab]
 ·rw [if_neg hz]
  have hb : (towE t != 0) = true := by simpa using hz
  simp -implicitDefEqProofs [c50, h0, hb]

def cellE (t : TowI) (c : Int) : Int := whenE (decide (c < 0) || decide (t.wall < c)) 10
theorem cell117 {n : Nat} (hn : 2 ≤ n) (t : TowI) (c : Int) : RUN n 117 [twa t, iv c] = .ret (iv (cellE t c)) := by
 obtain ⟨d, rfl⟩ : ∃ d, n = d + 2 := ⟨n - 2, by omega⟩
 rw [RUN, call_eq fe117 _ rfl]
 have h1 := fun b e => when107 (n := d + 1) (by omega) b e
 by_cases c1 : c < 0 <;> simp -implicitDefEqProofs [c117, h1, cellE, c1]
theorem cellE_zero {t : TowI} {c : Int} : cellE t c = 0 ↔ 0 ≤ c ∧ c ≤ t.wall := by
 unfold cellE
 rw [whenE_zero (by decide)]
 simp

def shapeE (t : TowI) (tab : List Int) : Int := whenE ((tab.length : Int) != t.wall + 1) 2
def formE (t : TowI) (tab : List Int) : Int := firstE [shapeE t tab, rangesE 0 100000000 tab]
/-! what a table says -/
def bad1 (t : TowI) (tab : List Int) (i : Nat) : Bool := decide (tab.getD (i + 1) 0 < tab.getD i 0 + t.pull.getD i 0 - t.fl)
def bad2 (t : TowI) (tab : List Int) (i : Nat) : Bool := decide ((t.wall - i) * (t.bl + t.fl) < tab.getD i 0)
def e1 (t : TowI) (tab : List Int) (k : Nat) : Int := if bad1 t tab k = true then 1 else 0
def e2 (t : TowI) (tab : List Int) (k : Nat) : Int := if bad2 t tab k = true then 1 else 0
def e3 (t : TowI) (tab : List Int) (cell : Int) : Nat → Int
 | 0 => if (decide (0 ≤ cell) && bad2 t tab 0) = true then 19 else 0
 | k + 1 => if (bad1 t tab k || (decide (((k + 1 : Nat) : Int) ≤ cell) && bad2 t tab (k + 1))) = true then 19 else 0
def provB (t : TowI) (tab : List Int) (c : Nat) : Bool := decide (firstE ((List.range (tab.length - 1)).map (e1 t tab)) = 0) && decide (firstE ((List.range (c + 1)).map (e2 t tab)) = 0)

theorem firstE_19 {l : List Int} (h : ∀ x ∈ l, x = 0 ∨ x = 19) : firstE l = 0 ∨ firstE l = 19 := by
 induction l with
 | nil => exact .inl rfl
 | cons x r ih =>
  rw [firstE_cons]
  split
  ·exact ih (fun y hy => h y (by simp [hy]))
  ·exact h x (by simp)

theorem prov_eq {t : TowI} {tab : List Int} {c : Nat} (hc : c < tab.length) : firstE ((List.range tab.length).map (e3 t tab c)) = whenE (!provB t tab c) 19 := by
 have hv : ∀ x ∈ (List.range tab.length).map (e3 t tab c), x = 0 ∨ x = 19 := by
  intro x hx
  obtain ⟨i, _, rfl⟩ := List.mem_map.1 hx
  cases i <;> simp only [e3] <;> split <;> simp
 have hiff : firstE ((List.range tab.length).map (e3 t tab c)) = 0 ↔ provB t tab c = true := by
  simp only [provB, Bool.and_eq_true, decide_eq_true_eq, firstE_zero, List.mem_map, List.mem_range, forall_exists_index, and_imp, forall_apply_eq_imp_iff₂]
  constructor
  ·intro h
   refine ⟨fun k hk => ?_, fun k hk => ?_⟩
   ·have := h (k + 1) (by omega)
    simp only [e3] at this
    unfold e1
    split
    ·rename_i hb; rw [hb] at this; simp at this
    ·rfl
   ·have := h k (by omega)
    unfold e2
    split
    ·rename_i hb
     cases k with
     | zero => simp [e3, hb] at this
     | succ k =>
      have hle : (((k + 1 : Nat) : Int)) ≤ (c : Int) := by omega
      simp only [e3, hb, decide_eq_true hle, Bool.and_true, Bool.or_true, if_true] at this
      cases this
    ·rfl
  ·rintro ⟨h1, h2⟩ i hi
   cases i with
   | zero =>
    simp only [e3]
    have := h2 0 (by omega)
    unfold e2 at this
    split
    ·rename_i hb
     simp only [Bool.and_eq_true] at hb
     rw [if_pos hb.2] at this; cases this
    ·rfl
   | succ k =>
    simp only [e3]
    split
    ·rename_i hb
     simp only [Bool.or_eq_true, Bool.and_eq_true, decide_eq_true_eq] at hb
     rcases hb with hb | ⟨hb1, hb2⟩
     ·have := h1 k (by omega)
      unfold e1 at this
      rw [if_pos hb] at this; cases this
     ·have := h2 (k + 1) (by omega)
      unfold e2 at this
      rw [if_pos hb2] at this; cases this
    ·rfl
 cases hp : provB t tab c with
 | true => rw [hiff.2 hp]; rfl
 | false =>
  rcases firstE_19 hv with h | h
  ·rw [hiff.1 h] at hp; cases hp
  ·rw [h]; rfl

structure TabOk (t : TowI) (tab : List Int) : Prop where
 len : tab.length = t.wall.toNat + 1
 all : ∀ x ∈ tab, 0 ≤ x ∧ x ≤ 100000000
theorem tab_of {t : TowI} (h : TowOk t) {tab : List Int} (hf : formE t tab = 0) : TabOk t tab := by
 have hz := firstE_zero.1 hf
 have h1 := (whenE_zero (by decide)).1 (hz (shapeE t tab) (by simp))
 have h2 := rangesE_zero.1 (hz (rangesE 0 100000000 tab) (by simp))
 have hw := h.wl
 simp at h1
 exact ⟨by omega, h2⟩

def cellsE (t : TowI) (tab : List Int) (cell : Int) : Int := firstE [shapeE t tab, rangesE 0 100000000 tab, cellE t cell]
def checkE (t : TowI) (tab : List Int) (cell : Int) : Int := if towE t = 0 then (if cellsE t tab cell = 0 then whenE (!provB t tab cell.toNat) 19 else cellsE t tab cell) else towE t

theorem check51 {n : Nat} (hn : 7 ≤ n) (t : TowI) (hl : t.pull.length < 1000000) (tab : List Int) (htl : tab.length < 1000000) (cell : Int) : RUN n 51 [twa t, isl tab, iv cell] = .ret (iv (checkE t tab cell)) := by
 obtain ⟨d, rfl⟩ : ∃ d, n = d + 7 := ⟨n - 7, by omega⟩
 rw [RUN, call_eq fe51 _ rfl]
 have h0 := tow48 (n := d + 6) (by omega) t hl
 by_cases hz : towE t = 0
 ·have h := tow_of hz
  have hw := h.wl
  have hfew := h.few
  have hfr := h.fr
  have hbr := h.br
  have h1 := fun b e => when107 (n := d + 6) (by omega) b e
  have h2 := ranged122 (n := d + 6) (by omega) tab 0 100000000 htl
  have h3 := cell117 (n := d + 6) (by omega) t cell
  have h4 := fun a b c => first98_3 (n := d + 6) (by omega) a b c
  have w := wrap64 (n := t.wall + 1) (by omega) (by omega)
  have hsh : whenE ((tab.length : Int) != t.wall + 1) 2 = shapeE t tab := rfl
  have hce : firstE [shapeE t tab, rangesE 0 100000000 tab, cellE t cell] = cellsE t tab cell := rfl
  unfold checkE
  rw [if_pos hz]
  by_cases hc : cellsE t tab cell = 0
  ·rw [if_pos hc]
   have hzz := firstE_zero.1 hc
   have ht : TabOk t tab := tab_of h (firstE_zero.2 (fun e he => by
    simp at he
    rcases he with rfl | rfl
    ·exact hzz (shapeE t tab) (by simp)
    ·exact hzz (rangesE 0 100000000 tab) (by simp)))
   have hcl := cellE_zero.1 (hzz (cellE t cell) (by simp))
   obtain ⟨c, rfl⟩ : ∃ c : Nat, cell = c := ⟨cell.toNat, by omega⟩
   have hlen := ht.len
   rw [Int.toNat_natCast, ← prov_eq (by omega)]
   let B : Sto := [(0, .box (twl t))]
   let inv : Nat → St := fun i => ⟨[(1, isl tab), (2, iv c), (3, .ptr 0 0 0), (33, isl tab), (34, iv tab.length), (35, iv i)], B⟩
   have key := loop_first (step := loopS (evFn F C0 G0 (d + 6)) C0 G0 0 false [1, 2, 3, 33, 34, 35] c51L0) inv (e3 t tab c) tab.length (.exit 0, ⟨(inv tab.length).env ++ [(36, .p (.bool false))], B⟩) (fun i => (.ret, ⟨[(6, iv (e3 t tab c i))], B⟩))
    (st0 := ⟨[(1, isl tab), (2, iv c), (3, .ptr 0 0 0), (33, isl tab), (34, iv tab.length), (35, iv 0)], B⟩) rfl (fun i hi => by
     have hlt' : (i : Int) < tab.length := by omega
     have gi : tab[i]? = some tab[i] := List.getElem?_eq_getElem hi
     have qi := ht.all _ (List.getElem_mem hi)
     have w1 := wrap64 (n := t.wall - i) (by omega) (by omega)
     have w2 := wrap64 (n := t.bl + t.fl) (by omega) (by omega)
     have pr := prod_in (a := t.wall - i) (b := t.bl + t.fl) (A := 64) (B := 200000) (by omega) (by omega)
     have w4 := wrap64 (n := (t.wall - i) * (t.bl + t.fl)) (by omega) (by omega)
     have hws := wrap_succ (i := i) (by omega)
     have hb2 : bad2 t tab i = decide ((t.wall - i) * (t.bl + t.fl) < tab[i]) := by simp only [bad2, getD_i hi]
     cases i with
     | zero =>
      have hc0 : (0 : Int) ≤ c := by omega
      simp only [e3, hb2, decide_eq_true hc0, Bool.true_and]
      simp only [Int.natCast_zero, Int.sub_zero] at w1 w4
      by_cases hx : t.wall * (t.bl + t.fl) < tab[0]
      ·refine ⟨fun hz => by simp [hx] at hz, fun _ => ?_⟩
       simp -implicitDefEqProofs [inv, B, loopS_eq, c51L0, hi, w1, w2, w4, hx, hc0]
      ·have hw1 : IntKind.i64.wrap 1 = 1 := wrap64 (by decide) (by decide)
       refine ⟨fun _ => ⟨inv 1, ?_, rfl⟩, fun hz => by simp [hx] at hz⟩
       simp -implicitDefEqProofs [inv, B, loopS_eq, c51L0, hi, w1, w2, w4, hx, hc0, hw1]
     | succ k =>
      have hk2 : k < tab.length := by omega
      have hk3 : k < t.pull.length := by omega
      have hlt2 : (k : Int) < tab.length := by omega
      have hlt3 : (k : Int) < t.pull.length := by omega
      have g2 : tab[k]? = some tab[k] := List.getElem?_eq_getElem hk2
      have g3 : t.pull[k]? = some t.pull[k] := List.getElem?_eq_getElem hk3
      have q2 := ht.all _ (List.getElem_mem hk2)
      have q3 := h.pulls _ (List.getElem_mem hk3)
      have hb1 : bad1 t tab k = decide (tab[k + 1] < tab[k] + t.pull[k] - t.fl) := by simp only [bad1, getD_i hi, getD_i hk2, getD_i hk3]
      have v0 := wrap64 (n := (k : Int)) (by omega) (by omega)
      have v1 := wrap64 (n := tab[k] + t.pull[k]) (by omega) (by omega)
      have v2 := wrap64 (n := tab[k] + t.pull[k] - t.fl) (by omega) (by omega)
      have hpos : (0 : Int) < (k : Int) + 1 := by omega
      have hpos' : (0 : Int) ≤ (k : Int) + 1 := by omega
      simp only [e3, hb1, hb2]
      push_cast at w1 w4 hws hlt' ⊢
      by_cases hx : tab[k + 1] < tab[k] + t.pull[k] - t.fl
      ·refine ⟨fun hz => by simp [hx] at hz, fun _ => ?_⟩
       simp -implicitDefEqProofs [inv, B, loopS_eq, c51L0, hi, hlt', hk2, hk3, hlt2, hlt3, v0, v1, v2, hpos, hpos', hx]
      ·by_cases hcc : (k : Int) + 1 ≤ c
       ·by_cases hy : (t.wall - ((k : Int) + 1)) * (t.bl + t.fl) < tab[k + 1]
        ·refine ⟨fun hz => by simp [hcc, hy] at hz, fun _ => ?_⟩
         simp -implicitDefEqProofs [inv, B, loopS_eq, c51L0, hi, hlt', hk2, hk3, hlt2, hlt3, v0, v1, v2, hpos, hpos', hx, hcc, w1, w2, w4, hy]
        ·refine ⟨fun _ => ⟨inv (k + 1 + 1), ?_, rfl⟩, fun hz => by simp [hx, hy] at hz⟩
         simp -implicitDefEqProofs [inv, B, loopS_eq, c51L0, hi, hlt', hk2, hk3, hlt2, hlt3, v0, v1, v2, hpos, hpos', hx, hcc, w1, w2, w4, hy, hws]
       ·refine ⟨fun _ => ⟨inv (k + 1 + 1), ?_, rfl⟩, fun hz => by simp [hx, hcc] at hz⟩
        simp -implicitDefEqProofs [inv, B, loopS_eq, c51L0, hi, hlt', hk2, hk3, hlt2, hlt3, v0, v1, v2, hpos, hpos', hx, hcc, hws]) (fun i => by simp) (by simp -implicitDefEqProofs [inv, B, loopS_eq, c51L0]) (by simp) (fuel := loopFuel) (by simp [loopFuel]; omega)
   simp only [B] at key
   simp -implicitDefEqProofs [c51, h0, hz, h1, h2, h3, h4, w, hsh, hce, hc]
   rcases key with ⟨k1, k2⟩ | ⟨j, hj, k1, k2, k3, _⟩
   ·rw [k1, k2]
    simp -implicitDefEqProofs [inv]
   ·rw [k1, k2]
    simp -implicitDefEqProofs
  ·rw [if_neg hc]
   have hb : (cellsE t tab cell != 0) = true := by simpa using hc
   simp -implicitDefEqProofs [c51, h0, hz, h1, h2, h3, h4, w, hsh, hce, hb]
 ·have hb : (towE t != 0) = true := by simpa using hz
  simp -implicitDefEqProofs [c51, h0, hb, checkE, hz]
end Fw
end

