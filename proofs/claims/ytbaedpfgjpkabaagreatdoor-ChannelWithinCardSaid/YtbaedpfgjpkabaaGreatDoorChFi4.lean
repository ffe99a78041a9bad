/- Filled records: the program's. -/
import Derived.Test.YtbaedpfgjpkabaaGreatDoorChFi3
import Derived.Test.YtbaedpfgjpkabaaGreatDoorChN2
set_option maxHeartbeats 8000000
namespace Fw
open Go
attribute [local irreducible] evCode evOps evOpsD evOper evOperD evOp evFn loopN T.All T.bind callPure callOp opsK opsDK restK seqK blockK loopS setK setQ giveK scalK gcK finish finS rfunK yldK yldB loopK

def mL (g : List (Int × Int)) (n : Nat) : List Bool := (List.range n).map fun (j : Nat) => mis g (j : Int)
@[simp] theorem mL_length (g : List (Int × Int)) (n : Nat) : (mL g n).length = n := by simp [mL]
theorem mL_getD (g : List (Int × Int)) (n j : Nat) (h : j < n) : (mL g n).getD j true = mis g (j : Int) := by simp [mL, List.getD_eq_getElem?_getD, h]
/-- the flags while a gap is filled in, up to an index -/
def flg (g : List (Int × Int)) (a t n : Nat) : List Bool := (List.range n).map fun (j : Nat) => mis g (j : Int) || (decide (a ≤ j) && decide (j < t))
@[simp] theorem flg_length (g : List (Int × Int)) (a t n : Nat) : (flg g a t n).length = n := by simp [flg]
theorem flg_start (g : List (Int × Int)) (a n : Nat) : flg g a a n = mL g n := by
  unfold flg mL
  refine List.map_congr_left fun j _ => ?_
  have : (decide (a ≤ j) && decide (j < a)) = false := by
    by_cases h : a ≤ j
    · simp [h]
    · simp [h]
  rw [this, Bool.or_false]
theorem flg_set (g : List (Int × Int)) (a t n : Nat) (h : a ≤ t) : (flg g a t n).set t true = flg g a (t + 1) n := by
  refine List.ext_getElem (by simp) fun j h1 h2 => ?_
  simp only [flg, List.getElem_set, List.getElem_map, List.getElem_range]
  by_cases e : t = j
  · subst e; simp [h]
  · have : (j < t) = (j < t + 1) := by apply propext; omega
    simp [e, this]
theorem flg_end (g : List (Int × Int)) (k n : Nat) (hk : k < g.length) {a b : Nat} (h : g[k] = ((a : Int), (b : Int))) : flg (g.take k) a b n = mL (g.take (k + 1)) n := by
  unfold flg mL
  refine List.map_congr_left fun j _ => ?_
  rw [List.take_add_one, List.getElem?_eq_getElem hk, h]
  simp only [mis, Option.toList_some, List.any_append, List.any_cons, List.any_nil, Bool.or_false]
  congr 2
  · simp
  · simp

structure GapOk (g : List (Int × Int)) (n : Nat) : Prop where
  few : g.length ≤ 32
  gin : ∀ x ∈ g, 0 ≤ x.1 ∧ x.1 < x.2 ∧ x.2 ≤ n
theorem gap_of {g : List (Int × Int)} {n : Nat} (h : gapE g n = 0) : GapOk g n := by
  unfold gapE at h
  split at h
  · cases h
  · refine ⟨by omega, fun x hx => ?_⟩
    obtain ⟨i, hi, rfl⟩ := List.mem_iff_getElem.1 hx
    have h1 := firstE_zero.1 h _ (List.getElem_mem (l := gapL g n) (n := i) (by simpa using hi))
    rw [gapL_get] at h1
    have h2 := firstE_zero.1 h1 (whenE (gbad n g[i]) 14) (by simp)
    have h3 : gbad n g[i] = false := by
      cases hb : gbad n g[i]
      · rfl
      · rw [hb] at h2; cases h2
    simp only [gbad, Bool.or_eq_false_iff, decide_eq_false_iff_not] at h3
    omega

section
variable {d : Nat}
theorem flags_in (l : List Nat) (r : Int) (g gk : List (Int × Int)) (k a b n : Nat) (hab : a ≤ b) (hb : b ≤ n) (hn : n < 1000000) :
    loopN (loopS (evFn F C0 G0 d) C0 G0 0 false [0, 2, 9, 11, 12, 37, 38, 39] c65L0) loopFuel ⟨[(0, fsl l), (2, iv r), (9, .sl 0 0 0 n), (11, .ptr 1 0 0), (12, iv a), (37, csl g), (38, iv g.length), (39, iv k)], [(1, .arr [.int .i64 a, .int .i64 b] 0 1), (0, .arr (pB (mL gk n)) 0 1)]⟩ =
    .ret (.exit 2, ⟨[(0, fsl l), (2, iv r), (9, .sl 0 0 0 n), (11, .ptr 1 0 0), (12, iv b), (37, csl g), (38, iv g.length), (39, iv k), (48, .p (.bool false))], [(1, .arr [.int .i64 a, .int .i64 b] 0 1), (0, .arr (pB (flg gk a b n)) 0 1)]⟩) := by
  let inv : Nat → St := fun t => ⟨[(0, fsl l), (2, iv r), (9, .sl 0 0 0 n), (11, .ptr 1 0 0), (12, iv (a + t : Nat)), (37, csl g), (38, iv g.length), (39, iv k)], [(1, .arr [.int .i64 a, .int .i64 b] 0 1), (0, .arr (pB (flg gk a (a + t) n)) 0 1)]⟩
  rw [← flg_start gk a n]
  refine loop_run inv (b - a) (by simp) (by rfl) ?_ ?_ (by simp [loopFuel]; omega)
  · intro t ht
    have w := wrap_succ (i := a + t) (by omega)
    have hlt : ((a + t : Nat) : Int) < (b : Int) := by omega
    have hs := flg_set gk a (a + t) n (by omega)
    have hj : a + t < n := by omega
    have hj1 : a + t + 1 ≤ n := by omega
    have hl := flg_length gk a (a + t) n
    simp only [inv, ← Nat.add_assoc]
    rw [← hs, Int.natCast_add (a + t) 1]
    generalize hz : a + t = z at *
    generalize flg gk a z n = A at *
    simp -implicitDefEqProofs [loopS_eq, c65L0, hlt, hj, hj1, hl, w, pB_set]
  · have e : a + (b - a) = b := by omega
    simp only [inv, e]
    simp -implicitDefEqProofs [loopS_eq, c65L0]

theorem flags_out (l : List Nat) (r : Int) (g : List (Int × Int)) (n : Nat) (hg : GapOk g n) (hn : n < 1000000) :
    loopN (loopS (evFn F C0 G0 d) C0 G0 0 true [0, 2, 9, 37, 38, 39] c65L1) loopFuel ⟨[(0, fsl l), (2, iv r), (9, .sl 0 0 0 n), (37, csl g), (38, iv g.length), (39, .p (.int .i64 0))], [(0, .arr (pB (mL [] n)) 0 1)]⟩ =
    .ret (.exit 0, ⟨[(0, fsl l), (2, iv r), (9, .sl 0 0 0 n), (37, csl g), (38, iv g.length), (39, iv g.length), (40, .p (.bool false))], [(0, .arr (pB (mL g n)) 0 1)]⟩) := by
  have hfew := hg.few
  let inv : Nat → St := fun k => ⟨[(0, fsl l), (2, iv r), (9, .sl 0 0 0 n), (37, csl g), (38, iv g.length), (39, iv k)], [(0, .arr (pB (mL (g.take k) n)) 0 1)]⟩
  refine loop_run' inv g.length (by simp) (by rfl) ?_ ?_ (by simp [loopFuel]; omega)
  · intro k hk
    obtain ⟨x0, x1, x2⟩ := hg.gin _ (List.getElem_mem hk)
    have w := wrap_succ (i := k) (by omega)
    have hdr := cI_drop g k hk
    have hlt : k * 2 < g.length * 2 := by omega
    have hgk : g[k] = ((g[k].1.toNat : Int), (g[k].2.toNat : Int)) := Prod.ext (by simp only; omega) (by simp only; omega)
    have hin := flags_in (d := d) l r g (g.take k) k g[k].1.toNat g[k].2.toNat n (by omega) (by omega) hn
    rw [flg_end g k n hk hgk] at hin
    have h1 : ((g[k].1.toNat : Nat) : Int) = g[k].1 := by omega
    have h2 : ((g[k].2.toNat : Nat) : Int) = g[k].2 := by omega
    rw [h1, h2] at hin
    simp only [inv]
    generalize mL (g.take (k + 1)) n = M1 at *
    generalize mL (g.take k) n = M0 at *
    generalize cI (g.drop (k + 1)) = R at *
    generalize hA : cI g = A at *
    have hAl : A.length = g.length * 2 := by rw [← hA]; simp
    generalize g[k] = x at *
    obtain ⟨a, b⟩ := x
    simp only at hdr hin
    refine ⟨⟨[(0, fsl l), (2, iv r), (9, .sl 0 0 0 n), (37, csl g), (38, iv g.length), (39, iv ((k : Int) + 1))], [(1, .arr [.int .i64 a, .int .i64 b] 0 1), (0, .arr (pB M1) 0 1)]⟩, ?_, ?_⟩
    · simp -implicitDefEqProofs [loopS_eq, c65L1, hk, hA, hAl, hlt, hdr, hin, w]
    · exact loopS_same rfl (by simp)
  · have e : g.take g.length = g := List.take_of_length_le (by omega)
    simp only [inv, e]
    simp -implicitDefEqProofs [loopS_eq, c65L1]
end
end Fw
