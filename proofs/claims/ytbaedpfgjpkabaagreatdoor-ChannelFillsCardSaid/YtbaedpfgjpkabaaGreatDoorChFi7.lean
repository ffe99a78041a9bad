/- Filled records: the reference's function. -/
import Derived.Test.YtbaedpfgjpkabaaGreatDoorChFi6
set_option maxHeartbeats 8000000
namespace Fw
open Go
attribute [local irreducible] evCode evOps evOpsD evOper evOperD evOp evFn loopN T.All T.bind callPure callOp opsK opsDK restK seqK blockK loopS setK setQ giveK scalK gcK finish finS rfunK yldK yldB loopK

/-- the interval at an index, behind some of the samples -/
def refX (g : List (Int × Int)) (u : List Int) (r : Int) (i : Nat) : Nat → Int × Int
  | 0 => (-16384, 16384)
  | k + 1 => if mis g (k : Int) = true then refX g u r i k else if btw g (min i k) (max i k) = true then nar u r i (refX g u r i k) k else refX g u r i k
def somK (g : List (Int × Int)) (k : Nat) : Bool := (List.range k).any fun j => !mis g (j : Int)
theorem somK_succ (g : List (Int × Int)) (k : Nat) : somK g (k + 1) = (somK g k || !mis g (k : Int)) := by simp [somK, List.range_succ]

theorem btw_iff (g : List (Int × Int)) (i k : Nat) : btw g i k = true ↔ ∀ j : Nat, i < j → j < k → mis g (j : Int) = true := by
  simp only [btw, List.all_eq_true, List.mem_range]
  constructor
  · intro h j h1 h2
    have := h (j - (i + 1)) (by omega)
    rwa [show i + 1 + (j - (i + 1)) = j by omega] at this
  · intro h t ht
    exact h _ (by omega) (by omega)

theorem refX_eq (g : List (Int × Int)) (u : List Int) (r : Int) (i n : Nat) (hi : i < n) (hm : mis g (i : Int) = true) : refX g u r i n = fiY (mL g n) u r i := by
  have sl := lft_spec (mL g n) i (by simpa using hi)
  have sr := rgt_spec (mL g n) i (by simpa using hi)
  rw [mL_length] at sr
  have hD := mL_getD g n
  have none : ∀ (x : Int × Int), nar u r i x (-1) = x := fun x => by rw [nar, if_neg (by omega)]
  unfold fiY
  -- the state behind k samples
  have key : ∀ k, k ≤ n → refX g u r i k = nar u r i (nar u r i (-16384, 16384) (if lft (mL g n) i < k then lft (mL g n) i else -1)) (if rgt (mL g n) i < k then rgt (mL g n) i else -1) := by
    intro k
    induction k with
    | zero =>
      intro _
      have h1 : (if lft (mL g n) i < ((0 : Nat) : Int) then lft (mL g n) i else -1) = -1 := by
        rcases sl with ⟨e, _⟩ | ⟨k, e, _⟩
        · rw [e]; rfl
        · rw [e, if_neg (by omega)]
      have h2 : (if rgt (mL g n) i < ((0 : Nat) : Int) then rgt (mL g n) i else -1) = -1 := by
        rcases sr with ⟨e, _⟩ | ⟨k, e, _⟩
        · rw [e]; rfl
        · rw [e, if_neg (by omega)]
      rw [h1, h2, none, none]; rfl
    | succ k ih =>
      intro hk
      have := ih (by omega)
      rw [refX, this]
      by_cases mk : mis g (k : Int) = true
      · rw [if_pos mk]
        have h1 : (if lft (mL g n) i < ((k + 1 : Nat) : Int) then lft (mL g n) i else -1) = (if lft (mL g n) i < (k : Int) then lft (mL g n) i else -1) := by
          rcases sl with ⟨e, _⟩ | ⟨q, e, q1, q2, _⟩
          · simp [e]
          · have hqk : q ≠ k := fun h => by subst h; rw [hD _ (by omega), mk] at q2; cases q2
            rw [e]
            by_cases h : q < k
            · rw [if_pos (by omega), if_pos (by omega)]
            · rw [if_neg (by omega), if_neg (by omega)]
        have h2 : (if rgt (mL g n) i < ((k + 1 : Nat) : Int) then rgt (mL g n) i else -1) = (if rgt (mL g n) i < (k : Int) then rgt (mL g n) i else -1) := by
          rcases sr with ⟨e, _⟩ | ⟨q, e, q1, q2, q3, _⟩
          · simp [e]
          · have hqk : q ≠ k := fun h => by subst h; rw [hD _ (by omega), mk] at q3; cases q3
            rw [e]
            by_cases h : q < k
            · rw [if_pos (by omega), if_pos (by omega)]
            · rw [if_neg (by omega), if_neg (by omega)]
        rw [h1, h2]
      · rw [if_neg mk]
        have hki : k ≠ i := fun h => by subst h; exact mk hm
        rcases Nat.lt_or_gt_of_ne hki with hlt | hgt
        · -- to the left
          have hmin : min i k = k := by omega
          have hmax : max i k = i := by omega
          have hrg : ∀ q : Int, (rgt (mL g n) i < q → q ≤ k + 1 → rgt (mL g n) i = -1) := fun q h1 h2 => by
            rcases sr with ⟨e, _⟩ | ⟨q', e, q1, _⟩
            · exact e
            · rw [e] at h1; omega
          have h2 : ∀ q : Int, q ≤ k + 1 → (if rgt (mL g n) i < q then rgt (mL g n) i else -1) = -1 := fun q hq => by
            by_cases h : rgt (mL g n) i < q
            · rw [if_pos h]; exact hrg q h hq
            · rw [if_neg h]
          rw [h2 _ (by omega), h2 _ (by omega), none, none, hmin, hmax]
          rcases sl with ⟨e, el⟩ | ⟨q, e, q1, q2, q3⟩
          · exact absurd (by rw [← hD k (by omega)]; exact el k (by omega)) mk
          · rw [e]
            by_cases hb : btw g k i = true
            · rw [if_pos hb]
              have hqk : q = k := by
                rcases Nat.lt_trichotomy q k with h | h | h
                · exact absurd (by rw [← hD k (by omega)]; exact q3 k h (by omega)) mk
                · exact h
                · have hmi : q ≠ i := fun h' => by subst h'; rw [hD _ (by omega), hm] at q2; cases q2
                  have := (btw_iff g k i).1 hb q h (by omega)
                  rw [hD _ (by omega), this] at q2; cases q2
              subst hqk
              rw [if_neg (by omega), if_pos (by omega), none]
            · rw [if_neg hb]
              have hqk : k < q := by
                rcases Nat.lt_trichotomy q k with h | h | h
                · exact absurd (by rw [← hD k (by omega)]; exact q3 k h (by omega)) mk
                · subst h
                  exact absurd ((btw_iff g q i).2 fun j j1 j2 => by rw [← hD j (by omega)]; exact q3 j j1 (by omega)) hb
                · exact h
              rw [if_neg (by omega), if_neg (by omega)]
        · -- to the right
          have hmin : min i k = i := by omega
          have hmax : max i k = k := by omega
          have h1 : ∀ q : Int, (k : Int) ≤ q → (if lft (mL g n) i < q then lft (mL g n) i else -1) = lft (mL g n) i := fun q hq => by
            rcases sl with ⟨e, _⟩ | ⟨q', e, q1, _⟩
            · simp [e]
            · rw [e, if_pos (by omega)]
          rw [h1 _ (by omega), h1 _ (by omega), hmin, hmax]
          rcases sr with ⟨e, el⟩ | ⟨q, e, q1, q2, q3, q4⟩
          · exact absurd (by rw [← hD k (by omega)]; exact el k (by omega) (by omega)) mk
          · rw [e]
            by_cases hb : btw g i k = true
            · rw [if_pos hb]
              have hqk : q = k := by
                rcases Nat.lt_trichotomy q k with h | h | h
                · have hmi : q ≠ i := fun h' => by subst h'; rw [hD _ (by omega), hm] at q3; cases q3
                  have := (btw_iff g i k).1 hb q (by omega) h
                  rw [hD _ (by omega), this] at q3; cases q3
                · exact h
                · exact absurd (by rw [← hD k (by omega)]; exact q4 k (by omega) h) mk
              subst hqk
              rw [if_neg (by omega), if_pos (by omega), none]
            · rw [if_neg hb]
              have hqk : q < k := by
                rcases Nat.lt_trichotomy q k with h | h | h
                · exact h
                · subst h
                  exact absurd ((btw_iff g i q).2 fun j j1 j2 => by rw [← hD j (by omega)]; exact q4 j (by omega) j2) hb
                · exact absurd (by rw [← hD k (by omega)]; exact q4 k (by omega) h) mk
              rw [if_pos (by omega), if_pos (by omega)]
  rw [key n (Nat.le_refl _)]
  have h1 : (if lft (mL g n) i < (n : Int) then lft (mL g n) i else -1) = lft (mL g n) i := by
    rcases sl with ⟨e, _⟩ | ⟨q, e, q1, _⟩
    · simp [e]
    · rw [e, if_pos (by omega)]
  have h2 : (if rgt (mL g n) i < (n : Int) then rgt (mL g n) i else -1) = rgt (mL g n) i := by
    rcases sr with ⟨e, _⟩ | ⟨q, e, _, q1, _⟩
    · simp [e]
    · rw [e, if_pos (by omega)]
  rw [h1, h2]

theorem fiY_known (g : List (Int × Int)) (u : List Int) (r : Int) (i n : Nat) (hi : i < n) (hm : mis g (i : Int) = false) (hu : -16384 ≤ u.getD i 0 ∧ u.getD i 0 ≤ 16384) : fiY (mL g n) u r i = (u.getD i 0, u.getD i 0) := by
  have hD := mL_getD g n i hi
  rw [hm] at hD
  have el : lft (mL g n) i = i := by
    rcases lft_spec (mL g n) i (by simpa using hi) with ⟨_, e⟩ | ⟨q, e, q1, q2, q3⟩
    · have := e i (Nat.le_refl _); rw [hD] at this; cases this
    · rcases Nat.lt_or_eq_of_le q1 with h | h
      · have := q3 i h (Nat.le_refl _); rw [hD] at this; cases this
      · rw [e, h]
  have er : rgt (mL g n) i = i := by
    rcases rgt_spec (mL g n) i (by simpa using hi) with ⟨_, e⟩ | ⟨q, e, q1, _, q2, q3⟩
    · have := e i (Nat.le_refl _) (by simpa using hi); rw [hD] at this; cases this
    · rcases Nat.lt_or_eq_of_le q1 with h | h
      · have := q3 i (Nat.le_refl _) h; rw [hD] at this; cases this
      · rw [e, h]
  have hz : max ((i : Int) - i) ((i : Int) - i) = 0 := by omega
  unfold fiY
  rw [el, er]
  have hp : (0 : Int) ≤ i := by omega
  simp only [nar, Int.toNat_natCast, hz, Int.mul_zero, Int.sub_zero, Int.add_zero, if_pos hp]
  refine Prod.ext ?_ ?_
  · simp only; omega
  · simp only; omega
end Fw
