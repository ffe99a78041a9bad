/- Tests in balance, and the cells that explain one that is not: the chapter's and the reference's. -/
import Derived.Test.YtfkacogfieiccaaGreatDoorBaW3
import Derived.Test.YtfkacogfieiccaaGreatDoorBaP3
set_option maxHeartbeats 8000000
namespace Fw
open Go
attribute [local irreducible] evCode evOps evOpsD evOper evOperD evOp evFn loopN T.All T.bind callPure callOp opsK opsDK restK seqK blockK loopS setK setQ giveK scalK gcK finish finS rfunK yldK yldB loopK

def testE (l : List PartI) (w : List LoadI) : Int := firstE [partsE l, wallE w]
theorem test125 {n : Nat} (hn : 8 ≤ n) (l : List PartI) (hl : l.length < 1000000) (h40 : ∀ i, (hi : i < l.length) → l[i].name.length ≤ 40) (w : List LoadI) (hw : w.length < 1000000) (hw40 : ∀ i, (hi : i < w.length) → w[i].name.length ≤ 40 ∧ w[i].s.length ≤ 65) : RUN n 125 [ptl l, lol w] = .ret (iv (testE l w)) := by
  obtain ⟨d, rfl⟩ : ∃ d, n = d + 8 := ⟨n - 8, by omega⟩
  rw [RUN, call_eq fe125 _ rfl]
  have h0 := check71 (n := d + 7) (by omega) l hl h40
  have h1 := check82 (n := d + 7) (by omega) w hw hw40
  have h2 := first98_2 (n := d + 7) (by omega) (partsE l) (wallE w)
  rw [show firstE [partsE l, wallE w] = testE l w from rfl] at h2
  simp -implicitDefEqProofs [c125, h0, h1, h2]
theorem test_zero {l : List PartI} {w : List LoadI} (h : testE l w = 0) : partsE l = 0 ∧ wallE w = 0 := by
  have h := firstE_zero.1 h
  exact ⟨h _ (by simp), h _ (by simp)⟩

def balB (l : List PartI) (w : List LoadI) : Bool := meetB (-(chgI l).2) (-(chgI l).1) (tot (impL w)).1 (tot (impL w)).2
theorem totI_in {w : List LoadI} (h : WallOk w) : InB 204800000000 (tot (impL w)) := by
  have h1 := tot_in (B := 12800000000) (impL_in h)
  have h2 := h.len
  rw [impL_length] at h1
  unfold InB at *
  omega
theorem impL_big {w : List LoadI} (h : WallOk w) : ∀ x ∈ impL w, InB 1000000000000000 x := fun x hx => by
  have := impL_in h x hx
  unfold InB at *
  omega

theorem balanced62 {n : Nat} (hn : 9 ≤ n) (l : List PartI) (hl : l.length < 1000000) (h40 : ∀ i, (hi : i < l.length) → l[i].name.length ≤ 40) (w : List LoadI) (hw : w.length < 1000000) (hw40 : ∀ i, (hi : i < w.length) → w[i].name.length ≤ 40 ∧ w[i].s.length ≤ 65) :
    RUN n 62 [ptl l, lol w] = .ret (if testE l w = 0 then .tup [.p (.bool (balB l w)), iv 0] else .tup [.p (.bool false), iv (testE l w)]) := by
  obtain ⟨d, rfl⟩ : ∃ d, n = d + 9 := ⟨n - 9, by omega⟩
  rw [RUN, call_eq fe62 _ rfl]
  have h0 := test125 (n := d + 8) (by omega) l hl h40 w hw hw40
  by_cases z0 : testE l w = 0
  · rw [if_pos z0]
    obtain ⟨z1, z2⟩ := test_zero z0
    obtain ⟨hl8, hok⟩ := parts_of z1
    have hwo := wall_of z2
    have h1 := lost126 (n := d + 8) (by omega) hl8.2 hok
    simp only [Int.zero_sub] at h1
    have h2 := map128 (n := d + 8) (by omega) hwo
    have h3 := total127 (n := d + 8) (by omega) (l := impL w) (by have := hwo.len; simp; omega) (impL_big hwo)
    simp only [csl, impL_length] at h3
    have h4 := meets112 (n := d + 8) (by omega) (-(chgI l).2) (-(chgI l).1) (tot (impL w)).1 (tot (impL w)).2
    rw [show meetB (-(chgI l).2) (-(chgI l).1) (tot (impL w)).1 (tot (impL w)).2 = balB l w from rfl] at h4
    simp -implicitDefEqProofs [c62, h0, z0, h1, h2, h3, h4]
  · rw [if_neg z0]
    have hb : (testE l w != 0) = true := by simpa using z0
    simp -implicitDefEqProofs [c62, h0, hb]

theorem meets132 {n : Nat} (hn : 1 ≤ n) {a b c e : Int} (h1 : -1000000000000000 ≤ a) (h2 : a ≤ b) (h3 : b ≤ 1000000000000000) (h4 : c ≤ e) : RUN n 132 [.agg [iv a, iv b], .agg [iv c, iv e]] = .ret (.p (.bool (meetB (-b) (-a) c e))) := by
  obtain ⟨d, rfl⟩ : ∃ d, n = d + 1 := ⟨n - 1, by omega⟩
  rw [RUN, call_eq fe132 _ rfl]
  have w1 : IntKind.i64.wrap (-b) = -b := wrap64 (by omega) (by omega)
  have w2 : IntKind.i64.wrap (-a) = -a := wrap64 (by omega) (by omega)
  have hm : meetB (-b) (-a) c e = (decide (-b ≤ e) && decide (c ≤ -a)) := by
    rw [meetB, Bool.eq_iff_iff]
    simp only [decide_eq_true_eq, Bool.and_eq_true]
    omega
  rw [hm]
  by_cases c1 : -b ≤ e
  · simp -implicitDefEqProofs [c132, w1, w2, c1]
  · simp -implicitDefEqProofs [c132, w1, c1]

theorem balanced69 {n : Nat} (hn : 4 ≤ n) {l : List PartI} {w : List LoadI} (hl : l.length ≤ 8) (hok : ∀ i, (hi : i < l.length) → PartOk l[i]) (hw : WallOk w) : RUN n 69 [ptl l, lol w] = .ret (.p (.bool (balB l w))) := by
  obtain ⟨d, rfl⟩ : ∃ d, n = d + 4 := ⟨n - 4, by omega⟩
  rw [RUN, call_eq fe69 _ rfl]
  have h1 := change68 (n := d + 3) (by omega) hl hok
  have h2 := impulse77 (n := d + 3) (by omega) hw
  have hc := chgI_in hl hok
  have ht := totI_in hw
  unfold InB at ht
  have h3 := meets132 (n := d + 3) (by omega) (a := (chgI l).1) (b := (chgI l).2) (c := (tot (impL w)).1) (e := (tot (impL w)).2) (by omega) (by omega) (by omega) (by omega)
  rw [show meetB (-(chgI l).2) (-(chgI l).1) (tot (impL w)).1 (tot (impL w)).2 = balB l w from rfl] at h3
  simp -implicitDefEqProofs [c69, h1, h2, h3]

/-! the cells that explain -/
def othI (w : List LoadI) (i : Nat) : List (Int × Int) := (impL w).set i (anyI (w.getD i loa0))
def exB (l : List PartI) (w : List LoadI) (i : Nat) : Bool := meetB (-(chgI l).2) (-(chgI l).1) (tot (othI w i)).1 (tot (othI w i)).2
def exL (l : List PartI) (w : List LoadI) : Nat → List (List UInt8)
  | 0 => []
  | k + 1 => if exB l w k = true then exL l w k ++ [(w.getD k loa0).name] else exL l w k
theorem exL_le (l : List PartI) (w : List LoadI) : ∀ k, (exL l w k).length ≤ k := by
  intro k
  induction k with
  | zero => simp [exL]
  | succ k ih =>
    simp only [exL]
    split
    · simp; omega
    · omega

theorem flat_zero (n : Nat) : (List.replicate n [PVal.int .i64 0, PVal.int .i64 0]).flatten = cI (List.replicate n (0, 0)) := by
  induction n with
  | zero => rfl
  | succ n ih => simp [List.replicate_succ, cI, ih]
theorem set_cells_all : ∀ (a b : List PVal) (pre : List PVal), a.length = b.length → setCells (pre ++ a) pre.length b = pre ++ b := by
  intro a b
  induction b generalizing a with
  | nil => intro pre h; simp at h; subst h; rfl
  | cons x r ih =>
    intro pre h
    cases a with
    | nil => simp at h
    | cons y q =>
      simp only [setCells]
      have := ih q (pre ++ [x]) (by simpa using h)
      simp only [List.length_append, List.length_cons, List.length_nil, Nat.zero_add, List.append_assoc, List.cons_append, List.nil_append] at this
      rw [← this]
      congr 1
      simp
theorem cI_set (v : Int × Int) : ∀ (l : List (Int × Int)) (i : Nat), ((cI l).set (i * 2) (.int .i64 v.1)).set (i * 2 + 1) (.int .i64 v.2) = cI (l.set i v) := by
  intro l
  induction l with
  | nil => intro i; simp [cI]
  | cons x r ih =>
    intro i
    cases i with
    | zero => simp [cI]
    | succ k =>
      have := ih k
      rw [show (k + 1) * 2 = k * 2 + 1 + 1 by omega, show k * 2 + 1 + 1 + 1 = k * 2 + 1 + 1 + 1 from rfl]
      simp [cI, this]

theorem oth_tot {w : List LoadI} {i : Nat} (hi : i < w.length) : tot (othI w i) = ((tot (impL w)).1 - (impI w[i]).1 + (anyI w[i]).1, (tot (impL w)).2 - (impI w[i]).2 + (anyI w[i]).2) := by
  have hi2 : i < (impL w).length := by simpa using hi
  unfold othI
  rw [getD_w hi, tot_set _ _ _ hi2]
  simp [impL]
theorem oth_in {w : List LoadI} (h : WallOk w) {i : Nat} (hi : i < w.length) : ∀ x ∈ othI w i, InB 1000000000000000 x := by
  intro x hx
  unfold othI at hx
  rcases List.mem_or_eq_of_mem_set hx with h1 | h1
  · exact impL_big h x h1
  · subst h1
    rw [getD_w hi]
    have := anyI_in (h.ok i hi)
    unfold InB
    omega

theorem explain64 {n : Nat} (hn : 9 ≤ n) (l : List PartI) (hl : l.length < 1000000) (h40 : ∀ i, (hi : i < l.length) → l[i].name.length ≤ 40) (w : List LoadI) (hw : w.length < 1000000) (hw40 : ∀ i, (hi : i < w.length) → w[i].name.length ≤ 40 ∧ w[i].s.length ≤ 65) :
    RUN n 64 [ptl l, lol w] = .ret (if testE l w = 0 then (if balB l w = true then .tup [.p (.sl [] 0), iv 21] else .tup [.own (pStr (exL l w w.length)) (exL l w w.length).length 1, iv 0]) else .tup [.p (.sl [] 0), iv (testE l w)]) := by
  obtain ⟨d, rfl⟩ : ∃ d, n = d + 9 := ⟨n - 9, by omega⟩
  rw [RUN, call_eq fe64 _ rfl]
  have h0 := test125 (n := d + 8) (by omega) l hl h40 w hw hw40
  by_cases z0 : testE l w = 0
  · rw [if_pos z0]
    obtain ⟨z1, z2⟩ := test_zero z0
    obtain ⟨hl8, hok⟩ := parts_of z1
    have hwo := wall_of z2
    have hwl := hwo.len
    have h1 := lost126 (n := d + 8) (by omega) hl8.2 hok
    simp only [Int.zero_sub] at h1
    have h2 := map128 (n := d + 8) (by omega) hwo
    have h3 := total127 (n := d + 8) (by omega) (l := impL w) (by have := hwo.len; simp; omega) (impL_big hwo)
    simp only [csl, impL_length] at h3
    have h4 := meets112 (n := d + 8) (by omega) (-(chgI l).2) (-(chgI l).1) (tot (impL w)).1 (tot (impL w)).2
    rw [show meetB (-(chgI l).2) (-(chgI l).1) (tot (impL w)).1 (tot (impL w)).2 = balB l w from rfl] at h4
    by_cases z3 : balB l w = true
    · rw [if_pos z3]
      simp -implicitDefEqProofs [c64, h0, z0, h1, h2, h3, h4, z3]
    · rw [if_neg z3]
      have z3' : balB l w = false := by simpa using z3
      let A : AVal := .p (.sl (cI (impL w)) w.length)
      let W : Obj := .arr [.int .i64 (-(chgI l).2), .int .i64 (-(chgI l).1)] 0 1
      let inv : Nat → St := fun i => ⟨[(7, A), (8, .ptr 0 0 0), (9, .sl 1 (exL l w i).length 0 (exL l w i).length), (27, lol w), (28, iv w.length), (29, iv i)], [(1, .arr (pStr (exL l w i)) (exL l w i).length 1), (0, W)]⟩
      have key : loopN (loopS (evFn F C0 G0 (d + 8)) C0 G0 0 true [7, 8, 9, 27, 28, 29] c64L0) loopFuel ⟨[(7, A), (8, .ptr 0 0 0), (9, .sl 1 0 0 0), (27, lol w), (28, iv w.length), (29, iv 0)], [(1, .arr [] 0 1), (0, W)]⟩ = .ret (.exit 0, ⟨(inv w.length).env ++ [(30, .p (.bool false))], (inv w.length).sto⟩) := by
        refine loop_run' inv w.length (by simp) ?_ ?_ ?_ (by simp [loopFuel]; omega)
        · exact loopS_same rfl (by simp [inv, W, A, exL])
        · intro i hi
          have hx := rowC_drop lc6_len w i hi
          have hlt : i * 6 < w.length * 6 := by omega
          have hlt2 : i * 2 + 2 ≤ w.length * 2 := by omega
          have hlt' : (i : Int) < w.length := by omega
          have hle := exL_le l w i
          have hlim : (exL l w i).length + 1 ≤ lim := by simp only [lim]; omega
          have hnl : (w.length : Int) ≤ lim := by simp only [lim]; omega
          have hma := any130 (n := d + 8) (by omega) (hwo.ok i hi)
          have hs : exL l w (i + 1) = if exB l w i = true then exL l w i ++ [w[i].name] else exL l w i := by simp only [exL, getD_w hi]
          have ho : othI w i = (impL w).set i (anyI w[i]) := by unfold othI; rw [getD_w hi]
          have h5 := total127 (n := d + 8) (by omega) (l := othI w i) (by unfold othI; simp; omega) (oth_in hwo hi)
          have holen : (othI w i).length = w.length := by unfold othI; simp
          simp only [csl, holen] at h5
          have h6 := meets112 (n := d + 8) (by omega) (-(chgI l).2) (-(chgI l).1) (tot (othI w i)).1 (tot (othI w i)).2
          rw [show meetB (-(chgI l).2) (-(chgI l).1) (tot (othI w i)).1 (tot (othI w i)).2 = exB l w i from rfl] at h6
          have hcs := cI_set (anyI w[i]) (impL w) i
          rw [← ho] at hcs
          have hcp : setCells (cI (List.replicate w.length (0, 0))) 0 (cI (impL w)) = cI (impL w) := set_cells_all _ _ [] (by simp)
          have htk : (cI (impL w)).take (w.length * 2) = cI (impL w) := List.take_of_length_le (by simp)
          have hmn : Nat.min w.length w.length = w.length := Nat.min_self _
          have hp := pStr_snoc (exL l w i) w[i].name
          have hi0 : inv i = ⟨[(7, A), (8, .ptr 0 0 0), (9, .sl 1 (exL l w i).length 0 (exL l w i).length), (27, lol w), (28, iv w.length), (29, iv i)], [(1, .arr (pStr (exL l w i)) (exL l w i).length 1), (0, W)]⟩ := rfl
          have hi1 : inv (i + 1) = ⟨[(7, A), (8, .ptr 0 0 0), (9, .sl 1 (exL l w (i + 1)).length 0 (exL l w (i + 1)).length), (27, lol w), (28, iv w.length), (29, iv ((i + 1 : Nat) : Int))], [(1, .arr (pStr (exL l w (i + 1))) (exL l w (i + 1)).length 1), (0, W)]⟩ := rfl
          rw [hi0, hi1, hs]
          generalize exL l w i = E at *
          generalize anyI w[i] = a at *
          generalize w[i] = x at *
          cases hb : exB l w i with
          | true =>
            rw [if_pos rfl]
            refine ⟨?_, ?h1, ?h2⟩
            case h1 =>
              simp -implicitDefEqProofs [A, W, loopS_eq, c64L0, cW_len, hx, hlt, hlt2, hlt', hnl, hma, flat_zero, hcp, htk, hmn, hcs, holen, h5, h6, hb, hlim, wrap_succ (i := i) (by omega)]
              exact rfl
            case h2 => exact loopS_same (by simp [A]) (by simp [A, W, ← hp])
          | false =>
            rw [if_neg (by simp)]
            refine ⟨?_, ?h3, ?h4⟩
            case h3 =>
              simp -implicitDefEqProofs [A, W, loopS_eq, c64L0, cW_len, hx, hlt, hlt2, hlt', hnl, hma, flat_zero, hcp, htk, hmn, hcs, holen, h5, h6, hb, wrap_succ (i := i) (by omega)]
              exact rfl
            case h4 => exact loopS_same (by simp [A]) (by simp [A, W])
        · simp -implicitDefEqProofs [inv, A, W, loopS_eq, c64L0]
      simp only [A, W] at key
      simp -implicitDefEqProofs [c64, h0, z0, h1, h2, h3, h4, z3', key, inv]
  · rw [if_neg z0]
    have hb : (testE l w != 0) = true := by simpa using z0
    simp -implicitDefEqProofs [c64, h0, hb]
end Fw
