/- Sets compared, by the chapter. -/
import Derived.Test.YtombnimlolbekaaGreatDoorPuX6
set_option maxHeartbeats 8000000
namespace Fw
open Go
attribute [local irreducible] evCode evOps evOpsD evOper evOperD evOp evFn loopN T.All T.bind callPure callOp opsK opsDK restK seqK blockK loopS setK setQ giveK scalK gcK finish finS rfunK yldK yldB loopK

def lexG (a b : List Int) (i : Nat) : Int := if b.length ≤ i then 1 else cmpI (a.getD i 0) (b.getD i 0)
/-- the library's comparison of lists -/
def scmpI (a b : List Int) : Int := if firstE ((List.range a.length).map (lexG a b)) = 0 then (if a.length < b.length then -1 else 0) else firstE ((List.range a.length).map (lexG a b))
theorem scmp_eq {a b : List Int} (h : a.length = b.length) : scmpI a b = lexI a b := by
  have hm : (List.range a.length).map (lexG a b) = (List.range a.length).map (lexE a b) := by
    refine List.map_congr_left (fun i hi => ?_)
    have := List.mem_range.1 hi
    rw [lexG, if_neg (by omega)]; rfl
  unfold scmpI lexI
  rw [hm]
  split
  · rename_i hz; rw [if_neg (by omega), hz]
  · rfl

theorem scmpG175 {n : Nat} (hn : 3 ≤ n) (a b : List Int) (hl : a.length < 1000000) : RUN n 175 [isl a, isl b] = .ret (iv (scmpI a b)) := by
  obtain ⟨d, rfl⟩ : ∃ d, n = d + 3 := ⟨n - 3, by omega⟩
  rw [RUN, call_eq fe175 _ rfl]
  let inv : Nat → St := fun i => ⟨[(0, isl a), (1, isl b), (9, isl a), (10, iv a.length), (11, iv i)], []⟩
  have key := loop_first (step := loopS (evFn F C0 G0 (d + 2)) C0 G0 0 false [0, 1, 9, 10, 11] c175L0) inv (lexG a b) a.length (.exit 0, ⟨(inv a.length).env ++ [(12, .p (.bool false))], []⟩) (fun i => (.ret, ⟨[(4, iv (lexG a b i))], []⟩))
    (st0 := ⟨[(0, isl a), (1, isl b), (9, isl a), (10, iv a.length), (11, iv 0)], []⟩) rfl (fun i hi => by
      have hlt' : (i : Int) < a.length := by omega
      have g1 : a.getD i 0 = a[i] := by simp [List.getD_eq_getElem?_getD, List.getElem?_eq_getElem hi]
      by_cases hib : i < b.length
      · have hltb : (i : Int) < b.length := by omega
        have hnb : ¬ (b.length : Int) ≤ i := by omega
        have hnb2 : ¬ b.length ≤ i := by omega
        have g2 : b.getD i 0 = b[i] := by simp [List.getD_eq_getElem?_getD, List.getElem?_eq_getElem hib]
        have he : lexG a b i = cmpI a[i] b[i] := by simp only [lexG, g1, g2, if_neg hnb2]
        have h1 := cmp174 (n := d + 2) (by omega) a[i] b[i]
        rw [he]
        refine ⟨fun hz => ⟨inv (i + 1), ?_, rfl⟩, fun hz => ?_⟩
        · simp -implicitDefEqProofs [inv, loopS_eq, c175L0, hi, hib, hlt', hltb, hnb, h1, hz, wrap_succ (i := i) (by omega)]
        · simp -implicitDefEqProofs [inv, loopS_eq, c175L0, hi, hib, hlt', hltb, hnb, h1, hz]
      · have hge : (b.length : Int) ≤ i := by omega
        have hge2 : b.length ≤ i := by omega
        have he : lexG a b i = 1 := by rw [lexG, if_pos hge2]
        rw [he]
        refine ⟨fun hz => absurd hz (by decide), fun _ => ?_⟩
        simp -implicitDefEqProofs [inv, loopS_eq, c175L0, hi, hlt', hge]) (fun i => by simp) (by simp -implicitDefEqProofs [inv, loopS_eq, c175L0]) (by simp) (fuel := loopFuel) (by simp [loopFuel]; omega)
  simp -implicitDefEqProofs [c175]
  rcases key with ⟨k1, k2⟩ | ⟨j, hj, k1, k2, k3, _⟩
  · rw [k1, scmpI, if_pos k2]
    by_cases hab : a.length < b.length
    · have hi : (a.length : Int) < b.length := by omega
      simp -implicitDefEqProofs [inv, hab, hi]
    · have hi : ¬ (a.length : Int) < b.length := by omega
      simp -implicitDefEqProofs [inv, hab, hi]
  · rw [k1, scmpI, k2, if_neg k3]
    simp -implicitDefEqProofs

/-- a set as a variable holds it -/
def setV (a : List Int) (k v : Nat) : AVal := if a = [] then .p .nils else .sl k v 0 a.length
def cmpC (ca cb : Int) (a b : List Int) : Int := firstE [cmpI ca cb, cmpI a.length b.length, scmpI a b]

theorem cmpC_neg {ca cb : Int} {a b : List Int} : decide (cmpC ca cb a b < 0) = (decide (ca < cb) || (decide (ca = cb) && beforeB a b)) := by
  have h1 : ∀ x y : Int, (cmpI x y = 0 ↔ x = y) ∧ (cmpI x y < 0 ↔ x < y) := fun x y => by unfold cmpI; split <;> (try split) <;> omega
  obtain ⟨a1, a2⟩ := h1 ca cb
  obtain ⟨b1, b2⟩ := h1 a.length b.length
  rw [Bool.eq_iff_iff, Bool.or_eq_true, Bool.and_eq_true, decide_eq_true_eq, decide_eq_true_eq, decide_eq_true_eq]
  have hC : cmpC ca cb a b = if cmpI ca cb = 0 then (if cmpI a.length b.length = 0 then (if scmpI a b = 0 then 0 else scmpI a b) else cmpI a.length b.length) else cmpI ca cb := rfl
  rw [hC]
  by_cases c1 : ca = cb
  · rw [if_pos (a1.2 c1)]
    have hlt : ¬ ca < cb := by omega
    by_cases c2 : a.length = b.length
    · rw [if_pos (b1.2 (by omega)), scmp_eq c2]
      have hB : beforeB a b = decide (lexI a b < 0) := by rw [beforeB, if_pos c2]
      simp only [hB, decide_eq_true_eq]
      constructor
      · intro h
        right
        refine ⟨c1, ?_⟩
        split at h
        · omega
        · exact h
      · rintro (h | ⟨_, h⟩)
        · omega
        · rw [if_neg (by omega)]; exact h
    · have hB : beforeB a b = decide (a.length < b.length) := by rw [beforeB, if_neg c2]
      rw [if_neg (fun h => c2 (by have := b1.1 h; omega))]
      simp only [hB, decide_eq_true_eq, b2]
      omega
  · rw [if_neg (fun h => c1 (a1.1 h)), a2]
    constructor
    · intro h; exact .inl h
    · rintro (h | ⟨h, _⟩)
      · exact h
      · exact absurd h c1

theorem compare143 {d : Nat} (S R : Sto) (t : Nat) (o0 : Obj) (hS : S = (t, o0) :: R) (a b : List Int) (ca ia cb ib : Int) (ka kb va vb : Nat) (ha : a ≠ [] → get S ka = some (.arr (pI a) va 1) ∧ ka ≤ t) (hb : b ≠ [] → get S kb = some (.arr (pI b) vb 1) ∧ kb ≤ t) (hl : a.length < 1000000) :
    evFn F C0 G0 (d + 4) (.fn 143) [.agg [iv ca, iv ia, setV a ka va], .agg [iv cb, iv ib, setV b kb vb]] S = .ret (iv (cmpC ca cb a b), (t + 1 + 1, .box [iv cb, iv ib, setV b kb vb]) :: (t + 1, .box [iv ca, iv ia, setV a ka va]) :: S) := by
  subst hS
  simp only [get] at ha hb
  rw [evFn_fn fe143]
  have h1 := cmp174 (n := d + 3) (by omega) ca cb
  have h2 := cmp174 (n := d + 3) (by omega) a.length b.length
  have h3 := scmpG175 (n := d + 3) (by omega) a b hl
  have h4 := or173_3 (n := d + 3) (by omega) (cmpI ca cb) (cmpI a.length b.length) (scmpI a b)
  have e : firstE [cmpI ca cb, cmpI a.length b.length, scmpI a b] = cmpC ca cb a b := rfl
  rw [e] at h4
  by_cases qa : a = []
  · subst qa
    simp only [isl, pI_nil, List.length_nil, Int.natCast_zero] at h2 h3 h4
    by_cases qb : b = []
    · subst qb
      simp only [pI_nil, List.length_nil, Int.natCast_zero] at h2 h3 h4
      simp -implicitDefEqProofs [c143, setV, h1, h2, h3, h4]
    · obtain ⟨g1, g2⟩ := hb qb
      have n1 : ¬ t + 1 = kb := by omega
      have n2 : ¬ t + 1 + 1 = kb := by omega
      simp -implicitDefEqProofs [c143, setV, qb, h1, h2, h3, h4, g1, n1, n2]
  · obtain ⟨f1, f2⟩ := ha qa
    have m1 : ¬ t + 1 = ka := by omega
    have m2 : ¬ t + 1 + 1 = ka := by omega
    by_cases qb : b = []
    · subst qb
      simp only [isl, pI_nil, List.length_nil, Int.natCast_zero] at h2 h3 h4
      simp -implicitDefEqProofs [c143, setV, qa, h1, h2, h3, h4, f1, m1, m2]
    · obtain ⟨g1, g2⟩ := hb qb
      have n1 : ¬ t + 1 = kb := by omega
      have n2 : ¬ t + 1 + 1 = kb := by omega
      simp -implicitDefEqProofs [c143, setV, qa, qb, h1, h2, h3, h4, f1, m1, m2, g1, n1, n2]
end Fw
