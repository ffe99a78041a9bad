/- The check of an act, both sides. -/
import Derived.Test.YtdjkleaojdeepaaGreatDoorGaH7
set_option maxHeartbeats 16000000
namespace Fw
open Go
attribute [local irreducible] evCode evOps evOpsD evOper evOperD evOp evFn loopN T.All T.bind callPure callOp opsK opsDK restK seqK blockK loopS setK setQ giveK scalK gcK finish finS rfunK yldK yldB loopK

def numsE (h : HallI) (k : List UInt8) : Int := if doorB k = true then h.doors else if keyB k = true then 2 else 1
def zerB (a b c : Int) : Bool := a == 0 && (b == 0 && c == 0)
def actE (h : HallI) (x : ActI) : Int :=
  if rangeE 0 100000000 x.tick ≠ 0 then rangeE 0 100000000 x.tick else if ¬ x.kind ∈ kindL then 13 else if x.num < 0 ∨ numsE h x.kind ≤ x.num then 10
  else if x.kind = kMeasure then valE x.a x.b x.c else whenE (!zerB x.a x.b x.c) 1
theorem find_no (k : List UInt8) (vs : List PVal) : ∀ ns : List (List UInt8), vs.length = ns.length → ¬ k ∈ ns → mapFind (.str k) (pStr ns) vs = some none := by
  intro ns
  induction ns generalizing vs with
  | nil => intro h _; rw [List.eq_nil_of_length_eq_zero h]; rfl
  | cons a r ih =>
    intro h hn
    match vs, h with
    | v :: q, h =>
      have hb : (k == a) = false := by simpa using fun e => hn (by simp [e])
      have := ih q (by simpa using h) (fun e => hn (by simp [e]))
      simp only [pStr] at this
      simp [pStr, mapFind, keyEq, eqP, hb, this]
theorem call_door {n : Nat} (hn : 1 ≤ n) (h : HallI) : RUN n 217 [ha h] = .ret (iv h.doors) := by
  obtain ⟨d, rfl⟩ : ∃ d, n = d + 1 := ⟨n - 1, by omega⟩
  rw [RUN, call_eq fe217 _ rfl]
  simp -implicitDefEqProofs [c217]
theorem call_key {n : Nat} (hn : 1 ≤ n) (h : HallI) : RUN n 222 [ha h] = .ret (iv 2) := by
  obtain ⟨d, rfl⟩ : ∃ d, n = d + 1 := ⟨n - 1, by omega⟩
  rw [RUN, call_eq fe222 _ rfl]
  simp -implicitDefEqProofs [c222]
theorem call_none {n : Nat} (hn : 1 ≤ n) (h : HallI) : RUN n 231 [ha h] = .ret (iv 1) := by
  obtain ⟨d, rfl⟩ : ∃ d, n = d + 1 := ⟨n - 1, by omega⟩
  rw [RUN, call_eq fe231 _ rfl]
  simp -implicitDefEqProofs [c231]
theorem check87 {n : Nat} (hn : 6 ≤ n) (h : HallI) (x : ActI) : RUN n 87 [aa x, ha h] = .ret (iv (actE h x)) := by
  obtain ⟨d, rfl⟩ : ∃ d, n = d + 6 := ⟨n - 6, by omega⟩
  rw [RUN, call_eq fe87 _ rfl]
  have kr := within92 (n := d + 5) (by omega) x.tick 0 100000000
  by_cases h0 : rangeE 0 100000000 x.tick = 0
  · have hE : actE h x = if ¬ x.kind ∈ kindL then 13 else if x.num < 0 ∨ numsE h x.kind ≤ x.num then 10 else if x.kind = kMeasure then valE x.a x.b x.c else whenE (!zerB x.a x.b x.c) 1 := by simp only [actE, h0, ne_eq, not_true_eq_false, if_false]
    rw [hE]
    rw [h0] at kr
    have kb := byWord136 (n := d + 5) (by omega)
    by_cases hk : x.kind ∈ kindL
    · rw [if_neg (not_not_intro hk)]
      obtain ⟨t, k, m, a, b, c⟩ := x
      have ki := is93 (n := d + 5) (by omega) ⟨t, k, m, a, b, c⟩ [kMeasure] (by simp)
      have kd := call_door (n := d + 5) (by omega) h
      have kk := call_key (n := d + 5) (by omega) h
      have kn := call_none (n := d + 5) (by omega) h
      have kv := measures131 (n := d + 5) (by omega) a b c
      have kw := when104 (n := d + 5) (by omega) (!zerB a b c) 1
      have hz : (!zerB a b c) = (!a == 0 || (!b == 0 || !c == 0)) := by simp only [zerB, Bool.not_and]
      simp only [hz] at kw ⊢
      simp only [kindL, List.mem_cons, List.not_mem_nil, or_false] at hk
      simp only at kr h0 ⊢
      have hG : G0 0 = some g0 := rfl
      simp only [strL, pStr, List.map_cons, List.map_nil, List.length_cons, List.length_nil] at ki
      generalize valE a b c = V at *
      rcases hk with rfl | rfl | rfl | rfl | rfl | rfl | rfl | rfl | rfl | rfl
      · have hm : mapFind (.str kOpen) (pStr kindL) [.int .i64 0, .int .i64 1, .int .i64 2, .int .i64 3, .int .i64 4, .int .i64 5, .int .i64 6, .int .i64 7, .int .i64 8, .int .i64 9] = some (some (.int .i64 0)) := by kernel_rfl
        rw [show numsE h kOpen = h.doors from rfl]
        by_cases c1 : m < 0
        · simp -implicitDefEqProofs [c87, kr, kb, hm, c1]
        · by_cases c2 : h.doors ≤ m
          · simp -implicitDefEqProofs [c87, kr, kb, hm, c1, hG, g0, kd, c2]
          · simp -implicitDefEqProofs [c87, kr, kb, hm, c1, hG, g0, kd, c2, ki, kw]
      · have hm : mapFind (.str kClose) (pStr kindL) [.int .i64 0, .int .i64 1, .int .i64 2, .int .i64 3, .int .i64 4, .int .i64 5, .int .i64 6, .int .i64 7, .int .i64 8, .int .i64 9] = some (some (.int .i64 1)) := by kernel_rfl
        rw [show numsE h kClose = h.doors from rfl]
        by_cases c1 : m < 0
        · simp -implicitDefEqProofs [c87, kr, kb, hm, c1]
        · by_cases c2 : h.doors ≤ m
          · simp -implicitDefEqProofs [c87, kr, kb, hm, c1, hG, g0, kd, c2]
          · simp -implicitDefEqProofs [c87, kr, kb, hm, c1, hG, g0, kd, c2, ki, kw]
      · have hm : mapFind (.str kInsert) (pStr kindL) [.int .i64 0, .int .i64 1, .int .i64 2, .int .i64 3, .int .i64 4, .int .i64 5, .int .i64 6, .int .i64 7, .int .i64 8, .int .i64 9] = some (some (.int .i64 2)) := by kernel_rfl
        rw [show numsE h kInsert = 2 from rfl]
        by_cases c1 : m < 0
        · simp -implicitDefEqProofs [c87, kr, kb, hm, c1]
        · by_cases c2 : 2 ≤ m
          · simp -implicitDefEqProofs [c87, kr, kb, hm, c1, hG, g0, kk, c2]
          · simp -implicitDefEqProofs [c87, kr, kb, hm, c1, hG, g0, kk, c2, ki, kw]
      · have hm : mapFind (.str kRemove) (pStr kindL) [.int .i64 0, .int .i64 1, .int .i64 2, .int .i64 3, .int .i64 4, .int .i64 5, .int .i64 6, .int .i64 7, .int .i64 8, .int .i64 9] = some (some (.int .i64 3)) := by kernel_rfl
        rw [show numsE h kRemove = 2 from rfl]
        by_cases c1 : m < 0
        · simp -implicitDefEqProofs [c87, kr, kb, hm, c1]
        · by_cases c2 : 2 ≤ m
          · simp -implicitDefEqProofs [c87, kr, kb, hm, c1, hG, g0, kk, c2]
          · simp -implicitDefEqProofs [c87, kr, kb, hm, c1, hG, g0, kk, c2, ki, kw]
      · have hm : mapFind (.str kEnter) (pStr kindL) [.int .i64 0, .int .i64 1, .int .i64 2, .int .i64 3, .int .i64 4, .int .i64 5, .int .i64 6, .int .i64 7, .int .i64 8, .int .i64 9] = some (some (.int .i64 4)) := by kernel_rfl
        rw [show numsE h kEnter = h.doors from rfl]
        by_cases c1 : m < 0
        · simp -implicitDefEqProofs [c87, kr, kb, hm, c1]
        · by_cases c2 : h.doors ≤ m
          · simp -implicitDefEqProofs [c87, kr, kb, hm, c1, hG, g0, kd, c2]
          · simp -implicitDefEqProofs [c87, kr, kb, hm, c1, hG, g0, kd, c2, ki, kw]
      · have hm : mapFind (.str kLeave) (pStr kindL) [.int .i64 0, .int .i64 1, .int .i64 2, .int .i64 3, .int .i64 4, .int .i64 5, .int .i64 6, .int .i64 7, .int .i64 8, .int .i64 9] = some (some (.int .i64 5)) := by kernel_rfl
        rw [show numsE h kLeave = h.doors from rfl]
        by_cases c1 : m < 0
        · simp -implicitDefEqProofs [c87, kr, kb, hm, c1]
        · by_cases c2 : h.doors ≤ m
          · simp -implicitDefEqProofs [c87, kr, kb, hm, c1, hG, g0, kd, c2]
          · simp -implicitDefEqProofs [c87, kr, kb, hm, c1, hG, g0, kd, c2, ki, kw]
      · have hm : mapFind (.str kArm) (pStr kindL) [.int .i64 0, .int .i64 1, .int .i64 2, .int .i64 3, .int .i64 4, .int .i64 5, .int .i64 6, .int .i64 7, .int .i64 8, .int .i64 9] = some (some (.int .i64 6)) := by kernel_rfl
        rw [show numsE h kArm = 1 from rfl]
        by_cases c1 : m < 0
        · simp -implicitDefEqProofs [c87, kr, kb, hm, c1]
        · by_cases c2 : 1 ≤ m
          · simp -implicitDefEqProofs [c87, kr, kb, hm, c1, hG, g0, kn, c2]
          · simp -implicitDefEqProofs [c87, kr, kb, hm, c1, hG, g0, kn, c2, ki, kw]
      · have hm : mapFind (.str kDisarm) (pStr kindL) [.int .i64 0, .int .i64 1, .int .i64 2, .int .i64 3, .int .i64 4, .int .i64 5, .int .i64 6, .int .i64 7, .int .i64 8, .int .i64 9] = some (some (.int .i64 7)) := by kernel_rfl
        rw [show numsE h kDisarm = 1 from rfl]
        by_cases c1 : m < 0
        · simp -implicitDefEqProofs [c87, kr, kb, hm, c1]
        · by_cases c2 : 1 ≤ m
          · simp -implicitDefEqProofs [c87, kr, kb, hm, c1, hG, g0, kn, c2]
          · simp -implicitDefEqProofs [c87, kr, kb, hm, c1, hG, g0, kn, c2, ki, kw]
      · have hm : mapFind (.str kShoot) (pStr kindL) [.int .i64 0, .int .i64 1, .int .i64 2, .int .i64 3, .int .i64 4, .int .i64 5, .int .i64 6, .int .i64 7, .int .i64 8, .int .i64 9] = some (some (.int .i64 8)) := by kernel_rfl
        rw [show numsE h kShoot = 1 from rfl]
        by_cases c1 : m < 0
        · simp -implicitDefEqProofs [c87, kr, kb, hm, c1]
        · by_cases c2 : 1 ≤ m
          · simp -implicitDefEqProofs [c87, kr, kb, hm, c1, hG, g0, kn, c2]
          · simp -implicitDefEqProofs [c87, kr, kb, hm, c1, hG, g0, kn, c2, ki, kw]
      · have hm : mapFind (.str kMeasure) (pStr kindL) [.int .i64 0, .int .i64 1, .int .i64 2, .int .i64 3, .int .i64 4, .int .i64 5, .int .i64 6, .int .i64 7, .int .i64 8, .int .i64 9] = some (some (.int .i64 9)) := by kernel_rfl
        rw [show numsE h kMeasure = 1 from rfl]
        by_cases c1 : m < 0
        · simp -implicitDefEqProofs [c87, kr, kb, hm, c1]
        · by_cases c2 : 1 ≤ m
          · simp -implicitDefEqProofs [c87, kr, kb, hm, c1, hG, g0, kn, c2]
          · simp -implicitDefEqProofs [c87, kr, kb, hm, c1, hG, g0, kn, c2, ki, kv]
    · rw [if_pos hk]
      have hm := find_no x.kind [.int .i64 0, .int .i64 1, .int .i64 2, .int .i64 3, .int .i64 4, .int .i64 5, .int .i64 6, .int .i64 7, .int .i64 8, .int .i64 9] kindL rfl hk
      simp -implicitDefEqProofs [c87, kr, kb, hm]
  · have hE : actE h x = rangeE 0 100000000 x.tick := by simp only [actE, ne_eq, h0, not_false_eq_true, if_true]
    rw [hE]
    generalize rangeE 0 100000000 x.tick = e at *
    simp -implicitDefEqProofs [c87, kr, h0]
end Fw
