/- Runs of settings, second part: the pulse chapter and its reference. -/
import Derived.Test.YtombnimlolbekaaGreatDoorPuS3
set_option maxHeartbeats 8000000
namespace Fw
open Go
attribute [local irreducible] evCode evOps evOpsD evOper evOperD evOp evFn loopN T.All T.bind callPure callOp opsK opsDK restK seqK blockK loopS setK setQ giveK scalK gcK finish finS rfunK yldK yldB loopK

structure SledOk (s : SledI) : Prop where
 low : 1 ≤ s.low ∧ s.low ≤ 10000
 high : 1 ≤ s.high ∧ s.high ≤ 10000
 le : s.low ≤ s.high
 lag : 1 ≤ s.lag ∧ s.lag ≤ 16
 delay : 0 ≤ s.delay ∧ s.delay ≤ 8
 load : 1 ≤ s.load ∧ s.load ≤ 10000

theorem sled_of {s : SledI} (h : sledE s = 0) : SledOk s := by
 have h1 := firstE_zero.1 h
 have a := ivE_zero.1 (h1 _ (List.mem_cons_self ..))
 have b := rangeE_zero.1 (h1 (rangeE 1 16 s.lag) (by simp))
 have c := rangeE_zero.1 (h1 (rangeE 0 8 s.delay) (by simp))
 have e := rangeE_zero.1 (h1 (rangeE 1 10000 s.load) (by simp))
 exact ⟨⟨a.1, a.2.1⟩, ⟨a.2.2.1, a.2.2.2.1⟩, a.2.2.2.2, b, c, e⟩

theorem runL_length (s : SledI) (l : List (Int × Int)) (g : Int) (k : Nat) : (runL s l g k).length = k := by simp [runL]
theorem take_run (s : SledI) (l : List (Int × Int)) (g : Int) (k i : Nat) (h : i < k) : (runL s l g k).take (i + 1) = (runL s l g k).take i ++ [runF s l g (i + 1)] := by
 rw [List.take_add_one]; simp [runL, h]

structure RunFacts (s : SledI) (l : List (Int × Int)) (g : Int) (i : Nat) : Prop where
 w1 : IntKind.i64.wrap ((i : Int) - s.delay) = (i : Int) - s.delay
 mx : maxInt 0 [iv ((i : Int) - s.delay)] = some (max 0 ((i : Int) - s.delay))
 w2 : IntKind.i64.wrap (g * valveP l (max 0 ((i : Int) - s.delay))) = g * valveP l (max 0 ((i : Int) - s.delay))
 q : (g * valveP l (max 0 ((i : Int) - s.delay))).tdiv 100 = wishF s l g i
 w3 : IntKind.i64.wrap (wishF s l g i) = wishF s l g i
 w4 : IntKind.i64.wrap (wishF s l g i - runF s l g i) = wishF s l g i - runF s l g i
 b1 : -1000000000000 ≤ wishF s l g i - runF s l g i
 b2 : wishF s l g i - runF s l g i ≤ 1000000000000
 r : runF s l g i + (wishF s l g i - runF s l g i) / s.lag = runF s l g (i + 1)
 w5 : IntKind.i64.wrap (runF s l g (i + 1)) = runF s l g (i + 1)

theorem run_facts {s : SledI} (hs : SledOk s) {l : List (Int × Int)} (h : Valid l) {g : Int} (hg : 0 ≤ g) (hg2 : g ≤ 10000) (i : Nat) (hi : i < 1000000) : RunFacts s l g i := by
 have hd := hs.delay
 obtain ⟨v1, v2⟩ := valveP_bound h (max 0 ((i : Int) - s.delay))
 obtain ⟨u1, u2⟩ := wishF_bound (s := s) h hg i
 obtain ⟨r1, r2⟩ := runF_bound (s := s) h hg hs.lag.1 i
 obtain ⟨r3, r4⟩ := runF_bound (s := s) h hg hs.lag.1 (i + 1)
 have h3 : 0 ≤ g * valveP l (max 0 ((i : Int) - s.delay)) := Int.mul_nonneg hg v1
 have h4 : g * valveP l (max 0 ((i : Int) - s.delay)) ≤ g * 100 := Int.mul_le_mul_of_nonneg_left v2 hg
 refine ⟨wrap64 (by omega) (by omega), ?_, wrap64 (by omega) (by omega), ?_, wrap64 (by omega) (by omega), wrap64 (by omega) (by omega), by omega, by omega, rfl, wrap64 (by omega) (by omega)⟩
 ·simp only [maxInt]
  congr 1
  split <;> omega
 ·rw [Int.tdiv_eq_ediv_of_nonneg h3]
  rfl

theorem run96 {n : Nat} (hn : 2 ≤ n) {s : SledI} (hs : SledOk s) {l : List (Int × Int)} (h : Valid l) {g : Int} (hg : 0 ≤ g) (hg2 : g ≤ 10000) (k : Nat) (hk : k < 1000000) :
  RUN n 96 [sla s, csl l, iv g, iv k] = .ret (.own (pI (runL s l g k)) k 1) := by
 obtain ⟨d, rfl⟩ : ∃ d, n = d + 2 := ⟨n - 2, by omega⟩
 rw [RUN, call_eq fe96 _ rfl]
 have hsm := h.small
 let so : Obj := .arr [.int .i64 s.low, .int .i64 s.high, .int .i64 s.lag, .int .i64 s.delay, .int .i64 s.load] 0 1
 let inv : Nat → St := fun i => ⟨[(1, csl l), (2, iv g), (4, .ptr 0 0 0), (9, .sl 1 i 0 i), (10, iv (runF s l g i)), (13, iv k), (14, iv i)], [(1, .arr (pI ((runL s l g k).take i)) i 1), (0, so)]⟩
 have hvl := runL_length s l g k
 have htl : (runL s l g k).take k = runL s l g k := List.take_of_length_le (by omega)
 simp -implicitDefEqProofs [c96]
 rw [loop_run inv k (e := .exit 0) (st' := ⟨(inv k).env ++ [(15, .p (.bool false))], (inv k).sto⟩) (by simp)]
 ·simp -implicitDefEqProofs [inv, so, htl, hvl]
 ·rfl
 ·intro i hi
  have f := run_facts hs h hg hg2 i (by omega)
  have hlim : i + 1 ≤ lim := by simp only [lim]; omega
  have hto : ((runL s l g k).take i).length = i := by simp [hvl]; omega
  have hv := valve94 (n := d + 1) (by omega) l (max 0 ((i : Int) - s.delay)) (by omega)
  have hf := floor122 (n := d + 1) (by omega) (wishF s l g i - runF s l g i) s.lag (by have := hs.lag; omega) f.b1 f.b2
  have ht := take_run s l g k i hi
  simp -implicitDefEqProofs [inv, so, loopS_eq, c96L0, hi, hlim, hto, hv, hf, f.w1, f.mx, f.w2, f.q, f.w3, f.w4, f.r, f.w5, wrap_succ (i := i) (by omega), ht, ← pI_snoc]
 ·simp [inv, loopS_eq, c96L0]
 ·simp [loopFuel]; omega

end Fw
