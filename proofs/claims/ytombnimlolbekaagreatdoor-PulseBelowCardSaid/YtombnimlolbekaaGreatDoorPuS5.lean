/- Enclosures and safety: the pulse chapter and its reference. -/
import Derived.Test.YtombnimlolbekaaGreatDoorPuS4
set_option maxHeartbeats 8000000
namespace Fw
open Go
attribute [local irreducible] evCode evOps evOpsD evOper evOperD evOp evFn loopN T.All T.bind callPure callOp opsK opsDK restK seqK blockK loopS setK setQ giveK scalK gcK finish finS rfunK yldK yldB loopK


def badR (s : SledI) (l : List (Int × Int)) (g k : Int) : Int := firstE [sledE s, settingE l, rangeE s.low s.high g, rangeE 1 64 k]

theorem run15 {n : Nat} (hn : 5 ≤ n) (s : SledI) (l : List (Int × Int)) (g k : Int) (hl : l.length < 1000000) :
  RUN n 15 [sla s, csl l, iv g, iv k] = .ret (if badR s l g k = 0 then .tup [.p (.sl (pI (runL s l g k.toNat)) k.toNat), iv 0] else .tup [.p (.sl [] 0), iv (badR s l g k)]) := by
 obtain ⟨d, rfl⟩ : ∃ d, n = d + 5 := ⟨n - 5, by omega⟩
 rw [RUN, call_eq fe15 _ rfl]
 have h0 := sled27 (n := d + 4) (by omega) s
 have h1 := setting28 (n := d + 4) (by omega) l hl
 have h2 := ticks93 (n := d + 4) (by omega) k
 have h3 := within95 (n := d + 4) (by omega) g s.low s.high
 have h4 := first92_4 (n := d + 4) (by omega) (sledE s) (settingE l) (rangeE s.low s.high g) (rangeE 1 64 k)
 have hb : firstE [sledE s, settingE l, rangeE s.low s.high g, rangeE 1 64 k] = badR s l g k := rfl
 by_cases h : badR s l g k = 0
 ·have hz := firstE_zero.1 h
  have hs := sled_of (hz (sledE s) (by simp))
  have hv := valid_of (hz (settingE l) (by simp))
  have hg := rangeE_zero.1 (hz (rangeE s.low s.high g) (by simp))
  have hk := rangeE_zero.1 (hz (rangeE 1 64 k) (by simp))
  obtain ⟨m, rfl⟩ : ∃ m : Nat, k = m := ⟨k.toNat, by omega⟩
  have hr := run96 (n := d + 4) (by omega) hs hv (g := g) (by have := hs.low; omega) (by have := hs.high; omega) m (by omega)
  rw [if_pos h]
  simp only [Int.toNat_natCast]
  simp -implicitDefEqProofs [c15, h0, h1, h2, h3, h4, hb, h, hr]
 ·rw [if_neg h]
  simp -implicitDefEqProofs [c15, h0, h1, h2, h3, h4, hb, h]

def enclL (s : SledI) (l : List (Int × Int)) (k : Nat) : List (Int × Int) := (List.range k).map fun (i : Nat) => (runF s l s.low (i + 1), runF s l s.high (i + 1))
theorem enclL_length (s : SledI) (l : List (Int × Int)) (k : Nat) : (enclL s l k).length = k := by simp [enclL]
theorem take_encl (s : SledI) (l : List (Int × Int)) (k i : Nat) (h : i < k) : (enclL s l k).take (i + 1) = (enclL s l k).take i ++ [(runF s l s.low (i + 1), runF s l s.high (i + 1))] := by
 rw [List.take_add_one]; simp [enclL, h]
theorem runL_get (s : SledI) (l : List (Int × Int)) (g : Int) (k i : Nat) (h : i < k) : (runL s l g k)[i]? = some (runF s l g (i + 1)) := by simp [runL, h]

theorem encl97 {n : Nat} (hn : 3 ≤ n) {s : SledI} (hs : SledOk s) {l : List (Int × Int)} (h : Valid l) (k : Nat) (hk : k < 1000000) :
  RUN n 97 [sla s, csl l, iv k] = .ret (.own (cI (enclL s l k)) k 2) := by
 obtain ⟨d, rfl⟩ : ∃ d, n = d + 3 := ⟨n - 3, by omega⟩
 rw [RUN, call_eq fe97 _ rfl]
 let so : Obj := .arr [.int .i64 s.low, .int .i64 s.high, .int .i64 s.lag, .int .i64 s.delay, .int .i64 s.load] 0 1
 let inv : Nat → St := fun i => ⟨[(7, .sl 1 i 0 i), (8, .p (.sl (pI (runL s l s.high k)) k)), (24, .p (.sl (pI (runL s l s.low k)) k)), (25, iv k), (26, iv i)], [(1, .arr (cI ((enclL s l k).take i)) i 2), (0, so)]⟩
 have hvl := enclL_length s l k
 have htl : (enclL s l k).take k = enclL s l k := List.take_of_length_le (by omega)
 have r1 := run96 (n := d + 2) (by omega) hs h (g := s.high) (by have := hs.high; omega) hs.high.2 k hk
 have r2 := run96 (n := d + 2) (by omega) hs h (g := s.low) (by have := hs.low; omega) hs.low.2 k hk
 simp -implicitDefEqProofs [c97, r1, r2]
 rw [loop_run inv k (e := .exit 0) (st' := ⟨(inv k).env ++ [(27, .p (.bool false))], (inv k).sto⟩) (by simp)]
 ·simp -implicitDefEqProofs [inv, so, htl, hvl]
 ·rfl
 ·intro i hi
  have hlim : i + 1 ≤ lim := by simp only [lim]; omega
  have hto : ((enclL s l k).take i).length = i := by simp [hvl]; omega
  have g1 := runL_get s l s.low k i hi
  have g2 := runL_get s l s.high k i hi
  have n1 := runL_length s l s.low k
  have n2 := runL_length s l s.high k
  have ht := take_encl s l k i hi
  have hi' : (i : Int) < k := by omega
  simp -implicitDefEqProofs [inv, so, loopS_eq, c97L0, hi, hi', hlim, hto, n1, n2, wrap_succ (i := i) (by omega), ht, ← cI_snoc]
  exact ⟨by simp [runL], by simp [runL]⟩
 ·simp [inv, loopS_eq, c97L0]
 ·simp [loopFuel]; omega

def badN (s : SledI) (l : List (Int × Int)) (k : Int) : Int := firstE [sledE s, settingE l, rangeE 1 64 k]

theorem encl16 {n : Nat} (hn : 5 ≤ n) (s : SledI) (l : List (Int × Int)) (k : Int) (hl : l.length < 1000000) :
  RUN n 16 [sla s, csl l, iv k] = .ret (if badN s l k = 0 then .tup [.p (.sl (cI (enclL s l k.toNat)) k.toNat), iv 0] else .tup [.p (.sl [] 0), iv (badN s l k)]) := by
 obtain ⟨d, rfl⟩ : ∃ d, n = d + 5 := ⟨n - 5, by omega⟩
 rw [RUN, call_eq fe16 _ rfl]
 have h0 := sled27 (n := d + 4) (by omega) s
 have h1 := setting28 (n := d + 4) (by omega) l hl
 have h2 := ticks93 (n := d + 4) (by omega) k
 have h4 := first92_3 (n := d + 4) (by omega) (sledE s) (settingE l) (rangeE 1 64 k)
 have hb : firstE [sledE s, settingE l, rangeE 1 64 k] = badN s l k := rfl
 by_cases h : badN s l k = 0
 ·have hz := firstE_zero.1 h
  have hs := sled_of (hz (sledE s) (by simp))
  have hv := valid_of (hz (settingE l) (by simp))
  have hk := rangeE_zero.1 (hz (rangeE 1 64 k) (by simp))
  obtain ⟨m, rfl⟩ : ∃ m : Nat, k = m := ⟨k.toNat, by omega⟩
  have hr := encl97 (n := d + 4) (by omega) hs hv m (by omega)
  rw [if_pos h]
  simp only [Int.toNat_natCast]
  simp -implicitDefEqProofs [c16, h0, h1, h2, h4, hb, h, hr]
 ·rw [if_neg h]
  simp -implicitDefEqProofs [c16, h0, h1, h2, h4, hb, h]

/-! is there one of which something holds? -/

theorem index150 {d : Nat} (c : List (Int × Int)) (f : Nat) (caps : List PVal) (g : Int × Int → Bool) (hn : ∀ p ∈ caps, nrm p = p) (hl : c.length < 1000000) (hf : ∀ x ∈ c, RUN d f (.agg [iv x.1, iv x.2] :: caps.map .p) = .ret (.p (.bool (g x)))) :
  ∃ r : Int, RUN (d + 1) 150 [csl c, .p (.clo f [] caps)] = .ret (iv r) ∧ (0 ≤ r ↔ c.any g = true) := by
 rw [RUN, call_eq fe150 _ rfl]
 generalize hB : c.any g = B
 let inv : Nat → St := fun i => ⟨[(0, csl c), (1, .p (.clo f [] caps)), (7, iv c.length), (8, iv i)], []⟩
 let e : Nat → Int := fun i => if g (c.getD i (0, 0)) then 1 else 0
 simp -implicitDefEqProofs [c150]
 have key := loop_first (step := loopS (evFn F C0 G0 d) C0 G0 0 true [0, 1, 7, 8] c150L0) inv e c.length (.exit 0, ⟨(inv c.length).env ++ [(9, .p (.bool false))], []⟩) (fun i => (.ret, ⟨[(4, iv i)], []⟩))
  (st0 := ⟨[(0, csl c), (1, .p (.clo f [] caps)), (7, iv c.length), (8, iv 0)], []⟩) rfl ?_ (fun i => by simp) (by simp [inv, loopS_eq, c150L0]) (by simp) (fuel := loopFuel) (by simp [loopFuel]; omega)
 ·rcases key with ⟨k1, k2⟩ | ⟨j, hj, k1, k2, k3, k4⟩
  ·refine ⟨-1, ?_, ?_⟩
   ·rw [k1]
    simp -implicitDefEqProofs [inv]
   ·have : c.any g = false := by
     rw [List.any_eq_false]
     intro x hx
     obtain ⟨i, hi, rfl⟩ := List.getElem_of_mem hx
     have h1 := firstE_zero.1 k2 (e i) (List.mem_map.2 ⟨i, by simpa using hi, rfl⟩)
     have h2 : c.getD i (0, 0) = c[i] := by simp [List.getD_eq_getElem?_getD, List.getElem?_eq_getElem hi]
     simp only [e, h2] at h1
     intro hg
     rw [if_pos hg] at h1
     omega
    rw [hB] at this; subst this; simp
  ·refine ⟨j, ?_, ?_⟩
   ·rw [k1]
    simp -implicitDefEqProofs
   ·have h2 : c.getD j (0, 0) = c[j] := by simp [List.getD_eq_getElem?_getD, List.getElem?_eq_getElem hj]
    have : c.any g = true := by
     rw [List.any_eq_true]
     refine ⟨c[j], List.getElem_mem hj, ?_⟩
     refine Classical.byContradiction (fun hc => k3 ?_)
     simp only [e, h2]
     rw [if_neg hc]
    rw [hB] at this; subst this; simp
 ·intro i hi
  have hx := cI_drop c i hi
  have hlt : i * 2 < c.length * 2 := by omega
  have hlt' : (i : Int) < c.length := by omega
  have hgi : c.getD i (0, 0) = c[i] := by simp [List.getD_eq_getElem?_getD, List.getElem?_eq_getElem hi]
  have h1 := hf c[i] (List.getElem_mem hi)
  refine ⟨fun hz => ⟨inv (i + 1), ?_, rfl⟩, fun hz => ?_⟩
  ·have hg : g c[i] = false := by
    refine Bool.eq_false_iff.2 (fun hc => ?_)
    simp only [e, hgi, hc, if_true] at hz
    omega
   rw [hg] at h1
   simp -implicitDefEqProofs [inv, loopS_eq, c150L0, hx, hlt, hlt', h1, Function.comp_def, nrm_list hn, wrap_succ (i := i) (by omega)]
  ·have hg : g c[i] = true := by
    refine Classical.byContradiction (fun hc => hz ?_)
    simp only [e, hgi]
    rw [if_neg hc]
   rw [hg] at h1
   simp -implicitDefEqProofs [inv, loopS_eq, c150L0, hx, hlt, hlt', h1, Function.comp_def, nrm_list hn]

theorem contains98 {d : Nat} (c : List (Int × Int)) (f : Nat) (caps : List PVal) (g : Int × Int → Bool) (hn : ∀ p ∈ caps, nrm p = p) (hl : c.length < 1000000) (hf : ∀ x ∈ c, RUN d f (.agg [iv x.1, iv x.2] :: caps.map .p) = .ret (.p (.bool (g x)))) :
  RUN (d + 2) 98 [csl c, .p (.clo f [] caps)] = .ret (.p (.bool (c.any g))) := by
 obtain ⟨r, h1, h2⟩ := index150 c f caps g hn hl hf
 rw [RUN, call_eq fe98 _ rfl]
 have h3 : decide (0 ≤ r) = c.any g := by rw [Bool.eq_iff_iff]; simpa using h2
 simp -implicitDefEqProofs [c98, h1, h3]

abbrev slc (s : SledI) : List PVal := [.int .i64 s.low, .int .i64 s.high, .int .i64 s.lag, .int .i64 s.delay, .int .i64 s.load]

theorem high99 {n : Nat} (hn : 1 ≤ n) (s : SledI) (x : Int × Int) : RUN n 99 [.agg [iv x.1, iv x.2], .p (.pp (slc s))] = .ret (.p (.bool (decide (s.load < x.2)))) := by
 obtain ⟨d, rfl⟩ : ∃ d, n = d + 1 := ⟨n - 1, by omega⟩
 rw [RUN, call_eq fe99 _ rfl]
 simp -implicitDefEqProofs [c99]

def safeB (s : SledI) (l : List (Int × Int)) (k : Nat) : Bool := !(enclL s l k).any fun x => decide (s.load < x.2)

theorem safe17 {n : Nat} (hn : 6 ≤ n) (s : SledI) (l : List (Int × Int)) (k : Int) (hl : l.length < 1000000) :
  RUN n 17 [sla s, csl l, iv k] = .ret (.tup [.p (.bool (if badN s l k = 0 then safeB s l k.toNat else false)), iv (badN s l k)]) := by
 obtain ⟨d, rfl⟩ : ∃ d, n = d + 6 := ⟨n - 6, by omega⟩
 rw [RUN, call_eq fe17 _ rfl]
 have h1 := encl16 (n := d + 5) (by omega) s l k hl
 by_cases h : badN s l k = 0
 ·have hk := rangeE_zero.1 (firstE_zero.1 h (rangeE 1 64 k) (by simp))
  rw [if_pos h] at h1 ⊢
  have h2 := contains98 (d := d + 3) (enclL s l k.toNat) 99 [.pp (slc s)] (fun x => decide (s.load < x.2)) (by simp) (by rw [enclL_length]; omega) (fun x _ => high99 (n := d + 3) (by omega) s x)
  simp only [csl, enclL_length] at h2
  simp -implicitDefEqProofs [c17, h1, h, h2, safeB]
 ·rw [if_neg h] at h1 ⊢
  simp -implicitDefEqProofs [c17, h1, h]

end Fw
