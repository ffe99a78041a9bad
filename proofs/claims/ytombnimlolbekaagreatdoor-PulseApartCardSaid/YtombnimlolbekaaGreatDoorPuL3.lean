/- Corridors and pulses, checked: the pulse chapter and its reference. -/
import Derived.Test.YtombnimlolbekaaGreatDoorPuL2
set_option maxHeartbeats 8000000
namespace Fw
open Go
attribute [local irreducible] evCode evOps evOpsD evOper evOperD evOp evFn loopN T.All T.bind callPure callOp opsK opsDK restK seqK blockK loopS setK setQ giveK scalK gcK finish finS rfunK yldK yldB loopK

def corrE (c : List (Int × Int)) : Int := if sizedE c.length 64 = 0 then firstE (c.map (ivE 0 10000)) else sizedE c.length 64
def pulseE (p : List Int) : Int := firstE [sizedE p.length 64, accE p]
def fitE (c : List (Int × Int)) (p : List Int) : Int := firstE [whenE ((p.length : Int) != c.length) 2, accE p]

theorem corr43 {n : Nat} (hn : 6 ≤ n) (c : List (Int × Int)) (hl : c.length < 1000000) : RUN n 43 [csl c] = .ret (iv (corrE c)) := by
 obtain ⟨d, rfl⟩ : ∃ d, n = d + 6 := ⟨n - 6, by omega⟩
 rw [RUN, call_eq fe43 _ rfl]
 have h1 := map113 (n := d + 5) (by omega) c hl
 have h2 := first92 (n := d + 5) (by omega) (c.map (ivE 0 10000)) (by simpa using hl)
 have h3 := sized106 (n := d + 5) (by omega) c.length 64
 simp only [List.length_map] at h2
 by_cases h : sizedE c.length 64 = 0 <;> simp -implicitDefEqProofs [c43, h1, h2, h3, h, corrE]

theorem pulse110 {n : Nat} (hn : 6 ≤ n) (p : List Int) (hl : p.length < 1000000) : RUN n 110 [isl p] = .ret (iv (pulseE p)) := by
 obtain ⟨d, rfl⟩ : ∃ d, n = d + 6 := ⟨n - 6, by omega⟩
 rw [RUN, call_eq fe110 _ rfl]
 simp -implicitDefEqProofs [c110, acc151 (n := d + 5) (by omega) p hl, sized106 (n := d + 5), first92_2 (n := d + 5), pulseE]

theorem fit108 {n : Nat} (hn : 6 ≤ n) (c : List (Int × Int)) (p : List Int) (hl : p.length < 1000000) : RUN n 108 [csl c, isl p] = .ret (iv (fitE c p)) := by
 obtain ⟨d, rfl⟩ : ∃ d, n = d + 6 := ⟨n - 6, by omega⟩
 rw [RUN, call_eq fe108 _ rfl]
 simp -implicitDefEqProofs [c108, acc151 (n := d + 5) (by omega) p hl, when107 (n := d + 5), first92_2 (n := d + 5), fitE]

theorem firstE_cons (e : Int) (r : List Int) : firstE (e :: r) = if e = 0 then firstE r else e := rfl

/-! the reference -/

theorem values112 {n : Nat} (hn : 3 ≤ n) (p : List Int) (hl : p.length < 1000000) : RUN n 112 [isl p] = .ret (iv (accE p)) := by
 obtain ⟨d, rfl⟩ : ∃ d, n = d + 3 := ⟨n - 3, by omega⟩
 rw [RUN, call_eq fe112 _ rfl]
 let es := p.map (rangeE (-100000) 100000)
 have hel : es.length = p.length := by simp [es]
 let inv : Nat → St := fun i => ⟨[(0, isl p), (3, iv i)], []⟩
 let out : Nat → Ex × St := fun i => if firstE (es.drop i) = 0 then (.exit 0, ⟨[(0, isl p), (3, iv p.length), (8, .p (.bool false))], []⟩) else (.ret, ⟨[(2, iv (firstE (es.drop i)))], []⟩)
 simp [c112]
 rw [loop_rec inv out p.length (by rfl)]
 ·have : accE p = firstE es := rfl
  rw [this]
  by_cases h : firstE es = 0 <;> simp [out, h]
 ·intro i hi
  have hx : p[i]? = some p[i] := List.getElem?_eq_getElem hi
  have hd : firstE (es.drop i) = if rangeE (-100000) 100000 p[i] = 0 then firstE (es.drop (i + 1)) else rangeE (-100000) 100000 p[i] := by
   rw [List.drop_eq_getElem_cons (by omega), firstE_cons]; simp [es]
  have hr := range101 (n := d + 2) (by omega) p[i] (-100000) 100000
  generalize rangeE (-100000) 100000 p[i] = e at hd hr
  by_cases h : e = 0
  ·refine .inl ⟨?_, ?_⟩
   ·simp -implicitDefEqProofs [inv, loopS_eq, c112L0, hi, h, hr, wrap_succ (i := i) (by omega)]
   ·simp [out, hd, h]
  ·refine .inr ⟨?_, ?_⟩
   ·simp -implicitDefEqProofs [inv, loopS_eq, c112L0, hi, h, hr, out, hd]
   ·simp [out, hd, h]
 ·have : es.drop p.length = [] := List.drop_of_length_le (by omega)
  simp [inv, loopS_eq, c112L0, out, this, firstE]
 ·simp [loopFuel]; omega

theorem corr37 {n : Nat} (hn : 4 ≤ n) (c : List (Int × Int)) (hl : c.length < 1000000) : RUN n 37 [csl c] = .ret (iv (corrE c)) := by
 obtain ⟨d, rfl⟩ : ∃ d, n = d + 4 := ⟨n - 4, by omega⟩
 rw [RUN, call_eq fe37 _ rfl]
 let es := c.map (ivE 0 10000)
 have hel : es.length = c.length := by simp [es]
 let inv : Nat → St := fun i => ⟨[(0, csl c), (4, iv i)], []⟩
 let out : Nat → Ex × St := fun i => if firstE (es.drop i) = 0 then (.exit 0, ⟨[(0, csl c), (4, iv c.length), (22, .p (.bool false))], []⟩) else (.ret, ⟨[(2, iv (firstE (es.drop i)))], []⟩)
 have hs : firstE [whenE ((c.length : Int) == 0) 12, whenE (decide ((64 : Int) < c.length)) 5] = sizedE c.length 64 := rfl
 have hc : corrE c = if sizedE c.length 64 = 0 then firstE es else sizedE c.length 64 := rfl
 rw [hc]
 by_cases hz : sizedE c.length 64 = 0
 ·simp -implicitDefEqProofs [c37, when46 (n := d + 3), first100_2 (n := d + 3), hs, hz]
  rw [loop_rec inv out c.length (by rfl)]
  ·by_cases h : firstE es = 0 <;> simp [out, h]
  ·intro i hi
   have hx := cI_drop c i hi
   have hlt : i * 2 < c.length * 2 := by omega
   have hd : firstE (es.drop i) = if ivE 0 10000 c[i] = 0 then firstE (es.drop (i + 1)) else ivE 0 10000 c[i] := by
    rw [List.drop_eq_getElem_cons (by omega), firstE_cons]; simp [es]
   have hr := ends102 (n := d + 3) (by omega) c[i] 0 10000
   generalize ivE 0 10000 c[i] = e at hd hr
   by_cases h : e = 0
   ·refine .inl ⟨?_, ?_⟩
    ·simp -implicitDefEqProofs [inv, loopS_eq, c37L0, hi, hx, hlt, h, hr, wrap_succ (i := i) (by omega)]
    ·simp [out, hd, h]
   ·refine .inr ⟨?_, ?_⟩
    ·simp -implicitDefEqProofs [inv, loopS_eq, c37L0, hi, hx, hlt, h, hr, out, hd]
    ·simp [out, hd, h]
  ·have : es.drop c.length = [] := List.drop_of_length_le (by omega)
   simp [inv, loopS_eq, c37L0, out, this, firstE]
  ·simp [loopFuel]; omega
 ·simp -implicitDefEqProofs [c37, when46 (n := d + 3), first100_2 (n := d + 3), hs, hz]

theorem pulse39 {n : Nat} (hn : 4 ≤ n) (p : List Int) (hl : p.length < 1000000) : RUN n 39 [isl p] = .ret (iv (pulseE p)) := by
 obtain ⟨d, rfl⟩ : ∃ d, n = d + 4 := ⟨n - 4, by omega⟩
 rw [RUN, call_eq fe39 _ rfl]
 have hs : firstE [whenE ((p.length : Int) == 0) 12, whenE (decide ((64 : Int) < p.length)) 5, accE p] = pulseE p := by
  simp only [pulseE, sizedE, firstE]
  by_cases h1 : whenE ((p.length : Int) == 0) 12 = 0 <;> by_cases h2 : whenE (decide ((64 : Int) < p.length)) 5 = 0 <;> simp [h1, h2]
 simp -implicitDefEqProofs [c39, values112 (n := d + 3) (by omega) p hl, when46 (n := d + 3), first100_3 (n := d + 3), hs]
end Fw
