/- Lists that are checked; the pulse chapter and its reference. -/
import Derived.Test.YtombnimlolbekaaGreatDoorPuL1
import Derived.Test.YtombnimlolbekaaGreatDoorFwC
set_option maxHeartbeats 8000000
namespace Fw
open Go
attribute [local irreducible] evCode evOps evOpsD evOper evOperD evOp evFn loopN T.All T.bind callPure callOp opsK opsDK restK seqK blockK loopS setK setQ giveK scalK gcK finish finS rfunK yldK yldB loopK

abbrev isl (l : List Int) : AVal := .p (.sl (pI l) l.length)
abbrev csl (c : List (Int × Int)) : AVal := .p (.sl (cI c) c.length)

theorem pair114 {n : Nat} (hn : 4 ≤ n) (x : Int × Int) : RUN n 114 [.agg [iv x.1, iv x.2]] = .ret (iv (ivE 0 10000 x)) := by
 obtain ⟨d, rfl⟩ : ∃ d, n = d + 4 := ⟨n - 4, by omega⟩
 rw [RUN, call_eq fe114 _ rfl]
 simp [c114, interval105 (n := d + 3) (by omega) x]

theorem accel179 {n : Nat} (hn : 3 ≤ n) (x : Int) : RUN n 179 [iv x] = .ret (iv (rangeE (-100000) 100000 x)) := by
 obtain ⟨d, rfl⟩ : ∃ d, n = d + 3 := ⟨n - 3, by omega⟩
 rw [RUN, call_eq fe179 _ rfl]
 simp [c179, within95 (n := d + 2)]

theorem m178 : c178 = mapC (.p (.int .i64 0)) 8 := rfl

def onI (g : Int → Int) : PVal → PVal
 | .int .i64 x => .int .i64 (g x)
 | c => c

theorem pI_map (l : List Int) (g : Int → Int) : (pI l).map (onI g) = pI (l.map g) := by
 simp [pI, onI]

theorem mapI_ok {k : Nat} (hF : F k = some (mapC (.p (.int .i64 0)) 8)) (hC : ∀ as, C0 k as = none) {d : Nat} (l : List Int) (f : Nat) (g : Int → Int) (hl : l.length < 1000000) (hg : ∀ x ∈ l, RUN d f [iv x] = .ret (iv (g x))) :
  RUN (d + 1) k [isl l, .p (.clo f [] [])] = .ret (.own (pI (l.map g)) l.length 1) := by
 have := map_ok (C := C0) (G := G0) (d := d) hF (by decide) hC (pI l) f [] (onI g) (by simpa using hl) (by simp) (fun c hc => by
  obtain ⟨x, hx, rfl⟩ := List.mem_map.1 hc
  refine ⟨?_, rfl⟩
  simp only [nrm_int, List.map_nil]
  exact hg x hx)
 rw [pI_map, pI_length] at this
 exact this

theorem fc178 : F 178 = some (mapC (.p (.int .i64 0)) 8) := m178 ▸ fe178

theorem map178 {n : Nat} (hn : 4 ≤ n) (l : List Int) (hl : l.length < 1000000) : RUN n 178 [isl l, .p (.clo 179 [] [])] = .ret (.own (pI (l.map (rangeE (-100000) 100000))) l.length 1) := by
 obtain ⟨d, rfl⟩ : ∃ d, n = d + 4 := ⟨n - 4, by omega⟩
 exact mapI_ok fc178 (fun _ => rfl) l 179 (rangeE (-100000) 100000) hl (fun x _ => accel179 (n := d + 3) (by omega) x)

def accE (p : List Int) : Int := firstE (p.map (rangeE (-100000) 100000))

theorem acc151 {n : Nat} (hn : 5 ≤ n) (p : List Int) (hl : p.length < 1000000) : RUN n 151 [isl p] = .ret (iv (accE p)) := by
 obtain ⟨d, rfl⟩ : ∃ d, n = d + 5 := ⟨n - 5, by omega⟩
 rw [RUN, call_eq fe151 _ rfl]
 have h1 := map178 (n := d + 4) (by omega) p hl
 have h2 := first92 (n := d + 4) (by omega) (p.map (rangeE (-100000) 100000)) (by simpa using hl)
 simp only [List.length_map] at h2
 simp -implicitDefEqProofs [c151, h1, h2, accE]

theorem map113 {n : Nat} (hn : 5 ≤ n) (c : List (Int × Int)) (hl : c.length < 1000000) : RUN n 113 [csl c, .p (.clo 114 [] [])] = .ret (.own (pI (c.map (ivE 0 10000))) c.length 1) := by
 obtain ⟨d, rfl⟩ : ∃ d, n = d + 5 := ⟨n - 5, by omega⟩
 rw [RUN, call_eq fe113 _ rfl]
 let outs := c.map (ivE 0 10000)
 let inv : Nat → St := fun i => ⟨[(1, .p (.clo 114 [] [])), (5, .sl 0 i 0 i), (8, csl c), (9, iv c.length), (10, iv i)], [(0, .arr (pI (outs.take i)) i 1)]⟩
 have hol : outs.length = c.length := by simp [outs]
 simp [c113]
 rw [loop_run' inv c.length (e := .exit 0) (st' := ⟨(inv c.length).env ++ [(11, .p (.bool false))], (inv c.length).sto⟩) (by simp)]
 ·simp [inv, outs]
  rw [List.take_of_length_le (by simp)]
 ·rfl
 ·intro i hi
  have hx := cI_drop c i hi
  have hlim : i + 1 ≤ lim := by simp only [lim]; omega
  have h1 := pair114 (n := d + 4) (by omega) c[i]
  have hm : min i c.length = i := by omega
  have hlt : i * 2 < c.length * 2 := by omega
  have ht : outs.take (i + 1) = outs.take i ++ [ivE 0 10000 c[i]] := by rw [List.take_add_one]; simp [outs, hi]
  have hto : (outs.take i).length = i := by simp [hol, hm]
  refine ⟨⟨(inv (i + 1)).env, (1, .arr [.int .i64 c[i].1, .int .i64 c[i].2] 0 1) :: (inv (i + 1)).sto⟩, ?_, ?_⟩
  ·simp [inv, loopS_eq, c113L0, hi, hx, hlt, hlim, h1, hto, wrap_succ (i := i) (by omega), ht, ← pI_snoc]
  ·exact loopS_same rfl (by simp [inv])
 ·simp [inv, loopS_eq, c113L0]
 ·simp [loopFuel]; omega
end Fw
