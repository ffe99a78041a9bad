/- Several texts in one: steps of the proof, no condition of their own. -/
import Derived.Test.YtombnimlolbekaaGreatDoorPuS5
attribute [local irreducible] Fw.evCode Fw.evOps Fw.evOpsD Fw.evOper Fw.evOperD Fw.evOp Fw.evFn Fw.loopN Fw.T.All Fw.T.bind Fw.callPure Fw.callOp Fw.opsK Fw.opsDK Fw.restK Fw.seqK Fw.blockK Fw.loopS Fw.setK Fw.setQ Fw.giveK Fw.scalK Fw.gcK Fw.finish Fw.finS Fw.rfunK Fw.yldK Fw.yldB Fw.loopK
section
set_option maxHeartbeats 8000000
namespace Fw
open Go

def lsl (l : List Int) : PVal := .sl (pI l) l.length
def pL (ls : List (List Int)) : List PVal := ls.map lsl
abbrev llsl (ls : List (List Int)) : AVal := .p (.sl (pL ls) ls.length)
@[simp] theorem pL_length (ls : List (List Int)) : (pL ls).length = ls.length := by simp [pL]
@[simp] theorem pL_get (ls : List (List Int)) (i : Nat) : (pL ls)[i]? = (ls[i]?).map lsl := by simp [pL]
@[simp] theorem pL_getElem (ls : List (List Int)) (i : Nat) (h : i < (pL ls).length) : (pL ls)[i] = lsl (ls[i]'(by simpa using h)) := by simp [pL]
theorem pL_snoc (ls : List (List Int)) (x : List Int) : pL ls ++ [lsl x] = pL (ls ++ [x]) := by simp [pL]
@[simp] theorem nrm_lsl (l : List Int) : nrm (lsl l) = lsl l := rfl
@[simp] theorem scalarP_lsl (l : List Int) : scalarP (lsl l) = false := rfl

theorem runs57 {n : Nat} (hn : 2 ≤ n) (ls : List (List Int)) (hl : ls.length < 1000000) (hi : ∀ l ∈ ls, l.length < 1000000) : RUN n 57 [llsl ls] = .ret (.own (pL ls) ls.length 1) := by
 obtain ⟨d, rfl⟩ : ∃ d, n = d + 2 := ⟨n - 2, by omega⟩
 rw [RUN, call_eq fe57 _ rfl]
 let inv : Nat → St := fun i => ⟨[(3, .sl 0 i 0 i), (6, llsl ls), (7, iv ls.length), (8, iv i)], [(0, .arr (pL (ls.take i)) i 1)]⟩
 have htl : ls.take ls.length = ls := List.take_of_length_le (by omega)
 simp -implicitDefEqProofs [c57]
 rw [loop_run inv ls.length (e := .exit 0) (st' := ⟨(inv ls.length).env ++ [(9, .p (.bool false))], (inv ls.length).sto⟩) (by simp)]
 ·simp -implicitDefEqProofs [inv, htl]
 ·rfl
 ·intro i hi'
  have hlt' : (i : Int) < ls.length := by omega
  have hlim : i + 1 ≤ lim := by simp only [lim]; omega
  have hto : (ls.take i).length = i := by simp; omega
  have ht : pL (ls.take (i + 1)) = pL (ls.take i) ++ [.sl (pI ls[i]) ls[i].length] := by
   rw [show (PVal.sl (pI ls[i]) ls[i].length) = lsl ls[i] from rfl, pL_snoc, List.take_append_getElem]
  have h33 := (ints33 (n := d + 1) (by omega) ls[i] (hi _ (List.getElem_mem hi'))).choose_spec.1
  have h33' : callPure (evFn F C0 G0 (d + 1)) C0 (.fn 33) [.p (lsl ls[i])] = .ret (.own (pI ls[i]) ls[i].length 1) := h33
  simp -implicitDefEqProofs [inv, loopS_eq, c57L0, hi', hlt', hlim, hto, h33', wrap_succ (i := i) (by omega), ht]
 ·simp [inv, loopS_eq, c57L0]
 ·simp [loopFuel]; omega

def runE (ls : List (List Int)) (l : List Int) : Int := firstE [pulseE l, whenE ((l.length : Int) != (ls.getD 0 []).length) 2]
def runsE (ls : List (List Int)) : Int := if sizedE ls.length 8 = 0 then firstE (ls.map (runE ls)) else sizedE ls.length 8

theorem run157 {n : Nat} (hn : 7 ≤ n) (ls : List (List Int)) (h0 : 0 < ls.length) (l : List Int) (hl : l.length < 1000000) : RUN n 157 [.p (lsl l), .p (.pp [.sl (pL ls) ls.length])] = .ret (iv (runE ls l)) := by
 obtain ⟨d, rfl⟩ : ∃ d, n = d + 7 := ⟨n - 7, by omega⟩
 rw [RUN, call_eq fe157 _ rfl]
 have hg : ls.getD 0 [] = ls[0] := by simp [List.getD_eq_getElem?_getD, List.getElem?_eq_getElem h0]
 have h1 := pulse110 (n := d + 6) (by omega) l hl
 have h1' : callPure (evFn F C0 G0 (d + 6)) C0 (.fn 110) [.p (lsl l)] = .ret (iv (pulseE l)) := h1
 have he : runE ls l = firstE [pulseE l, whenE ((l.length : Int) != ls[0].length) 2] := by rw [runE, hg]
 rw [he]
 have hlen : ∀ (l : List Int), lsl l = .sl (pI l) l.length := fun _ => rfl
 simp only [hlen] at h1' ⊢
 have hd : ∃ r, pL ls = .sl (pI ls[0]) ls[0].length :: r := by
  cases ls with
  | nil => simp at h0
  | cons x r => exact ⟨pL r, rfl⟩
 obtain ⟨r, hr⟩ := hd
 simp -implicitDefEqProofs [c157, h1', hr, h0, when107 (n := d + 6), first92_2 (n := d + 6)]
end Fw
end

section
set_option maxHeartbeats 8000000
namespace Fw
open Go

def unI (cs : List PVal) : List Int := cs.map fun c => match c with
 | .int _ n => n
 | _ => 0
theorem unI_pI (l : List Int) : unI (pI l) = l := by
 induction l with
 | nil => rfl
 | cons x r ih => simp only [unI, pI, List.map_cons] at ih ⊢; rw [ih]
def onL (g : List Int → Int) : PVal → PVal
 | .sl cs _ => .int .i64 (g (unI cs))
 | c => c
theorem onL_lsl (g : List Int → Int) (l : List Int) : onL g (lsl l) = .int .i64 (g l) := by simp only [onL, lsl, unI_pI]
theorem pL_map (g : List Int → Int) (ls : List (List Int)) : (pL ls).map (onL g) = pI (ls.map g) := by
 induction ls with
 | nil => rfl
 | cons x r ih => simp only [pL, pI, List.map_cons] at ih ⊢; rw [ih, onL_lsl]

theorem mapL_ok {k : Nat} (hF : F k = some (mapC (.p (.int .i64 0)) 8)) (hC : ∀ as, C0 k as = none) {d : Nat} (ls : List (List Int)) (f : Nat) (caps : List PVal) (hn : ∀ c ∈ caps, nrm c = c) (g : List Int → Int) (hl : ls.length < 1000000) (hg : ∀ x ∈ ls, RUN d f (.p (lsl x) :: caps.map .p) = .ret (iv (g x))) :
  RUN (d + 1) k [llsl ls, .p (.clo f [] caps)] = .ret (.own (pI (ls.map g)) ls.length 1) := by
 have := map_ok (C := C0) (G := G0) (d := d) hF (by decide) hC (pL ls) f caps (onL g) (by simpa using hl) hn (fun c hc => by
  obtain ⟨x, hx, rfl⟩ := List.mem_map.1 hc
  rw [onL_lsl]
  refine ⟨?_, rfl⟩
  rw [nrm_lsl]
  exact hg x hx)
 rw [pL_map, pL_length] at this
 exact this

theorem m156 : c156 = mapC (.p (.int .i64 0)) 8 := rfl
theorem fc156 : F 156 = some (mapC (.p (.int .i64 0)) 8) := m156 ▸ fe156

theorem runs120 {n : Nat} (hn : 9 ≤ n) (ls : List (List Int)) (hl : ls.length < 1000000) (hi : ∀ l ∈ ls, l.length < 1000000) : RUN n 120 [llsl ls] = .ret (iv (runsE ls)) := by
 obtain ⟨d, rfl⟩ : ∃ d, n = d + 9 := ⟨n - 9, by omega⟩
 rw [RUN, call_eq fe120 _ rfl]
 have h3 := sized106 (n := d + 8) (by omega) ls.length 8
 have hc : runsE ls = if sizedE ls.length 8 = 0 then firstE (ls.map (runE ls)) else sizedE ls.length 8 := rfl
 rw [hc]
 by_cases h : sizedE ls.length 8 = 0
 ·have h0 : 0 < ls.length := by
   have := (sizedE_zero.1 h).1
   omega
  have h1 := mapL_ok fc156 (fun _ => rfl) (d := d + 7) ls 157 [.pp [.sl (pL ls) ls.length]] (by simp) (runE ls) hl (fun x hx => run157 (n := d + 7) (by omega) ls h0 x (hi x hx))
  have h2 := first92 (n := d + 8) (by omega) (ls.map (runE ls)) (by simpa using hl)
  simp only [List.length_map] at h2
  rw [if_pos h]
  simp -implicitDefEqProofs [c120, h1, h2, h3, h]
 ·rw [if_neg h]
  simp -implicitDefEqProofs [c120, h3, h]

theorem runs61 {n : Nat} (hn : 5 ≤ n) (ls : List (List Int)) (hl : ls.length < 1000000) (hi : ∀ l ∈ ls, l.length < 1000000) : RUN n 61 [llsl ls] = .ret (iv (runsE ls)) := by
 obtain ⟨d, rfl⟩ : ∃ d, n = d + 5 := ⟨n - 5, by omega⟩
 rw [RUN, call_eq fe61 _ rfl]
 let inv : Nat → St := fun i => ⟨[(0, llsl ls), (4, iv i)], []⟩
 let e : Nat → Int := fun i => runE ls (ls.getD i [])
 have hs : firstE [whenE ((ls.length : Int) == 0) 12, whenE (decide ((8 : Int) < ls.length)) 5] = sizedE ls.length 8 := rfl
 have hc : runsE ls = if sizedE ls.length 8 = 0 then firstE (ls.map (runE ls)) else sizedE ls.length 8 := rfl
 have hm : ls.map (runE ls) = (List.range ls.length).map e := by
  refine List.ext_getElem (by simp) (fun i h1 h2 => ?_)
  have : i < ls.length := by simpa using h1
  simp [e, List.getElem?_eq_getElem this]
 rw [hc, hm]
 by_cases hz : sizedE ls.length 8 = 0
 ·have h0 : 0 < ls.length := by
   have := (sizedE_zero.1 hz).1
   omega
  rw [if_pos hz]
  simp -implicitDefEqProofs [c61, when46 (n := d + 4), first100_2 (n := d + 4), hs, hz]
  have key := loop_first (step := loopS (evFn F C0 G0 (d + 4)) C0 G0 0 false [0, 4] c61L0) inv e ls.length (.exit 0, ⟨(inv ls.length).env ++ [(22, .p (.bool false))], []⟩) (fun i => (.ret, ⟨[(2, iv (e i))], []⟩))
   (st0 := ⟨[(0, llsl ls), (4, iv 0)], []⟩) rfl ?_ (fun i => by simp) (by simp [inv, loopS_eq, c61L0]) (by simp) (fuel := loopFuel) (by simp [loopFuel]; omega)
  ·rcases key with ⟨k1, k2⟩ | ⟨j, hj, k1, k2, k3, _⟩
   ·rw [k1, k2]
    simp -implicitDefEqProofs [inv]
   ·rw [k1, k2]
    simp -implicitDefEqProofs
  ·intro i hi'
   have hlt' : (i : Int) < ls.length := by omega
   have hgi : ls.getD i [] = ls[i] := by simp [List.getD_eq_getElem?_getD, List.getElem?_eq_getElem hi']
   have hg0 : ls.getD 0 [] = ls[0] := by simp [List.getD_eq_getElem?_getD, List.getElem?_eq_getElem h0]
   have hxi : ∃ r, (pL ls).drop i = .sl (pI ls[i]) ls[i].length :: r := by
    refine ⟨(pL ls).drop (i + 1), ?_⟩
    rw [List.drop_eq_getElem_cons (by simpa using hi'), pL_getElem]
    rfl
   obtain ⟨r, hr⟩ := hxi
   have hx0 : ∃ r, pL ls = .sl (pI ls[0]) ls[0].length :: r := by
    cases ls with
    | nil => simp at h0
    | cons x r => exact ⟨pL r, rfl⟩
   obtain ⟨r0, hr0⟩ := hx0
   have h1 := pulse39 (n := d + 4) (by omega) ls[i] (hi _ (List.getElem_mem hi'))
   have he : e i = firstE [pulseE ls[i], whenE ((ls[i].length : Int) != ls[0].length) 2] := by simp only [e, runE, hgi, hg0]
   have h4 := first100_2 (n := d + 4) (by omega) (pulseE ls[i]) (whenE ((ls[i].length : Int) != ls[0].length) 2)
   rw [← he] at h4
   refine ⟨fun hz' => ⟨inv (i + 1), ?_, rfl⟩, fun hz' => ?_⟩
   ·simp -implicitDefEqProofs [inv, loopS_eq, c61L0, hi', hlt', h0, h1, h4, hz', when46 (n := d + 4), lsl, wrap_succ (i := i) (by omega)]
   ·simp -implicitDefEqProofs [inv, loopS_eq, c61L0, hi', hlt', h0, h1, h4, hz', when46 (n := d + 4), lsl]
 ·rw [if_neg hz]
  simp -implicitDefEqProofs [c61, when46 (n := d + 4), first100_2 (n := d + 4), hs, hz]
end Fw
end

section
set_option maxHeartbeats 8000000
namespace Fw
open Go

def loF (l : List Int) : Nat → Int
 | 0 => l.getD 0 0
 | k + 1 => min (loF l k) (l.getD (k + 1) 0)
def hiF (l : List Int) : Nat → Int
 | 0 => l.getD 0 0
 | k + 1 => max (hiF l k) (l.getD (k + 1) 0)

theorem min160 {n : Nat} (hn : 1 ≤ n) (l : List Int) (h0 : 0 < l.length) (hl : l.length < 1000000) : RUN n 160 [isl l] = .ret (iv (loF l (l.length - 1))) := by
 obtain ⟨d, rfl⟩ : ∃ d, n = d + 1 := ⟨n - 1, by omega⟩
 rw [RUN, call_eq fe160 _ rfl]
 obtain ⟨m, hm⟩ : ∃ m, l.length = m + 1 := ⟨l.length - 1, by omega⟩
 have hg0 : l.getD 0 0 = l[0] := by simp [List.getD_eq_getElem?_getD, List.getElem?_eq_getElem h0]
 let inv : Nat → St := fun k => ⟨[(0, isl l), (3, iv (loF l k)), (4, iv (k + 1))], []⟩
 have hlt : ¬ (l.length : Int) < 1 := by omega
 have hx0 : ∃ r, pI l = .int .i64 l[0] :: r := by
  cases l with
  | nil => simp at h0
  | cons x r => exact ⟨pI r, rfl⟩
 obtain ⟨r, hr⟩ := hx0
 have hm1 : l.length - 1 = m := by omega
 have hcast : (l.length : Int) = m + 1 := by omega
 rw [hm1]
 simp -implicitDefEqProofs [c160, hlt, h0, hr]
 rw [loop_run inv m (e := .exit 0) (st' := ⟨(inv m).env ++ [(15, .p (.bool false))], (inv m).sto⟩) (by simp)]
 ·simp -implicitDefEqProofs [inv]
 ·simp only [inv, loF, hg0]; rfl
 ·intro k hk
  have hi : k + 1 < l.length := by omega
  have hgi : l.getD (k + 1) 0 = l[k + 1] := by simp [List.getD_eq_getElem?_getD, List.getElem?_eq_getElem hi]
  have hlo : loF l (k + 1) = min (loF l k) l[k + 1] := by simp only [loF, hgi]
  have hmn : minInt (loF l k) [iv l[k + 1]] = some (min (loF l k) l[k + 1]) := by
   simp only [minInt]
   congr 1
   split <;> omega
  have hb : (k : Int) + 1 < l.length := by omega
  have hbp : (0 : Int) ≤ (k : Int) + 1 := by omega
  have ht : ((k : Int) + 1).toNat = k + 1 := by omega
  have w := wrap64 (n := (k : Int) + 1 + 1) (by omega) (by omega)
  simp -implicitDefEqProofs [inv, loopS_eq, c160L0, hi, hb, hbp, ht, hmn, hlo, w]
 ·have hb : ¬ (m : Int) + 1 < l.length := by omega
  simp -implicitDefEqProofs [inv, loopS_eq, c160L0, hb]
 ·simp [loopFuel]; omega
theorem max161 {n : Nat} (hn : 1 ≤ n) (l : List Int) (h0 : 0 < l.length) (hl : l.length < 1000000) : RUN n 161 [isl l] = .ret (iv (hiF l (l.length - 1))) := by
 obtain ⟨d, rfl⟩ : ∃ d, n = d + 1 := ⟨n - 1, by omega⟩
 rw [RUN, call_eq fe161 _ rfl]
 obtain ⟨m, hm⟩ : ∃ m, l.length = m + 1 := ⟨l.length - 1, by omega⟩
 have hg0 : l.getD 0 0 = l[0] := by simp [List.getD_eq_getElem?_getD, List.getElem?_eq_getElem h0]
 let inv : Nat → St := fun k => ⟨[(0, isl l), (3, iv (hiF l k)), (4, iv (k + 1))], []⟩
 have hlt : ¬ (l.length : Int) < 1 := by omega
 have hx0 : ∃ r, pI l = .int .i64 l[0] :: r := by
  cases l with
  | nil => simp at h0
  | cons x r => exact ⟨pI r, rfl⟩
 obtain ⟨r, hr⟩ := hx0
 have hm1 : l.length - 1 = m := by omega
 have hcast : (l.length : Int) = m + 1 := by omega
 rw [hm1]
 simp -implicitDefEqProofs [c161, hlt, h0, hr]
 rw [loop_run inv m (e := .exit 0) (st' := ⟨(inv m).env ++ [(15, .p (.bool false))], (inv m).sto⟩) (by simp)]
 ·simp -implicitDefEqProofs [inv]
 ·simp only [inv, hiF, hg0]; rfl
 ·intro k hk
  have hi : k + 1 < l.length := by omega
  have hgi : l.getD (k + 1) 0 = l[k + 1] := by simp [List.getD_eq_getElem?_getD, List.getElem?_eq_getElem hi]
  have hhi : hiF l (k + 1) = max (hiF l k) l[k + 1] := by simp only [hiF, hgi]
  have hmx : maxInt (hiF l k) [iv l[k + 1]] = some (max (hiF l k) l[k + 1]) := by
   simp only [maxInt]
   congr 1
   split <;> omega
  have hb : (k : Int) + 1 < l.length := by omega
  have hbp : (0 : Int) ≤ (k : Int) + 1 := by omega
  have ht : ((k : Int) + 1).toNat = k + 1 := by omega
  have w := wrap64 (n := (k : Int) + 1 + 1) (by omega) (by omega)
  simp -implicitDefEqProofs [inv, loopS_eq, c161L0, hi, hb, hbp, ht, hmx, hhi, w]
 ·have hb : ¬ (m : Int) + 1 < l.length := by omega
  simp -implicitDefEqProofs [inv, loopS_eq, c161L0, hb]
 ·simp [loopFuel]; omega

def colL (ls : List (List Int)) (k : Nat) : List Int := ls.map fun l => l.getD k 0
def loC (ls : List (List Int)) (k : Nat) : Int := loF (colL ls k) (ls.length - 1)
def hiC (ls : List (List Int)) (k : Nat) : Int := hiF (colL ls k) (ls.length - 1)
def spreadL (ls : List (List Int)) (m : Nat) : List (Int × Int) := (List.range m).map fun (k : Nat) => (loC ls k, hiC ls k)
theorem spreadL_length (ls : List (List Int)) (m : Nat) : (spreadL ls m).length = m := by simp [spreadL]
theorem take_spread (ls : List (List Int)) (m i : Nat) (h : i < m) : (spreadL ls m).take (i + 1) = (spreadL ls m).take i ++ [(loC ls i, hiC ls i)] := by
 rw [List.take_add_one]; simp [spreadL, h]

theorem at159 {n : Nat} (hn : 1 ≤ n) (l : List Int) (k : Nat) (hk : k < l.length) : RUN n 159 [.p (lsl l), .p (.pp [.int .i64 k])] = .ret (iv (l.getD k 0)) := by
 obtain ⟨d, rfl⟩ : ∃ d, n = d + 1 := ⟨n - 1, by omega⟩
 rw [RUN, call_eq fe159 _ rfl]
 have hg : l.getD k 0 = l[k] := by simp [List.getD_eq_getElem?_getD, List.getElem?_eq_getElem hk]
 have hb : (k : Int) < l.length := by omega
 rw [hg]
 simp -implicitDefEqProofs [c159, lsl, hk, hb]

theorem m158 : c158 = mapC (.p (.int .i64 0)) 8 := rfl
theorem fc158 : F 158 = some (mapC (.p (.int .i64 0)) 8) := m158 ▸ fe158

theorem col158 {n : Nat} (hn : 2 ≤ n) (ls : List (List Int)) (k : Nat) (hl : ls.length < 1000000) (hk : ∀ l ∈ ls, k < l.length) : RUN n 158 [llsl ls, .p (.clo 159 [] [.pp [.int .i64 k]])] = .ret (.own (pI (colL ls k)) ls.length 1) := by
 obtain ⟨d, rfl⟩ : ∃ d, n = d + 2 := ⟨n - 2, by omega⟩
 exact mapL_ok fc158 (fun _ => rfl) (d := d + 1) ls 159 [.pp [.int .i64 k]] (by simp) (fun l => l.getD k 0) hl (fun x hx => at159 (n := d + 1) (by omega) x k (hk x hx))

theorem spread121 {n : Nat} (hn : 3 ≤ n) (ls : List (List Int)) (m : Nat) (h0 : 0 < ls.length) (hl : ls.length < 1000000) (hm : ∀ l ∈ ls, l.length = m) (hm2 : m < 1000000) : RUN n 121 [llsl ls] = .ret (.own (cI (spreadL ls m)) m 2) := by
 obtain ⟨d, rfl⟩ : ∃ d, n = d + 3 := ⟨n - 3, by omega⟩
 rw [RUN, call_eq fe121 _ rfl]
 let inv : Nat → St := fun i => ⟨[(0, llsl ls), (3, .sl 0 i 0 i), (9, iv m), (10, iv i)], [(0, .arr (cI ((spreadL ls m).take i)) i 2)]⟩
 have hvl := spreadL_length ls m
 have htl : (spreadL ls m).take m = spreadL ls m := List.take_of_length_le (by omega)
 have hx0 : ∃ r, pL ls = lsl ls[0] :: r := by
  cases ls with
  | nil => simp at h0
  | cons x r => exact ⟨pL r, rfl⟩
 obtain ⟨r, hr⟩ := hx0
 have hl0 : ls[0].length = m := hm _ (List.getElem_mem h0)
 simp -implicitDefEqProofs [c121, h0, hr, lsl, hl0]
 rw [loop_run' inv m (e := .exit 0) (st' := ⟨(inv m).env ++ [(11, .p (.bool false))], (inv m).sto⟩) (by simp)]
 ·simp -implicitDefEqProofs [inv, htl, hvl]
 ·rfl
 ·intro i hi
  have hlim : i + 1 ≤ lim := by simp only [lim]; omega
  have hto : ((spreadL ls m).take i).length = i := by simp [hvl]; omega
  have ht : cI ((spreadL ls m).take (i + 1)) = cI ((spreadL ls m).take i) ++ [.int .i64 (loC ls i), .int .i64 (hiC ls i)] := by
   rw [take_spread ls m i hi, cI_append]; rfl
  have h1 := col158 (n := d + 2) (by omega) ls i hl (fun l hl' => by rw [hm l hl']; exact hi)
  have hcl : (colL ls i).length = ls.length := by simp [colL]
  have h2 := min160 (n := d + 2) (by omega) (colL ls i) (by omega) (by omega)
  have h3 := max161 (n := d + 2) (by omega) (colL ls i) (by omega) (by omega)
  rw [hcl] at h2 h3
  simp only [isl, hcl] at h2 h3
  have e2 : loF (colL ls i) (ls.length - 1) = loC ls i := rfl
  have e3 : hiF (colL ls i) (ls.length - 1) = hiC ls i := rfl
  rw [e2] at h2
  rw [e3] at h3
  refine ⟨⟨(inv (i + 1)).env, (1, .frz [.int .i64 i] 0 1) :: (inv (i + 1)).sto⟩, ?_, loopS_same rfl (by simp [inv])⟩
  simp -implicitDefEqProofs [inv, loopS_eq, c121L0, hi, hlim, hto, h1, h2, h3, wrap_succ (i := i) (by omega), ht]
 ·simp [inv, loopS_eq, c121L0]
 ·simp [loopFuel]; omega
end Fw
end

section
set_option maxHeartbeats 8000000
namespace Fw
open Go

theorem drop_lsl (ls : List (List Int)) (i : Nat) (h : i < ls.length) : (pL ls).drop i = lsl ls[i] :: (pL ls).drop (i + 1) := by
 rw [List.drop_eq_getElem_cons (by simpa using h), pL_getElem]

end Fw
end

section
set_option maxHeartbeats 8000000
namespace Fw
open Go

def meanI (ls : List (List Int)) (k : Nat) : Int := (2 * sumF (colL ls k) ls.length + ls.length) / (2 * ls.length)
def meanL (ls : List (List Int)) (m : Nat) : List Int := (List.range m).map fun (k : Nat) => meanI ls k
theorem meanL_length (ls : List (List Int)) (m : Nat) : (meanL ls m).length = m := by simp [meanL]
theorem take_mean (ls : List (List Int)) (m i : Nat) (h : i < m) : (meanL ls m).take (i + 1) = (meanL ls m).take i ++ [meanI ls i] := by
 rw [List.take_add_one]; simp [meanL, h]

structure RunsOk (ls : List (List Int)) (m : Nat) : Prop where
 pos : 0 < ls.length
 few : ls.length ≤ 8
 len : ∀ l ∈ ls, l.length = m
 small : m ≤ 64
 acc : ∀ l ∈ ls, ∀ a ∈ l, -100000 ≤ a ∧ a ≤ 100000

theorem runs_of {ls : List (List Int)} (h : runsE ls = 0) : RunsOk ls (ls.getD 0 []).length := by
 unfold runsE at h
 split at h
 ·rename_i hs
  obtain ⟨h1, h2⟩ := sizedE_zero.1 hs
  have hx : ∀ l ∈ ls, pulseE l = 0 ∧ l.length = (ls.getD 0 []).length := fun l hl => by
   have h3 := firstE_zero.1 (firstE_zero.1 h (runE ls l) (List.mem_map.2 ⟨l, hl, rfl⟩))
   have h4 := (whenE_zero (by decide)).1 (h3 (whenE ((l.length : Int) != (ls.getD 0 []).length) 2) (by simp))
   have h5 : (l.length : Int) = (ls.getD 0 []).length := by simpa using h4
   exact ⟨h3 _ (by simp), by omega⟩
  have hp : 0 < ls.length := by omega
  have hg : ls.getD 0 [] = ls[0] := by simp [List.getD_eq_getElem?_getD, List.getElem?_eq_getElem hp]
  refine ⟨hp, by omega, fun l hl => (hx l hl).2, ?_, fun l hl => (pulse_of (hx l hl).1).2.2⟩
  rw [hg]
  exact (pulse_of (hx _ (List.getElem_mem hp)).1).2.1
 ·rename_i hs; exact absurd h hs

theorem RunsOk.sum {ls : List (List Int)} {m : Nat} (h : RunsOk ls m) {k : Nat} (hk : k < m) (q : Nat) (hq : q ≤ ls.length) : -800000 ≤ sumF (colL ls k) q ∧ sumF (colL ls k) q ≤ 800000 := by
 have hb := sumF_bound (l := colL ls k) (b := 100000) (by omega) (fun a ha => by
  obtain ⟨l, hl, rfl⟩ := List.mem_map.1 ha
  have : k < l.length := by rw [h.len l hl]; exact hk
  have hg : l.getD k 0 = l[k] := by simp [List.getD_eq_getElem?_getD, List.getElem?_eq_getElem this]
  rw [hg]
  exact h.acc l hl _ (List.getElem_mem this)) q (by simpa [colL] using hq)
 have := h.few
 omega

theorem col_get {ls : List (List Int)} {m : Nat} (h : RunsOk ls m) {i q : Nat} (hi : i < m) (hq : q < ls.length) : (colL ls i).getD q 0 = ls[q][i]'(by rw [h.len _ (List.getElem_mem hq)]; exact hi) := by
 have : i < ls[q].length := by rw [h.len _ (List.getElem_mem hq)]; exact hi
 simp [colL, List.getElem?_eq_getElem hq, List.getElem?_eq_getElem this]

end Fw
end

section
set_option maxHeartbeats 8000000
namespace Fw
open Go

abbrev m0 (ls : List (List Int)) : Nat := (ls.getD 0 []).length

theorem mean58 {n : Nat} (hn : 10 ≤ n) (ls : List (List Int)) (hl : ls.length < 1000000) (hi : ∀ l ∈ ls, l.length < 1000000) : RUN n 58 [llsl ls] = .ret (if runsE ls = 0 then .tup [.own (pI (meanL ls (m0 ls))) (m0 ls) 1, iv 0] else .tup [.p (.sl [] 0), iv (runsE ls)]) := by
 obtain ⟨d, rfl⟩ : ∃ d, n = d + 10 := ⟨n - 10, by omega⟩
 rw [RUN, call_eq fe58 _ rfl]
 have h120 := runs120 (n := d + 9) (by omega) ls hl hi
 by_cases hz : runsE ls = 0
 ·rw [if_pos hz]
  have h := runs_of hz
  have hg0 : ls.getD 0 [] = ls[0]'h.pos := by simp [List.getD_eq_getElem?_getD, List.getElem?_eq_getElem h.pos]
  generalize hm : m0 ls = m at *
  have h : RunsOk ls m := by rw [← hm]; exact h
  have hm2 := h.small
  have hfew := h.few
  have h0 := h.pos
  let inv : Nat → St := fun i => ⟨[(0, llsl ls), (5, .sl 0 i 0 i), (18, iv m), (19, iv i)], [(0, .arr (pI ((meanL ls m).take i)) i 1)]⟩
  have hvl := meanL_length ls m
  have htl : (meanL ls m).take m = meanL ls m := List.take_of_length_le (by omega)
  have hl0 : ls[0].length = m := h.len _ (List.getElem_mem h0)
  have hq0 : ls[0]? = some ls[0] := List.getElem?_eq_getElem h0
  simp -implicitDefEqProofs [c58, h120, hz, h0, hl0, lsl]
  rw [loop_run inv m (e := .exit 0) (st' := ⟨(inv m).env ++ [(20, .p (.bool false))], (inv m).sto⟩) (by simp)]
  ·simp -implicitDefEqProofs [inv, htl, hvl]
  ·rfl
  ·intro i hi
   have hlim : i + 1 ≤ lim := by simp only [lim]; omega
   have hto : ((meanL ls m).take i).length = i := by simp [hvl]; omega
   have ht := take_mean ls m i hi
   let in2 : Nat → St := fun q => ⟨[(0, llsl ls), (5, .sl 0 i 0 i), (6, iv i), (7, iv (sumF (colL ls i) q)), (18, iv m), (19, iv i), (22, llsl ls), (23, iv ls.length), (24, iv q)], [(0, .arr (pI ((meanL ls m).take i)) i 1)]⟩
   have inner : loopN (loopS (evFn F C0 G0 (d + 9)) C0 G0 0 false [0, 5, 6, 7, 18, 19, 22, 23, 24] c58L0) loopFuel ⟨[(0, llsl ls), (5, .sl 0 i 0 i), (6, iv i), (7, iv 0), (18, iv m), (19, iv i), (22, llsl ls), (23, iv ls.length), (24, iv 0)], [(0, .arr (pI ((meanL ls m).take i)) i 1)]⟩ = .ret (.exit 2, ⟨(in2 ls.length).env ++ [(25, .p (.bool false))], (in2 ls.length).sto⟩) := by
    refine loop_run in2 ls.length (by simp) rfl ?_ ?_ (by simp [loopFuel]; omega)
    ·intro q hq
     have hb : (q : Int) < ls.length := by omega
     have hlq : ls[q].length = m := h.len _ (List.getElem_mem hq)
     have hiq : i < ls[q].length := by omega
     have hiqb : (i : Int) < ls[q].length := by omega
     have hd := drop_lsl ls q hq
     have hc := col_get h hi hq
     have hs : sumF (colL ls i) (q + 1) = sumF (colL ls i) q + ls[q][i] := by simp only [sumF, hc]
     have hbd := h.sum hi (q + 1) (by omega)
     rw [hs] at hbd
     have w := wrap64 (n := sumF (colL ls i) q + ls[q][i]) (by omega) (by omega)
     simp -implicitDefEqProofs [in2, loopS_eq, c58L0, hq, hb, hlq, hd, hs, w, lsl, hi, wrap_succ (i := q) (by omega)]
    ·simp -implicitDefEqProofs [in2, loopS_eq, c58L0]
   have hbs := h.sum hi ls.length (Nat.le_refl _)
   have w1 := wrap64 (n := 2 * sumF (colL ls i) ls.length) (by omega) (by omega)
   have w2 := wrap64 (n := 2 * sumF (colL ls i) ls.length + ls.length) (by omega) (by omega)
   have w3 := wrap64 (n := 2 * (ls.length : Int)) (by omega) (by omega)
   have hrd := floor122 (n := d + 9) (by omega) (2 * sumF (colL ls i) ls.length + ls.length) (2 * ls.length) (by omega) (by omega) (by omega)
   have e : (2 * sumF (colL ls i) ls.length + ls.length) / (2 * ls.length) = meanI ls i := rfl
   rw [e] at hrd
   simp -implicitDefEqProofs [inv, loopS_eq, c58L1, hi]
   rw [inner]
   simp -implicitDefEqProofs [in2, hlim, hto, w1, w2, w3, hrd, wrap_succ (i := i) (by omega), ht, ← pI_snoc]
  ·simp -implicitDefEqProofs [inv, loopS_eq, c58L1]
  ·simp [loopFuel]; omega
 ·rw [if_neg hz]
  simp -implicitDefEqProofs [c58, h120, hz]
end Fw
end

section
set_option maxHeartbeats 8000000
namespace Fw
open Go

theorem spread56 {n : Nat} (hn : 10 ≤ n) (ls : List (List Int)) (hl : ls.length < 1000000) (hi : ∀ l ∈ ls, l.length < 1000000) : RUN n 56 [llsl ls] = .ret (if runsE ls = 0 then .tup [.p (.sl (cI (spreadL ls (m0 ls))) (m0 ls)), iv 0] else .tup [.p (.sl [] 0), iv (runsE ls)]) := by
 obtain ⟨d, rfl⟩ : ∃ d, n = d + 10 := ⟨n - 10, by omega⟩
 rw [RUN, call_eq fe56 _ rfl]
 have h120 := runs120 (n := d + 9) (by omega) ls hl hi
 by_cases hz : runsE ls = 0
 ·have h := runs_of hz
  have h1 := spread121 (n := d + 9) (by omega) ls (m0 ls) h.pos hl h.len (by have := h.small; simp only [m0]; omega)
  rw [if_pos hz]
  simp -implicitDefEqProofs [c56, h120, hz, h1]
 ·rw [if_neg hz]
  simp -implicitDefEqProofs [c56, h120, hz]

theorem wide123 {n : Nat} (hn : 1 ≤ n) (t : Int) (x : Int × Int) (h1 : -9223372036854775808 ≤ x.2 - x.1) (h2 : x.2 - x.1 ≤ 9223372036854775807) : RUN n 123 [.agg [iv x.1, iv x.2], .p (.pp [.int .i64 t])] = .ret (.p (.bool (decide (t < x.2 - x.1)))) := by
 obtain ⟨d, rfl⟩ : ∃ d, n = d + 1 := ⟨n - 1, by omega⟩
 rw [RUN, call_eq fe123 _ rfl]
 have w := wrap64 h1 h2
 simp -implicitDefEqProofs [c123, w]
end Fw
end

section
set_option maxHeartbeats 8000000
namespace Fw
open Go

theorem loF_in {l : List Int} {b : Int} (h : ∀ a ∈ l, -b ≤ a ∧ a ≤ b) : ∀ (k : Nat), k < l.length → (-b ≤ loF l k ∧ loF l k ≤ b) ∧ (-b ≤ hiF l k ∧ hiF l k ≤ b) := by
 intro k
 induction k with
 | zero =>
  intro hk
  have hg : l.getD 0 0 = l[0] := by simp [List.getD_eq_getElem?_getD, List.getElem?_eq_getElem hk]
  have := h l[0] (List.getElem_mem hk)
  simp only [loF, hiF, hg]
  exact ⟨this, this⟩
 | succ k ih =>
  intro hk
  have hg : l.getD (k + 1) 0 = l[k + 1] := by simp [List.getD_eq_getElem?_getD, List.getElem?_eq_getElem hk]
  have h1 := h l[k + 1] (List.getElem_mem hk)
  have h2 := ih (by omega)
  simp only [loF, hiF, hg]
  omega

theorem RunsOk.spread {ls : List (List Int)} {m : Nat} (h : RunsOk ls m) : ∀ x ∈ spreadL ls m, -200000 ≤ x.2 - x.1 ∧ x.2 - x.1 ≤ 200000 := by
 intro x hx
 obtain ⟨k, hk, rfl⟩ := List.mem_map.1 hx
 have hk' := List.mem_range.1 hk
 have hp := h.pos
 have := loF_in (l := colL ls k) (b := 100000) (fun a ha => by
  obtain ⟨l, hl, rfl⟩ := List.mem_map.1 ha
  have : k < l.length := by rw [h.len l hl]; exact hk'
  have hg : l.getD k 0 = l[k] := by simp [List.getD_eq_getElem?_getD, List.getElem?_eq_getElem this]
  rw [hg]
  exact h.acc l hl _ (List.getElem_mem this)) (ls.length - 1) (by simp [colL]; omega)
 simp only [loC, hiC]
 omega

def alikeB (ls : List (List Int)) (m : Nat) (t : Int) : Bool := !(spreadL ls m).any fun x => decide (t < x.2 - x.1)
def badA (ls : List (List Int)) (t : Int) : Int := firstE [runsE ls, rangeE 0 100000 t]

theorem alike59 {n : Nat} (hn : 10 ≤ n) (ls : List (List Int)) (t : Int) (hl : ls.length < 1000000) (hi : ∀ l ∈ ls, l.length < 1000000) : RUN n 59 [llsl ls, iv t] = .ret (.tup [.p (.bool (if badA ls t = 0 then alikeB ls (m0 ls) t else false)), iv (badA ls t)]) := by
 obtain ⟨d, rfl⟩ : ∃ d, n = d + 10 := ⟨n - 10, by omega⟩
 rw [RUN, call_eq fe59 _ rfl]
 have h120 := runs120 (n := d + 9) (by omega) ls hl hi
 have h95 := within95 (n := d + 9) (by omega) t 0 100000
 have h92 := first92_2 (n := d + 9) (by omega) (runsE ls) (rangeE 0 100000 t)
 have hb : firstE [runsE ls, rangeE 0 100000 t] = badA ls t := rfl
 rw [hb] at h92
 by_cases hz : badA ls t = 0
 ·have h := runs_of (firstE_zero.1 hz (runsE ls) (by simp))
  have hsm := h.small
  have h1 := spread121 (n := d + 9) (by omega) ls (m0 ls) h.pos hl h.len (by simp only [m0]; omega)
  have h2 := contains98 (d := d + 7) (spreadL ls (m0 ls)) 123 [.pp [.int .i64 t]] (fun x => decide (t < x.2 - x.1)) (by simp) (by rw [spreadL_length]; simp only [m0]; omega) (fun x hx => by
   have := h.spread x hx
   exact wide123 (n := d + 7) (by omega) t x (by omega) (by omega))
  simp only [csl, spreadL_length] at h2
  rw [if_pos hz]
  simp -implicitDefEqProofs [c59, h120, h95, h92, hz, h1, h2, alikeB]
 ·rw [if_neg hz]
  simp -implicitDefEqProofs [c59, h120, h95, h92, hz]
end Fw
end

section
set_option maxHeartbeats 8000000
namespace Fw
open Go

end Fw
end

section
set_option maxHeartbeats 8000000
namespace Fw
open Go

structure SlopeI where
 along : Int
 across : Int
 whole : Int
abbrev spa (s : SlopeI) : AVal := .agg [iv s.along, iv s.across, iv s.whole]
def formB (s : SlopeI) : Bool := IntKind.i64.wrap (IntKind.i64.wrap (s.along * s.along) + IntKind.i64.wrap (s.across * s.across)) != IntKind.i64.wrap (s.whole * s.whole)
def slopeE (s : SlopeI) : Int := firstE [rangeE 0 1000 s.along, rangeE 0 1000 s.across, rangeE 1 1000 s.whole, whenE (formB s) 1]

theorem slope68 {n : Nat} (hn : 3 ≤ n) (s : SlopeI) : RUN n 68 [spa s] = .ret (iv (slopeE s)) := by
 obtain ⟨d, rfl⟩ : ∃ d, n = d + 3 := ⟨n - 3, by omega⟩
 rw [RUN, call_eq fe68 _ rfl]
 simp -implicitDefEqProofs [c68, within95 (n := d + 2), when107 (n := d + 2), first92_4 (n := d + 2), slopeE, formB]
end Fw
end

section
set_option maxHeartbeats 8000000
namespace Fw
open Go

def longE (l : List Int) : Int := if 20 < l.length ∧ l.length ≠ 65 then 1 else 0
def shortB (ls : List (List Int)) : Bool := decide (firstE (ls.map longE) = 0) && decide (ls.length ≤ 9)

theorem short55 {n : Nat} (hn : 1 ≤ n) (ls : List (List Int)) (hl : ls.length ≤ 9223372036854775807) : RUN n 55 [llsl ls] = .ret (.p (.bool (shortB ls))) := by
 obtain ⟨d, rfl⟩ : ∃ d, n = d + 1 := ⟨n - 1, by omega⟩
 rw [RUN, call_eq fe55 _ rfl]
 let inv : Nat → St := fun i => ⟨[(0, llsl ls), (3, iv i)], []⟩
 let e : Nat → Int := fun i => longE (ls.getD i [])
 have hm : ls.map longE = (List.range ls.length).map e := by
  refine List.ext_getElem (by simp) (fun i h1 h2 => ?_)
  have : i < ls.length := by simpa using h1
  simp [e, List.getElem?_eq_getElem this]
 have hsb : shortB ls = (decide (firstE ((List.range ls.length).map e) = 0) && decide (ls.length ≤ 9)) := by rw [shortB, hm]
 rw [hsb]
 simp -implicitDefEqProofs [c55]
 have key := loop_first (step := loopS (evFn F C0 G0 d) C0 G0 0 false [0, 3] c55L0) inv e ls.length (.exit 0, ⟨(inv ls.length).env ++ [(7, .p (.bool false))], []⟩) (fun _ => (.ret, ⟨[(2, .p (.bool false))], []⟩))
  (st0 := ⟨[(0, llsl ls), (3, iv 0)], []⟩) rfl ?_ (fun i => by simp) (by simp [inv, loopS_eq, c55L0]) (by simp) (fuel := loopFuel) (by simp [loopFuel]; omega)
 ·rcases key with ⟨k1, k2⟩ | ⟨j, hj, k1, k2, k3, _⟩
  ·rw [k1, k2]
   simp -implicitDefEqProofs [inv]
   omega
  ·rw [k1, k2]
   simp -implicitDefEqProofs [k3]
 ·intro i hi
  have hlt' : (i : Int) < ls.length := by omega
  have hgi : ls.getD i [] = ls[i] := by simp [List.getD_eq_getElem?_getD, List.getElem?_eq_getElem hi]
  have hd := drop_lsl ls i hi
  have he : e i = longE ls[i] := by simp only [e, hgi]
  rw [he]
  generalize ls[i] = l at *
  refine ⟨fun hz => ⟨inv (i + 1), ?_, rfl⟩, fun hz => ?_⟩
  ·by_cases h1 : 20 < l.length
   ·have h2 : l.length = 65 := by
     refine Classical.byContradiction (fun hc => ?_)
     simp [longE, h1, hc] at hz
    simp -implicitDefEqProofs [inv, loopS_eq, c55L0, hi, hlt', hd, lsl, h2, wrap_succ (i := i) (by omega)]
   ·have h1i : ¬ (20 : Int) < l.length := by omega
    simp -implicitDefEqProofs [inv, loopS_eq, c55L0, hi, hlt', hd, lsl, h1i, wrap_succ (i := i) (by omega)]
  ·have h1 : 20 < l.length ∧ l.length ≠ 65 := by
    refine Classical.byContradiction (fun hc => hz ?_)
    rw [longE, if_neg hc]
   have h2 : ((l.length : Int) != 65) = true := by simp; omega
   have h1i : (20 : Int) < l.length := by omega
   simp -implicitDefEqProofs [inv, loopS_eq, c55L0, hi, hlt', hd, lsl, h1i, h2]
end Fw
end

section
set_option maxHeartbeats 8000000
namespace Fw
open Go

def partF (w a f : Int) : Int × Int := (a * f / w, -(-a * f / w))

theorem part126 {n : Nat} (hn : 2 ≤ n) (s : SlopeI) (a f : Int) (hw : 0 < s.whole) (ha : -100000 ≤ a ∧ a ≤ 100000) (hp : -100000000 ≤ a * f ∧ a * f ≤ 100000000) : RUN n 126 [spa s, iv a, iv f] = .ret (.agg [iv (partF s.whole a f).1, iv (partF s.whole a f).2]) := by
 obtain ⟨d, rfl⟩ : ∃ d, n = d + 2 := ⟨n - 2, by omega⟩
 rw [RUN, call_eq fe126 _ rfl]
 have hneg : -a * f = -(a * f) := Int.neg_mul a f
 have w1 := wrap64 (n := a * f) (by omega) (by omega)
 have w2 := wrap64 (n := 0 - a) (by omega) (by omega)
 have e0 : (0 : Int) - a = -a := by omega
 rw [e0] at w2
 have w3 := wrap64 (n := -a * f) (by omega) (by omega)
 have f1 := floor122 (n := d + 1) (by omega) (a * f) s.whole hw (by omega) (by omega)
 have f2 := floor122 (n := d + 1) (by omega) (-a * f) s.whole hw (by omega) (by omega)
 have hb := div_between (x := -a * f) (d := s.whole) (by omega)
 have w4 : IntKind.i64.wrap (0 - -a * f / s.whole) = 0 - -a * f / s.whole := by
  have hq : -100000000 ≤ -a * f / s.whole ∧ -a * f / s.whole ≤ 100000000 := by
   by_cases hc : 0 ≤ -a * f
   ·have := hb.1 hc
    omega
   ·have := hb.2 (by omega)
    omega
  exact wrap64 (by omega) (by omega)
 have e1 : 0 - -a * f / s.whole = -(-a * f / s.whole) := by omega
 rw [e1] at w4
 simp -implicitDefEqProofs [c126, w1, w2, w3, f1, f2, w4, partF]
end Fw
end

section
set_option maxHeartbeats 8000000
namespace Fw
open Go

abbrev spc (s : SlopeI) : List PVal := [.int .i64 s.along, .int .i64 s.across, .int .i64 s.whole]

theorem along125 {n : Nat} (hn : 3 ≤ n) (s : SlopeI) (a : Int) (hw : 0 < s.whole) (ha : -100000 ≤ a ∧ a ≤ 100000) (hp : -100000000 ≤ a * s.along ∧ a * s.along ≤ 100000000) : RUN n 125 [iv a, .p (.pp (spc s))] = .ret (.agg [iv (partF s.whole a s.along).1, iv (partF s.whole a s.along).2]) := by
 obtain ⟨d, rfl⟩ : ∃ d, n = d + 3 := ⟨n - 3, by omega⟩
 rw [RUN, call_eq fe125 _ rfl]
 have h1 := part126 (n := d + 2) (by omega) s a s.along hw ha hp
 simp -implicitDefEqProofs [c125, h1]
theorem across127 {n : Nat} (hn : 3 ≤ n) (s : SlopeI) (a : Int) (hw : 0 < s.whole) (ha : -100000 ≤ a ∧ a ≤ 100000) (hp : -100000000 ≤ a * s.across ∧ a * s.across ≤ 100000000) : RUN n 127 [iv a, .p (.pp (spc s))] = .ret (.agg [iv (partF s.whole a s.across).1, iv (partF s.whole a s.across).2]) := by
 obtain ⟨d, rfl⟩ : ∃ d, n = d + 3 := ⟨n - 3, by omega⟩
 rw [RUN, call_eq fe127 _ rfl]
 have h1 := part126 (n := d + 2) (by omega) s a s.across hw ha hp
 simp -implicitDefEqProofs [c127, h1]
end Fw
end

section
set_option maxHeartbeats 8000000
namespace Fw
open Go

theorem map124 {d : Nat} (l : List Int) (f : Nat) (caps : List PVal) (hn : ∀ c ∈ caps, nrm c = c) (g : Int → Int × Int) (hl : l.length < 1000000) (hg : ∀ x ∈ l, RUN d f (iv x :: caps.map .p) = .ret (.agg [iv (g x).1, iv (g x).2])) :
  RUN (d + 1) 124 [isl l, .p (.clo f [] caps)] = .ret (.own (cI (l.map g)) l.length 2) := by
 rw [RUN, call_eq fe124 _ rfl]
 let inv : Nat → St := fun i => ⟨[(1, .p (.clo f [] caps)), (5, .sl 0 i 0 i), (8, isl l), (9, iv l.length), (10, iv i)], [(0, .arr (cI ((l.map g).take i)) i 2)]⟩
 have htl : (l.map g).take l.length = l.map g := List.take_of_length_le (by simp)
 simp -implicitDefEqProofs [c124]
 rw [loop_run inv l.length (e := .exit 0) (st' := ⟨(inv l.length).env ++ [(11, .p (.bool false))], (inv l.length).sto⟩) (by simp)]
 ·simp -implicitDefEqProofs [inv, htl]
 ·rfl
 ·intro i hi
  have hb : (i : Int) < l.length := by omega
  have hlim : i + 1 ≤ lim := by simp only [lim]; omega
  have hto : ((l.map g).take i).length = i := by simp; omega
  have ht : cI ((l.map g).take (i + 1)) = cI ((l.map g).take i) ++ [.int .i64 (g l[i]).1, .int .i64 (g l[i]).2] := by
   rw [take_succ_map g l i hi, cI_append]; rfl
  have h1 := hg l[i] (List.getElem_mem hi)
  have hm : min i l.length = i := by omega
  simp -implicitDefEqProofs [inv, loopS_eq, c124L0, hi, hb, hlim, hto, h1, Function.comp_def, nrm_list hn, wrap_succ (i := i) (by omega), ht, -List.map_take]
 ·simp [inv, loopS_eq, c124L0]
 ·simp [loopFuel]; omega
end Fw
end

section
set_option maxHeartbeats 8000000
namespace Fw
open Go

structure SlopeOk (s : SlopeI) : Prop where
 along : 0 ≤ s.along ∧ s.along ≤ 1000
 across : 0 ≤ s.across ∧ s.across ≤ 1000
 whole : 1 ≤ s.whole ∧ s.whole ≤ 1000

theorem slope_of {s : SlopeI} (h : slopeE s = 0) : SlopeOk s := by
 have h1 := firstE_zero.1 h
 exact ⟨rangeE_zero.1 (h1 _ (List.mem_cons_self ..)), rangeE_zero.1 (h1 (rangeE 0 1000 s.across) (by simp)), rangeE_zero.1 (h1 (rangeE 1 1000 s.whole) (by simp))⟩

theorem prod_in {a f : Int} (ha : -100000 ≤ a ∧ a ≤ 100000) (hf : 0 ≤ f ∧ f ≤ 1000) : -100000000 ≤ a * f ∧ a * f ≤ 100000000 := by
 have h1 : a * f ≤ 100000 * f := Int.mul_le_mul_of_nonneg_right ha.2 hf.1
 have h2 : -100000 * f ≤ a * f := Int.mul_le_mul_of_nonneg_right ha.1 hf.1
 omega

def badS (s : SlopeI) (p : List Int) : Int := firstE [slopeE s, pulseE p]

theorem split60 {n : Nat} (hn : 7 ≤ n) (s : SlopeI) (p : List Int) (hp : p.length < 1000000) : RUN n 60 [spa s, isl p] = .ret (if badS s p = 0 then .tup [.p (.sl (cI (p.map fun a => partF s.whole a s.along)) p.length), .p (.sl (cI (p.map fun a => partF s.whole a s.across)) p.length), iv 0] else .tup [.p (.sl [] 0), .p (.sl [] 0), iv (badS s p)]) := by
 obtain ⟨d, rfl⟩ : ∃ d, n = d + 7 := ⟨n - 7, by omega⟩
 rw [RUN, call_eq fe60 _ rfl]
 have h1 := slope68 (n := d + 6) (by omega) s
 have h2 := pulse110 (n := d + 6) (by omega) p hp
 have h3 := first92_2 (n := d + 6) (by omega) (slopeE s) (pulseE p)
 have hb : firstE [slopeE s, pulseE p] = badS s p := rfl
 rw [hb] at h3
 by_cases hz : badS s p = 0
 ·have hs := slope_of (firstE_zero.1 hz (slopeE s) (by simp))
  obtain ⟨_, _, q⟩ := pulse_of (firstE_zero.1 hz (pulseE p) (by simp))
  have hw := hs.whole
  have m1 := map124 (d := d + 5) p 125 [.pp (spc s)] (by simp) (fun a => partF s.whole a s.along) hp (fun x hx => along125 (n := d + 5) (by omega) s x (by omega) (q x hx) (prod_in (q x hx) hs.along))
  have m2 := map124 (d := d + 5) p 127 [.pp (spc s)] (by simp) (fun a => partF s.whole a s.across) hp (fun x hx => across127 (n := d + 5) (by omega) s x (by omega) (q x hx) (prod_in (q x hx) hs.across))
  rw [if_pos hz]
  simp -implicitDefEqProofs [c60, h1, h2, h3, hz, m1, m2]
 ·rw [if_neg hz]
  simp -implicitDefEqProofs [c60, h1, h2, h3, hz]
end Fw
end

section
set_option maxHeartbeats 8000000
namespace Fw
open Go

end Fw
end

section
set_option maxHeartbeats 8000000
namespace Fw
open Go

end Fw
end

