/- Lists of runs, checked: the pulse chapter and its reference. -/
import Derived.Test.YtombnimlolbekaaGreatDoorPuP1
set_option maxHeartbeats 8000000
namespace Fw
open Go
attribute [local irreducible] evCode evOps evOpsD evOper evOperD evOp evFn loopN T.All T.bind callPure callOp opsK opsDK restK seqK blockK loopS setK setQ giveK scalK gcK finish finS rfunK yldK yldB loopK

def unI (cs : List PVal) : List Int := cs.map fun c => match c with
  | .int _ n => n
  | _ => 0
theorem unI_pI (l : List Int) : unI (pI l) = l := by
  induction l with
  | nil => rfl
  | cons x r ih => simp only [unI, pI, List.map_cons] at ih ⊢; rw [ih]
def onL (g : List Int → Int) : PVal → PVal
  | .sl cs _ => .int .i64 (g (unI cs))
  | c => c
theorem onL_lsl (g : List Int → Int) (l : List Int) : onL g (lsl l) = .int .i64 (g l) := by simp only [onL, lsl, unI_pI]
theorem pL_map (g : List Int → Int) (ls : List (List Int)) : (pL ls).map (onL g) = pI (ls.map g) := by
  induction ls with
  | nil => rfl
  | cons x r ih => simp only [pL, pI, List.map_cons] at ih ⊢; rw [ih, onL_lsl]

/-- 'mapped' over lists of integers, to integers -/
theorem mapL_ok {k : Nat} (hF : F k = some (mapC (.p (.int .i64 0)) 8)) (hC : ∀ as, C0 k as = none) {d : Nat} (ls : List (List Int)) (f : Nat) (caps : List PVal) (hn : ∀ c ∈ caps, nrm c = c) (g : List Int → Int) (hl : ls.length < 1000000) (hg : ∀ x ∈ ls, RUN d f (.p (lsl x) :: caps.map .p) = .ret (iv (g x))) :
    RUN (d + 1) k [llsl ls, .p (.clo f [] caps)] = .ret (.own (pI (ls.map g)) ls.length 1) := by
  have := map_ok (C := C0) (G := G0) (d := d) hF (by decide) hC (pL ls) f caps (onL g) (by simpa using hl) hn (fun c hc => by
    obtain ⟨x, hx, rfl⟩ := List.mem_map.1 hc
    rw [onL_lsl]
    refine ⟨?_, rfl⟩
    rw [nrm_lsl]
    exact hg x hx)
  rw [pL_map, pL_length] at this
  exact this

theorem m156 : c156 = mapC (.p (.int .i64 0)) 8 := rfl
theorem fc156 : F 156 = some (mapC (.p (.int .i64 0)) 8) := m156 ▸ fe156

theorem runs120 {n : Nat} (hn : 9 ≤ n) (ls : List (List Int)) (hl : ls.length < 1000000) (hi : ∀ l ∈ ls, l.length < 1000000) : RUN n 120 [llsl ls] = .ret (iv (runsE ls)) := by
  obtain ⟨d, rfl⟩ : ∃ d, n = d + 9 := ⟨n - 9, by omega⟩
  rw [RUN, call_eq fe120 _ rfl]
  have h3 := sized106 (n := d + 8) (by omega) ls.length 8
  have hc : runsE ls = if sizedE ls.length 8 = 0 then firstE (ls.map (runE ls)) else sizedE ls.length 8 := rfl
  rw [hc]
  by_cases h : sizedE ls.length 8 = 0
  · have h0 : 0 < ls.length := by
      have := (sizedE_zero.1 h).1
      omega
    have h1 := mapL_ok fc156 (fun _ => rfl) (d := d + 7) ls 157 [.pp [.sl (pL ls) ls.length]] (by simp) (runE ls) hl (fun x hx => run157 (n := d + 7) (by omega) ls h0 x (hi x hx))
    have h2 := first92 (n := d + 8) (by omega) (ls.map (runE ls)) (by simpa using hl)
    simp only [List.length_map] at h2
    rw [if_pos h]
    simp -implicitDefEqProofs [c120, h1, h2, h3, h]
  · rw [if_neg h]
    simp -implicitDefEqProofs [c120, h3, h]

theorem runs61 {n : Nat} (hn : 5 ≤ n) (ls : List (List Int)) (hl : ls.length < 1000000) (hi : ∀ l ∈ ls, l.length < 1000000) : RUN n 61 [llsl ls] = .ret (iv (runsE ls)) := by
  obtain ⟨d, rfl⟩ : ∃ d, n = d + 5 := ⟨n - 5, by omega⟩
  rw [RUN, call_eq fe61 _ rfl]
  let inv : Nat → St := fun i => ⟨[(0, llsl ls), (4, iv i)], []⟩
  let e : Nat → Int := fun i => runE ls (ls.getD i [])
  have hs : firstE [whenE ((ls.length : Int) == 0) 12, whenE (decide ((8 : Int) < ls.length)) 5] = sizedE ls.length 8 := rfl
  have hc : runsE ls = if sizedE ls.length 8 = 0 then firstE (ls.map (runE ls)) else sizedE ls.length 8 := rfl
  have hm : ls.map (runE ls) = (List.range ls.length).map e := by
    refine List.ext_getElem (by simp) (fun i h1 h2 => ?_)
    have : i < ls.length := by simpa using h1
    simp [e, List.getElem?_eq_getElem this]
  rw [hc, hm]
  by_cases hz : sizedE ls.length 8 = 0
  · have h0 : 0 < ls.length := by
      have := (sizedE_zero.1 hz).1
      omega
    rw [if_pos hz]
    simp -implicitDefEqProofs [c61, when46 (n := d + 4), first100_2 (n := d + 4), hs, hz]
    have key := loop_first (step := loopS (evFn F C0 G0 (d + 4)) C0 G0 0 false [0, 4] c61L0) inv e ls.length (.exit 0, ⟨(inv ls.length).env ++ [(22, .p (.bool false))], []⟩) (fun i => (.ret, ⟨[(2, iv (e i))], []⟩))
      (st0 := ⟨[(0, llsl ls), (4, iv 0)], []⟩) rfl ?_ (fun i => by simp) (by simp [inv, loopS_eq, c61L0]) (by simp) (fuel := loopFuel) (by simp [loopFuel]; omega)
    · rcases key with ⟨k1, k2⟩ | ⟨j, hj, k1, k2, k3, _⟩
      · rw [k1, k2]
        simp -implicitDefEqProofs [inv]
      · rw [k1, k2]
        simp -implicitDefEqProofs
    · intro i hi'
      have hlt' : (i : Int) < ls.length := by omega
      have hgi : ls.getD i [] = ls[i] := by simp [List.getD_eq_getElem?_getD, List.getElem?_eq_getElem hi']
      have hg0 : ls.getD 0 [] = ls[0] := by simp [List.getD_eq_getElem?_getD, List.getElem?_eq_getElem h0]
      have hxi : ∃ r, (pL ls).drop i = .sl (pI ls[i]) ls[i].length :: r := by
        refine ⟨(pL ls).drop (i + 1), ?_⟩
        rw [List.drop_eq_getElem_cons (by simpa using hi'), pL_getElem]
        rfl
      obtain ⟨r, hr⟩ := hxi
      have hx0 : ∃ r, pL ls = .sl (pI ls[0]) ls[0].length :: r := by
        cases ls with
        | nil => simp at h0
        | cons x r => exact ⟨pL r, rfl⟩
      obtain ⟨r0, hr0⟩ := hx0
      have h1 := pulse39 (n := d + 4) (by omega) ls[i] (hi _ (List.getElem_mem hi'))
      have he : e i = firstE [pulseE ls[i], whenE ((ls[i].length : Int) != ls[0].length) 2] := by simp only [e, runE, hgi, hg0]
      have h4 := first100_2 (n := d + 4) (by omega) (pulseE ls[i]) (whenE ((ls[i].length : Int) != ls[0].length) 2)
      rw [← he] at h4
      refine ⟨fun hz' => ⟨inv (i + 1), ?_, rfl⟩, fun hz' => ?_⟩
      · simp -implicitDefEqProofs [inv, loopS_eq, c61L0, hi', hlt', h0, h1, h4, hz', when46 (n := d + 4), lsl, wrap_succ (i := i) (by omega)]
      · simp -implicitDefEqProofs [inv, loopS_eq, c61L0, hi', hlt', h0, h1, h4, hz', when46 (n := d + 4), lsl]
  · rw [if_neg hz]
    simp -implicitDefEqProofs [c61, when46 (n := d + 4), first100_2 (n := d + 4), hs, hz]
end Fw
