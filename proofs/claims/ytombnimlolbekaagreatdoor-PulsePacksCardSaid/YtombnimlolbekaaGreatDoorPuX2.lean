/- Packs, checked: the pulse chapter and its reference. -/
import Derived.Test.YtombnimlolbekaaGreatDoorPuX1
import Derived.Test.YtombnimlolbekaaGreatDoorPuT3
set_option maxHeartbeats 8000000
namespace Fw
open Go
attribute [local irreducible] evCode evOps evOpsD evOper evOperD evOp evFn loopN T.All T.bind callPure callOp opsK opsDK restK seqK blockK loopS setK setQ giveK scalK gcK finish finS rfunK yldK yldB loopK

structure PackI where
  name : List UInt8
  force : Int
  time : Int
  cost : Int
  deriving Inhabited, DecidableEq

abbrev pkc (x : PackI) : List PVal := [.str x.name, .int .i64 x.force, .int .i64 x.time, .int .i64 x.cost]
def cP : List PackI → List PVal
  | [] => []
  | x :: r => .str x.name :: .int .i64 x.force :: .int .i64 x.time :: .int .i64 x.cost :: cP r
@[simp] theorem cP_length (l : List PackI) : (cP l).length = l.length * 4 := by
  induction l with
  | nil => rfl
  | cons x r ih => simp [cP, ih]; omega
theorem cP_drop (l : List PackI) (i : Nat) (h : i < l.length) : (cP l).drop (i * 4) = .str l[i].name :: .int .i64 l[i].force :: .int .i64 l[i].time :: .int .i64 l[i].cost :: cP (l.drop (i + 1)) := by
  induction l generalizing i with
  | nil => cases h
  | cons x r ih =>
    cases i with
    | zero => simp [cP]
    | succ i =>
      have := ih i (by simpa using h)
      rw [show (i + 1) * 4 = i * 4 + 4 by omega]
      simpa [cP] using this
theorem cP_append (a b : List PackI) : cP (a ++ b) = cP a ++ cP b := by
  induction a with
  | nil => rfl
  | cons x r ih => simp [cP, ih]
abbrev psl (l : List PackI) : AVal := .p (.sl (cP l) l.length)
abbrev pka (x : PackI) : AVal := .agg [.p (.str x.name), iv x.force, iv x.time, iv x.cost]

instance : Inhabited PackI := ⟨⟨[], 0, 0, 0⟩⟩
abbrev pk0 : PackI := ⟨[], 0, 0, 0⟩
theorem getD_at {l : List PackI} {i : Nat} (h : i < l.length) : l.getD i pk0 = l[i] := by simp [List.getD_eq_getElem?_getD, List.getElem?_eq_getElem h]

def shortPE (x : PackI) : Int := if 40 < x.name.length then 1 else 0
def shortPB (l : List PackI) : Bool := decide (firstE (l.map shortPE) = 0) && (decide (l.length ≤ 6) || decide (l.length = 9))

theorem short75 {n : Nat} (hn : 1 ≤ n) (l : List PackI) (hl : l.length ≤ 9223372036854775807) : RUN n 75 [psl l] = .ret (.p (.bool (shortPB l))) := by
  obtain ⟨d, rfl⟩ : ∃ d, n = d + 1 := ⟨n - 1, by omega⟩
  rw [RUN, call_eq fe75 _ rfl]
  let inv : Nat → St := fun i => ⟨[(0, psl l), (3, iv i)], []⟩
  let e : Nat → Int := fun i => shortPE (l.getD i pk0)
  have hm : l.map shortPE = (List.range l.length).map e := by
    refine List.ext_getElem (by simp) (fun i h1 h2 => ?_)
    have : i < l.length := by simpa using h1
    simp only [List.getElem_map, List.getElem_range, e, getD_at this]
  have key := loop_first (step := loopS (evFn F C0 G0 d) C0 G0 0 false [0, 3] c75L0) inv e l.length (.exit 0, ⟨(inv l.length).env ++ [(7, .p (.bool false))], []⟩) (fun _ => (.ret, ⟨[(2, .p (.bool false))], []⟩))
    (st0 := ⟨[(0, psl l), (3, iv 0)], []⟩) rfl (fun i hi => by
      have hx := cP_drop l i hi
      have hlt : i * 4 < l.length * 4 := by omega
      have hlt' : (i : Int) < l.length := by omega
      have hei : e i = shortPE l[i] := by simp only [e, getD_at hi]
      rw [hei]
      generalize l[i] = x at *
      refine ⟨fun hz => ⟨inv (i + 1), ?_, rfl⟩, fun hz => ?_⟩
      · have h1 : ¬ (40 : Int) < x.name.length := by
          intro hc
          have : 40 < x.name.length := by omega
          simp [shortPE, this] at hz
        simp -implicitDefEqProofs [inv, loopS_eq, c75L0, hx, hlt, hlt', h1, wrap_succ (i := i) (by omega)]
      · have h1 : (40 : Int) < x.name.length := by
          refine Classical.byContradiction (fun hc => hz ?_)
          have : ¬ 40 < x.name.length := by omega
          simp [shortPE, this]
        simp -implicitDefEqProofs [inv, loopS_eq, c75L0, hx, hlt, hlt', h1]) (fun i => by simp) (by simp -implicitDefEqProofs [inv, loopS_eq, c75L0]) (by simp) (fuel := loopFuel) (by simp [loopFuel]; omega)
  simp -implicitDefEqProofs [c75]
  rcases key with ⟨k1, k2⟩ | ⟨j, hj, k1, k2, k3, _⟩
  · rw [k1]
    have hB : shortPB l = (decide (l.length ≤ 6) || decide (l.length = 9)) := by simp [shortPB, hm, k2]
    rw [hB]
    by_cases h6 : (l.length : Int) ≤ 6
    · have h6n : l.length ≤ 6 := by omega
      simp -implicitDefEqProofs [inv, h6, h6n]
    · have h6n : ¬ l.length ≤ 6 := by omega
      have h9 : ((l.length : Int) == 9) = decide (l.length = 9) := by rw [Bool.eq_iff_iff]; simp; omega
      simp -implicitDefEqProofs [inv, h6, h6n, h9]
  · have hB : shortPB l = false := by
      have : firstE (l.map shortPE) ≠ 0 := by rw [hm, k2]; exact k3
      simp [shortPB, this]
    rw [k1]
    simp -implicitDefEqProofs [hB]

theorem bags77 {n : Nat} (hn : 1 ≤ n) (l : List PackI) (hl : l.length < 1000000) : RUN n 77 [psl l] = .ret (.own (cP l) l.length 4) := by
  obtain ⟨d, rfl⟩ : ∃ d, n = d + 1 := ⟨n - 1, by omega⟩
  rw [RUN, call_eq fe77 _ rfl]
  let inv : Nat → St := fun i => ⟨[(3, .sl 1 i 0 i), (6, psl l), (7, iv l.length), (8, iv i)], [(1, .arr (cP (l.take i)) i 4)]⟩
  have htl : l.take l.length = l := List.take_of_length_le (by omega)
  simp -implicitDefEqProofs [c77]
  rw [loop_run' inv l.length (e := .exit 0) (st' := ⟨(inv l.length).env ++ [(9, .p (.bool false))], (inv l.length).sto⟩) (by simp)]
  · simp -implicitDefEqProofs [inv, htl]
  · exact loopS_same rfl (by simp [inv, cP])
  · intro i hi
    have hx := cP_drop l i hi
    have hlt : i * 4 < l.length * 4 := by omega
    have hlt' : (i : Int) < l.length := by omega
    have hlim : i + 1 ≤ lim := by simp only [lim]; omega
    have hto : (l.take i).length = i := by simp; omega
    have ht : cP (l.take (i + 1)) = cP (l.take i) ++ pkc l[i] := by
      rw [← List.take_append_getElem hi, cP_append]; rfl
    refine ⟨⟨(inv (i + 1)).env, (2, .arr (pkc l[i]) 0 1) :: (inv (i + 1)).sto⟩, ?_, loopS_same rfl (by simp [inv])⟩
    simp -implicitDefEqProofs [inv, loopS_eq, c77L0, hx, hlt, hlt', hlim, hto, wrap_succ (i := i) (by omega), ht]
  · simp -implicitDefEqProofs [inv, loopS_eq, c77L0]
  · simp [loopFuel]; omega

theorem first92_5 {n : Nat} (hn : 1 ≤ n) (a b c e f : Int) : RUN n 92 [.p (.sl [.int .i64 a, .int .i64 b, .int .i64 c, .int .i64 e, .int .i64 f] 5)] = .ret (iv (firstE [a, b, c, e, f])) := first92 hn [a, b, c, e, f] (by simp)
theorem first100_5 {n : Nat} (hn : 1 ≤ n) (a b c e f : Int) : RUN n 100 [.p (.sl [.int .i64 a, .int .i64 b, .int .i64 c, .int .i64 e, .int .i64 f] 5)] = .ret (iv (firstE [a, b, c, e, f])) := first100 hn [a, b, c, e, f] (by simp)

theorem cname145 {n : Nat} (hn : 2 ≤ n) (l : List UInt8) : RUN n 145 [sv l] = .ret (iv (whenE (!nameB l) 8)) := by
  obtain ⟨d, rfl⟩ : ∃ d, n = d + 2 := ⟨n - 2, by omega⟩
  rw [RUN, call_eq fe145 _ rfl]
  simp -implicitDefEqProofs [c145, name177 (n := d + 1), when46 (n := d + 1)]

theorem word146 {n : Nat} (hn : 1 ≤ n) (ws : List (List UInt8)) (w : List UInt8) (hl : ws.length < 1000000) : RUN n 146 [.p (.sl (pStr ws) ws.length), sv w] = .ret (.p (.bool (decide (w ∈ ws)))) := by
  obtain ⟨d, rfl⟩ : ∃ d, n = d + 1 := ⟨n - 1, by omega⟩
  rw [RUN, call_eq fe146 _ rfl]
  let inv : Nat → St := fun i => ⟨[(0, .p (.sl (pStr ws) ws.length)), (1, sv w), (5, iv i)], []⟩
  let e : Nat → Int := fun i => if ws.getD i [] = w then 1 else 0
  have key := loop_first (step := loopS (evFn F C0 G0 d) C0 G0 0 false [0, 1, 5] c146L0) inv e ws.length (.exit 0, ⟨(inv ws.length).env ++ [(9, .p (.bool false))], []⟩) (fun _ => (.ret, ⟨[(4, .p (.bool true))], []⟩))
    (st0 := ⟨[(0, .p (.sl (pStr ws) ws.length)), (1, sv w), (5, iv 0)], []⟩) rfl (fun i hi => by
      have hx := pStr_drop ws i hi
      have hlt' : (i : Int) < ws.length := by omega
      have hg : ws.getD i [] = ws[i] := by simp [List.getD_eq_getElem?_getD, List.getElem?_eq_getElem hi]
      have hei : e i = if ws[i] = w then 1 else 0 := by simp only [e, hg]
      rw [hei]
      by_cases h : ws[i] = w
      · have hb : (ws[i] == w) = true := by simpa using h
        refine ⟨fun hz => absurd hz (by simp [h]), fun _ => ?_⟩
        simp -implicitDefEqProofs [inv, loopS_eq, c146L0, hi, hx, hlt', hb, strBin]
      · have hb : (ws[i] == w) = false := by simpa using h
        refine ⟨fun _ => ⟨inv (i + 1), ?_, rfl⟩, fun hz => absurd (by simp [h]) hz⟩
        simp -implicitDefEqProofs [inv, loopS_eq, c146L0, hi, hx, hlt', hb, strBin, wrap_succ (i := i) (by omega)]) (fun i => by simp) (by simp -implicitDefEqProofs [inv, loopS_eq, c146L0]) (by simp) (fuel := loopFuel) (by simp [loopFuel]; omega)
  simp -implicitDefEqProofs [c146]
  rcases key with ⟨k1, k2⟩ | ⟨j, hj, k1, k2, k3, _⟩
  · have hB : ¬ w ∈ ws := by
      intro hm
      obtain ⟨i, hi, rfl⟩ := List.getElem_of_mem hm
      have := firstE_zero.1 k2 (e i) (List.mem_map.2 ⟨i, by simpa using hi, rfl⟩)
      have hg : ws.getD i [] = ws[i] := by simp [List.getD_eq_getElem?_getD, List.getElem?_eq_getElem hi]
      have h1 : e i = 1 := by simp only [e, hg, if_true]
      omega
    rw [k1]
    simp -implicitDefEqProofs [inv, hB]
  · have hB : w ∈ ws := by
      have hg : ws.getD j [] = ws[j] := by simp [List.getD_eq_getElem?_getD, List.getElem?_eq_getElem hj]
      simp only [e, hg] at k3
      split at k3
      · rename_i h; rw [← h]; exact List.getElem_mem hj
      · exact absurd rfl k3
    rw [k1]
    simp -implicitDefEqProofs [hB]

/-- the error of a pack among those ahead of it -/
def packE (l : List PackI) (i : Nat) : Int := firstE [whenE (!nameB (l.getD i pk0).name) 8, whenE (decide ((l.getD i pk0).name ∈ (l.take i).map (·.name))) 9, rangeE 0 10000 (l.getD i pk0).force, rangeE 1 64 (l.getD i pk0).time, rangeE 0 1000000 (l.getD i pk0).cost]
def packsE (l : List PackI) : Int := if 8 < l.length then 5 else firstE ((List.range l.length).map (packE l))

theorem packs80 {n : Nat} (hn : 4 ≤ n) (l : List PackI) : RUN n 80 [psl l] = .ret (iv (packsE l)) := by
  obtain ⟨d, rfl⟩ : ∃ d, n = d + 4 := ⟨n - 4, by omega⟩
  rw [RUN, call_eq fe80 _ rfl]
  by_cases h8 : (8 : Int) < l.length
  · have : packsE l = 5 := by rw [packsE, if_pos (by omega)]
    simp -implicitDefEqProofs [c80, h8, this]
  · have hP : packsE l = firstE ((List.range l.length).map (packE l)) := by rw [packsE, if_neg (by omega)]
    let inv : Nat → St := fun i => ⟨[(0, psl l), (3, .sl 0 i 0 i), (4, iv i)], [(0, .arr (pStr ((l.take i).map (·.name))) i 1)]⟩
    have key := loop_first (step := loopS (evFn F C0 G0 (d + 3)) C0 G0 0 true [0, 3, 4] c80L0) inv (packE l) l.length (.exit 0, ⟨(inv l.length).env ++ [(13, .p (.bool false))], (inv l.length).sto⟩) (fun i => (.ret, ⟨[(2, iv (packE l i))], (1, .arr (pkc (l.getD i pk0)) 0 1) :: (inv i).sto⟩))
      (st0 := ⟨[(0, psl l), (3, .sl 0 0 0 0), (4, iv 0)], [(0, .arr [] 0 1)]⟩) rfl (fun i hi => by
        have hx := cP_drop l i hi
        have hlt : i * 4 < l.length * 4 := by omega
        have hlt' : (i : Int) < l.length := by omega
        have hgi := getD_at hi
        have hgo : l[i]? = some l[i] := List.getElem?_eq_getElem hi
        have h1 := cname145 (n := d + 3) (by omega) l[i].name
        have h2 := word146 (n := d + 3) (by omega) ((l.take i).map (·.name)) l[i].name (by simp; omega)
        have hnl : ((l.take i).map (·.name)).length = i := by simp; omega
        simp only [hnl] at h2
        have h3 := when46 (n := d + 3) (by omega) (decide (l[i].name ∈ (l.take i).map (·.name))) 9
        have h4 := range101 (n := d + 3) (by omega) l[i].force 0 10000
        have h5 := range101 (n := d + 3) (by omega) l[i].time 1 64
        have h6 := range101 (n := d + 3) (by omega) l[i].cost 0 1000000
        have h7 := first100_5 (n := d + 3) (by omega) (whenE (!nameB l[i].name) 8) (whenE (decide (l[i].name ∈ (l.take i).map (·.name))) 9) (rangeE 0 10000 l[i].force) (rangeE 1 64 l[i].time) (rangeE 0 1000000 l[i].cost)
        have he : packE l i = firstE [whenE (!nameB l[i].name) 8, whenE (decide (l[i].name ∈ (l.take i).map (·.name))) 9, rangeE 0 10000 l[i].force, rangeE 1 64 l[i].time, rangeE 0 1000000 l[i].cost] := by simp only [packE, hgi]
        rw [← he] at h7
        have hlim : i + 1 ≤ lim := by simp only [lim]; omega
        have ht : pStr ((l.take (i + 1)).map (·.name)) = pStr ((l.take i).map (·.name)) ++ [.str l[i].name] := by
          rw [← List.take_append_getElem hi, List.map_append, pStr_append]; rfl
        generalize hD : decide (l[i].name ∈ (l.take i).map (·.name)) = D at *
        generalize hN : (l.take i).map (·.name) = N at *
        refine ⟨fun hz => ⟨⟨(inv (i + 1)).env, (1, .arr (pkc l[i]) 0 1) :: (inv (i + 1)).sto⟩, ?_, loopS_same rfl (by simp [inv])⟩, fun hz => ?_⟩
        · simp -implicitDefEqProofs [inv, loopS_eq, c80L0, hx, hlt, hlt', hN, h1, h2, h3, h4, h5, h6, h7, hz, hlim, hnl, ht, wrap_succ (i := i) (by omega), -List.map_take]
        · simp -implicitDefEqProofs [inv, loopS_eq, c80L0, hx, hlt, hlt', hN, h1, h2, h3, h4, h5, h6, h7, hz, hgo, hnl, -List.map_take]) (fun i => by simp) (by simp -implicitDefEqProofs [inv, loopS_eq, c80L0, -List.map_take]) (by simp) (fuel := loopFuel) (by simp [loopFuel]; omega)
    rw [hP]
    simp -implicitDefEqProofs [c80, h8]
    rcases key with ⟨k1, k2⟩ | ⟨j, hj, k1, k2, k3, _⟩
    · rw [k1, k2]
      simp -implicitDefEqProofs [inv]
    · rw [k1, k2]
      simp -implicitDefEqProofs [inv]

theorem find_strs (k : List UInt8) : ∀ ns : List (List UInt8), mapFind (.str k) (pStr ns) (List.replicate ns.length (.bool true)) = if k ∈ ns then some (some (.bool true)) else some none := by
  intro ns
  induction ns with
  | nil => rfl
  | cons x r ih =>
    by_cases h : k = x
    · subst h
      simp [pStr, mapFind, keyEq, List.replicate_succ]
    · have hb : (k == x) = false := by simpa using h
      simp only [pStr] at ih
      simp only [pStr, List.map_cons, List.length_cons, List.replicate_succ, mapFind, keyEq, eqP, hb, ih]
      simp [h]

theorem packs87 {n : Nat} (hn : 4 ≤ n) (l : List PackI) (hs : ∀ x ∈ l, x.name.length ≤ 9223372036854775807) : RUN n 87 [psl l] = .ret (iv (packsE l)) := by
  obtain ⟨d, rfl⟩ : ∃ d, n = d + 4 := ⟨n - 4, by omega⟩
  rw [RUN, call_eq fe87 _ rfl]
  by_cases h8 : (8 : Int) < l.length
  · have : packsE l = 5 := by rw [packsE, if_pos (by omega)]
    simp -implicitDefEqProofs [c87, h8, this]
  · have hP : packsE l = firstE ((List.range l.length).map (packE l)) := by rw [packsE, if_neg (by omega)]
    let inv : Nat → St := fun i => ⟨[(3, .mp 0), (11, psl l), (12, iv l.length), (13, iv i)], [(0, .map (pStr ((l.take i).map (·.name))) (List.replicate i (.bool true)))]⟩
    have key := loop_first (step := loopS (evFn F C0 G0 (d + 3)) C0 G0 0 true [3, 11, 12, 13] c87L0) inv (packE l) l.length (.exit 0, ⟨(inv l.length).env ++ [(14, .p (.bool false))], (inv l.length).sto⟩) (fun i => (.ret, ⟨[(2, iv (packE l i))], (1, .arr (pkc (l.getD i pk0)) 0 1) :: (inv i).sto⟩))
      (st0 := ⟨[(3, .mp 0), (11, psl l), (12, iv l.length), (13, iv 0)], [(0, .map [] [])]⟩) rfl (fun i hi => by
        have hx := cP_drop l i hi
        have hlt : i * 4 < l.length * 4 := by omega
        have hlt' : (i : Int) < l.length := by omega
        have hgi := getD_at hi
        have hgo : l[i]? = some l[i] := List.getElem?_eq_getElem hi
        have h1 := name149 (n := d + 3) (by omega) l[i].name (hs _ (List.getElem_mem hi))
        have h1b := when107 (n := d + 3) (by omega) (!nameB l[i].name) 8
        have hnl : ((l.take i).map (·.name)).length = i := by simp; omega
        have hf := find_strs l[i].name ((l.take i).map (·.name))
        rw [hnl] at hf
        have h3 := fun b => when107 (n := d + 3) (by omega) b 9
        have h4 := within95 (n := d + 3) (by omega) l[i].force 0 10000
        have h5 := within95 (n := d + 3) (by omega) l[i].time 1 64
        have h6 := within95 (n := d + 3) (by omega) l[i].cost 0 1000000
        have h7 := first92_5 (n := d + 3) (by omega) (whenE (!nameB l[i].name) 8) (whenE (decide (l[i].name ∈ (l.take i).map (·.name))) 9) (rangeE 0 10000 l[i].force) (rangeE 1 64 l[i].time) (rangeE 0 1000000 l[i].cost)
        have he : packE l i = firstE [whenE (!nameB l[i].name) 8, whenE (decide (l[i].name ∈ (l.take i).map (·.name))) 9, rangeE 0 10000 l[i].force, rangeE 1 64 l[i].time, rangeE 0 1000000 l[i].cost] := by simp only [packE, hgi]
        rw [← he] at h7
        have ht : pStr ((l.take (i + 1)).map (·.name)) = pStr ((l.take i).map (·.name)) ++ [.str l[i].name] := by
          rw [← List.take_append_getElem hi, List.map_append, pStr_append]; rfl
        have hrep : List.replicate (i + 1) (PVal.bool true) = List.replicate i (.bool true) ++ [.bool true] := List.replicate_succ'
        by_cases hD : l[i].name ∈ (l.take i).map (·.name)
        · have hne : packE l i ≠ 0 := by
            intro h0
            rw [he] at h0
            have := firstE_zero.1 h0 (whenE (decide (l[i].name ∈ (l.take i).map (·.name))) 9) (by simp)
            rw [decide_eq_true hD] at this
            simp [whenE] at this
          rw [if_pos hD] at hf
          rw [decide_eq_true hD] at h7
          refine ⟨fun hz => absurd hz hne, fun hz => ?_⟩
          generalize hN : (l.take i).map (·.name) = N at *
          simp -implicitDefEqProofs [inv, loopS_eq, c87L0, hx, hlt, hlt', hN, hf, h1, h1b, h3, h4, h5, h6, h7, hz, hgo, -List.map_take]
        · rw [if_neg hD] at hf
          rw [decide_eq_false hD] at h7
          generalize hN : (l.take i).map (·.name) = N at *
          refine ⟨fun hz => ⟨⟨(inv (i + 1)).env, (1, .arr (pkc l[i]) 0 1) :: (inv (i + 1)).sto⟩, ?_, loopS_same rfl (by simp [inv])⟩, fun hz => ?_⟩
          · simp -implicitDefEqProofs [inv, loopS_eq, c87L0, hx, hlt, hlt', hN, hf, h1, h1b, h3, h4, h5, h6, h7, hz, ht, hrep, wrap_succ (i := i) (by omega), -List.map_take]
          · simp -implicitDefEqProofs [inv, loopS_eq, c87L0, hx, hlt, hlt', hN, hf, h1, h1b, h3, h4, h5, h6, h7, hz, hgo, -List.map_take]) (fun i => by simp) (by simp -implicitDefEqProofs [inv, loopS_eq, c87L0, -List.map_take]) (by simp) (fuel := loopFuel) (by simp [loopFuel]; omega)
    rw [hP]
    simp -implicitDefEqProofs [c87, h8]
    rcases key with ⟨k1, k2⟩ | ⟨j, hj, k1, k2, k3, _⟩
    · rw [k1, k2]
      simp -implicitDefEqProofs [inv]
    · rw [k1, k2]
      simp -implicitDefEqProofs [inv]
end Fw
