/- The centre of the forces on a wall: the chapter's function. -/
import Derived.Test.YtfkacogfieiccaaGreatDoorBaX4
import Derived.Test.YtfkacogfieiccaaGreatDoorBaTab
set_option maxHeartbeats 16000000
namespace Fw
open Go
attribute [local irreducible] evCode evOps evOpsD evOper evOperD evOp evFn loopN T.All T.bind callPure callOp opsK opsDK restK seqK blockK loopS setK setQ giveK scalK gcK finish finS rfunK yldK yldB loopK

def cenF (w : List LoadI) (x : Int) : Int := if wallE w = 0 then (if idxE w x = 0 then cenE w x.toNat else idxE w x) else wallE w
def cenP (w : List LoadI) (x : Int) : Int × Int := if cenF w x = 0 then cenA w x.toNat else (0, 0)
def cenQ (w : List LoadI) (x : Int) : Int × Int := if cenF w x = 0 then cenB w x.toNat else (0, 0)

theorem centre74 {n : Nat} (hn : 8 ≤ n) (w : List LoadI) (hw : w.length < 1000000) (hw40 : ∀ i, (hi : i < w.length) → w[i].name.length ≤ 40 ∧ w[i].s.length ≤ 65) (x : Int) :
    RUN n 74 [lol w, iv x] = .ret (.tup [.agg [iv (cenP w x).1, iv (cenP w x).2], .agg [iv (cenQ w x).1, iv (cenQ w x).2], iv (cenF w x)]) := by
  obtain ⟨d, rfl⟩ : ∃ d, n = d + 8 := ⟨n - 8, by omega⟩
  rw [RUN, call_eq fe74 _ rfl]
  have h0 := check82 (n := d + 7) (by omega) w hw hw40
  by_cases z0 : wallE w = 0
  · have hwo := wall_of z0
    have hwd := wid_ok hwo
    have hl0 : 0 < w.length := hwo.len.1
    have h50 : ∀ q, (rowC lc6 w)[5]'q = .sl (pI w[0].s) w[0].s.length := fun q => by
      have := wall_five (l := w) hl0
      rw [List.getElem?_eq_getElem q] at this
      exact Option.some.inj this
    have hlp6 : 5 < w.length * 6 := by omega
    have hwid : w[0].s.length = wid w := by unfold wid; rw [getD_w hl0]
    by_cases z1 : idxE w x = 0
    · obtain ⟨x0, x1⟩ := idxE_zero.1 z1
      obtain ⟨j, rfl⟩ : ∃ j : Nat, x = j := ⟨x.toNat, by omega⟩
      have hj : j < wid w := by omega
      have eF : cenF w j = cenE w j := by simp [cenF, z0, z1]
      have n0 : ¬ (j : Int) < 0 := by omega
      have n1 : ¬ (wid w : Int) ≤ j := by omega
      have hjw : (j : Int) < wid w := by omega
      have h1 := forces134 (n := d + 7) (by omega) hwo
      have hg : ∀ q, (forL w)[j]'q = forI w j := fun q => forL_get q
      have hb := cen_facts hwo j
      by_cases z2 : forI w j = 0
      · have e : cenE w j = 6 := by simp [cenE, z2]
        have eP : cenP w j = (0, 0) := by simp [cenP, eF, e]
        have eQ : cenQ w j = (0, 0) := by simp [cenQ, eF, e]
        rw [eP, eQ, eF, e]
        rw [z2] at hg
        simp -implicitDefEqProofs [c74, h0, z0, cW_len, hl0, hlp6, h50, hwid, n0, n1, hjw, hj, h1, hg]
      · have hzb : (forI w j == 0) = false := by simpa using z2
        have m1 := map138 (n := d + 7) (by omega) (ax := 232) (f := (·.x)) hwo (fun x d => axis232 (by omega) x.x x.y) (fun i hi => (hwo.ok i hi).px) hj
        have m2 := map138 (n := d + 7) (by omega) (ax := 233) (f := (·.y)) hwo (fun x d => axis233 (by omega) x.x x.y) (fun i hi => (hwo.ok i hi).py) hj
        have hl16 := hwo.len
        have s1 := sum137 (n := d + 7) (by omega) (l := w.map fun x => x.x * x.s.getD j 0) (by simp; omega) (fun y hy => by
          obtain ⟨z, hz, rfl⟩ := List.mem_map.1 hy
          obtain ⟨i, hi, rfl⟩ := List.getElem_of_mem hz
          have := mom_in (f := (·.x)) (hwo.ok i hi) (hwo.ok i hi).px j
          omega)
        have s2 := sum137 (n := d + 7) (by omega) (l := w.map fun x => x.y * x.s.getD j 0) (by simp; omega) (fun y hy => by
          obtain ⟨z, hz, rfl⟩ := List.mem_map.1 hy
          obtain ⟨i, hi, rfl⟩ := List.getElem_of_mem hz
          have := mom_in (f := (·.y)) (hwo.ok i hi) (hwo.ok i hi).py j
          omega)
        rw [show sumI (w.map fun x => x.x * x.s.getD j 0) = ctr (·.x) w j from rfl] at s1
        rw [show sumI (w.map fun x => x.y * x.s.getD j 0) = ctr (·.y) w j from rfl] at s2
        simp only [isl, List.length_map] at s1 s2
        have q1 := lowest100 (n := d + 7) (by omega) (ctr (·.x) w j) (forI w j) z2 (by omega) (by omega) (by omega) (by omega)
        have q2 := lowest100 (n := d + 7) (by omega) (ctr (·.y) w j) (forI w j) z2 (by omega) (by omega) (by omega) (by omega)
        rw [show lowI (ctr (·.x) w j) (forI w j) = cenA w j from rfl] at q1
        rw [show lowI (ctr (·.y) w j) (forI w j) = cenB w j from rfl] at q2
        have l1 := large140 (n := d + 7) (by omega) (cenA w j).1 (cenA w j).2
        have l2 := large140 (n := d + 7) (by omega) (cenB w j).1 (cenB w j).2
        have eE : cenE w j = if largeB (cenA w j) = true ∨ largeB (cenB w j) = true then 4 else 0 := by unfold cenE; rw [if_neg z2]
        have eP : cenP w j = if cenE w j = 0 then cenA w j else (0, 0) := by simp [cenP, eF]
        have eQ : cenQ w j = if cenE w j = 0 then cenB w j else (0, 0) := by simp [cenQ, eF]
        rw [eP, eQ, eF, eE]
        clear eP eQ eF eE
        generalize pI (w.map fun x => x.x * x.s.getD j 0) = P1 at *
        generalize pI (w.map fun x => x.y * x.s.getD j 0) = P2 at *
        generalize ctr (·.x) w j = X at *
        generalize ctr (·.y) w j = Y at *
        generalize cenA w j = A at *
        generalize cenB w j = B at *
        have hw1 : IntKind.i64.wrap 1 = 1 := by decide
        have hw2 : IntKind.i64.wrap 2 = 2 := by decide
        let Z : Obj := .arr [.int .i64 0, .int .i64 0] 0 1
        let E0 : Env := [(0, lol w), (3, .ptr 0 0 0), (4, .ptr 1 0 0), (5, .ptr 2 0 0), (8, iv (forI w j)), (9, .ptr 3 0 0), (42, .agg [.p (.clo 232 [] []), .p (.clo 233 [] [])])]
        have st1 : largeB A = false → ∃ st, loopS (evFn F C0 G0 (d + 7)) C0 G0 0 true [0, 3, 4, 5, 8, 9, 42, 43] c74L0 ⟨E0 ++ [(43, iv 0)], [(3, .arr [.int .i64 0, .int .i64 0, .int .i64 0, .int .i64 0] 0 2), (2, Z), (1, Z), (0, .arr [.int .i64 j] 0 1)]⟩ = .ret (.normal, st) ∧
            loopS (evFn F C0 G0 (d + 7)) C0 G0 0 true [0, 3, 4, 5, 8, 9, 42, 43] c74L0 st = loopS (evFn F C0 G0 (d + 7)) C0 G0 0 true [0, 3, 4, 5, 8, 9, 42, 43] c74L0 ⟨E0 ++ [(43, iv 1)], [(3, .arr [.int .i64 A.1, .int .i64 A.2, .int .i64 0, .int .i64 0] 0 2), (2, Z), (1, Z), (0, .frz [.int .i64 j] 0 1)]⟩ := by
          intro la
          refine ⟨?_, ?h1, ?h2⟩
          case h1 =>
            simp -implicitDefEqProofs [E0, Z, loopS_eq, c74L0, m1, s1, q1, l1, la, hw1]
            exact rfl
          case h2 => exact loopS_same (by simp [E0]) (by simp [E0, Z])
        have pre : ∀ (K : T (Ex × St)), loopN (loopS (evFn F C0 G0 (d + 7)) C0 G0 0 true [0, 3, 4, 5, 8, 9, 42, 43] c74L0) loopFuel ⟨[(0, lol w), (3, .ptr 0 0 0), (4, .ptr 1 0 0), (5, .ptr 2 0 0), (8, iv (forI w j)), (9, .ptr 3 0 0), (42, .agg [.p (.clo 232 [] []), .p (.clo 233 [] [])]), (43, iv 0)], [(3, .arr [.int .i64 0, .int .i64 0, .int .i64 0, .int .i64 0] 0 2), (2, .arr [.int .i64 0, .int .i64 0] 0 1), (1, .arr [.int .i64 0, .int .i64 0] 0 1), (0, .arr [.int .i64 j] 0 1)]⟩ = K →
            callPure (evFn F C0 G0 (d + 8)) C0 (.fn 74) [lol w, iv j] = (((K.bind (blockK 0)).bind (seqK (evFn F C0 G0 (d + 7)) C0 G0 0 (tlS (tlS (tlS (tlS (tlS (tlS (tlS c74.body))))))))).bind (finish [.cell 4 true 2, .cell 5 true 2, .tmp 6])) := by
          intro K hK
          rw [call_eq fe74 _ rfl]
          simp -implicitDefEqProofs [c74, tlS, h0, z0, cW_len, hl0, hlp6, h50, hwid, n0, n1, hjw, hj, h1, hg, hzb, g0, show G0 0 = some g0 from rfl]
          rw [hK]
        rw [← call_eq fe74 _ rfl]
        cases la : largeB A with
        | true =>
          obtain ⟨S, hS, g1, g2⟩ : ∃ S, loopS (evFn F C0 G0 (d + 7)) C0 G0 0 true [0, 3, 4, 5, 8, 9, 42, 43] c74L0 ⟨E0 ++ [(43, iv 0)], [(3, .arr [.int .i64 0, .int .i64 0, .int .i64 0, .int .i64 0] 0 2), (2, Z), (1, Z), (0, .arr [.int .i64 j] 0 1)]⟩ = .ret (.ret, ⟨[(4, .ptr 1 0 0), (5, .ptr 2 0 0), (6, iv 4)], S⟩) ∧ get S 1 = some Z ∧ get S 2 = some Z := by
            refine ⟨?_, ?h3, ?h4, ?h5⟩
            case h3 =>
              simp -implicitDefEqProofs [E0, Z, loopS_eq, c74L0, m1, s1, q1, l1, la]
              exact rfl
            case h4 => rfl
            case h5 => rfl
          rw [pre _ (loopN_end hS (by simp) (by simp [loopFuel]))]
          simp only [Z] at g1 g2
          simp -implicitDefEqProofs [g1, g2]
        | false =>
          obtain ⟨s0, a1, a2⟩ := st1 la
          cases lb : largeB B with
          | true =>
            obtain ⟨S, hS, g1, g2⟩ : ∃ S, loopS (evFn F C0 G0 (d + 7)) C0 G0 0 true [0, 3, 4, 5, 8, 9, 42, 43] c74L0 ⟨E0 ++ [(43, iv 1)], [(3, .arr [.int .i64 A.1, .int .i64 A.2, .int .i64 0, .int .i64 0] 0 2), (2, Z), (1, Z), (0, .frz [.int .i64 j] 0 1)]⟩ = .ret (.ret, ⟨[(4, .ptr 1 0 0), (5, .ptr 2 0 0), (6, iv 4)], S⟩) ∧ get S 1 = some Z ∧ get S 2 = some Z := by
              refine ⟨?_, ?h6, ?h7, ?h8⟩
              case h6 =>
                simp -implicitDefEqProofs [E0, Z, loopS_eq, c74L0, m2, s2, q2, l2, lb]
                exact rfl
              case h7 => rfl
              case h8 => rfl
            rw [pre _ ((loopN_on a1 (by simp [loopFuel])).trans (loopN_end (a2.trans hS) (by simp) (by simp [loopFuel])))]
            simp only [Z] at g1 g2
            simp -implicitDefEqProofs [g1, g2]
          | false =>
            obtain ⟨s3, b1, b2⟩ : ∃ st, loopS (evFn F C0 G0 (d + 7)) C0 G0 0 true [0, 3, 4, 5, 8, 9, 42, 43] c74L0 ⟨E0 ++ [(43, iv 1)], [(3, .arr [.int .i64 A.1, .int .i64 A.2, .int .i64 0, .int .i64 0] 0 2), (2, Z), (1, Z), (0, .frz [.int .i64 j] 0 1)]⟩ = .ret (.normal, st) ∧
                loopS (evFn F C0 G0 (d + 7)) C0 G0 0 true [0, 3, 4, 5, 8, 9, 42, 43] c74L0 st = .ret (.exit 0, ⟨E0 ++ [(43, iv 2), (44, .p (.bool false))], [(3, .arr [.int .i64 A.1, .int .i64 A.2, .int .i64 B.1, .int .i64 B.2] 0 2), (2, Z), (1, Z), (0, .frz [.int .i64 j] 0 1)]⟩) := by
              refine ⟨?_, ?h9, ?ha⟩
              case h9 =>
                simp -implicitDefEqProofs [E0, Z, loopS_eq, c74L0, m2, s2, q2, l2, lb, hw2]
                exact rfl
              case ha => simp -implicitDefEqProofs [E0, Z, loopS_eq, c74L0]
            rw [pre _ ((loopN_on a1 (by simp [loopFuel])).trans ((loopN_on (a2.trans b1) (by simp [loopFuel])).trans (loopN_end b2 (by simp) (by simp [loopFuel]))))]
            simp -implicitDefEqProofs [E0, Z, tlS, c74, hidI, hide, hid16, stOp, plain]
    · have eF : cenF w x = 10 := by
        have : idxE w x = 10 := by
          unfold idxE at z1 ⊢
          generalize (decide (x < 0) || decide ((wid w : Int) ≤ x)) = b at *
          cases b
          · exact absurd rfl z1
          · rfl
        simp [cenF, z0, this]
      have eP : cenP w x = (0, 0) := by simp [cenP, eF]
      have eQ : cenQ w x = (0, 0) := by simp [cenQ, eF]
      rw [eP, eQ, eF]
      have hx : x < 0 ∨ (¬ x < 0 ∧ (wid w : Int) ≤ x) := by
        have := mt (idxE_zero (w := w) (x := x)).2 z1
        omega
      rcases hx with c | ⟨c, c2⟩
      · simp -implicitDefEqProofs [c74, h0, z0, c]
      · simp -implicitDefEqProofs [c74, h0, z0, cW_len, hl0, hlp6, h50, hwid, c, c2]
  · have eF : cenF w x = wallE w := by simp [cenF, z0]
    have eP : cenP w x = (0, 0) := by simp [cenP, eF, z0]
    have eQ : cenQ w x = (0, 0) := by simp [cenQ, eF, z0]
    have hb : (wallE w != 0) = true := by simpa using z0
    rw [eP, eQ, eF]
    simp -implicitDefEqProofs [c74, h0, hb]
end Fw
