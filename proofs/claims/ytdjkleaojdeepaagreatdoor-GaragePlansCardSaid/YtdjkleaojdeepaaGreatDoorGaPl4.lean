/- The chapter's search for the best order: one round. -/
import Derived.Test.YtdjkleaojdeepaaGreatDoorGaPl3
import Derived.Test.YtdjkleaojdeepaaGreatDoorGaJ6
set_option maxHeartbeats 16000000
set_option maxRecDepth 8000
namespace Fw
open Go
attribute [local irreducible] evCode evOps evOpsD evOper evOperD evOp evFn loopN T.All T.bind callPure callOp opsK opsDK restK seqK blockK loopS setK setQ giveK scalK gcK finish finS rfunK yldK yldB loopK

theorem cmp118 {d : Nat} (S : Sto) (N i1 v1 i2 v2 : Nat) (x y : List Int) (e e2 : Int) (hN : nextId S = N) (h1 : get S i1 = some (.arr (pI x) v1 1)) (h2 : get S i2 = some (.arr (pI y) v2 1)) (n1 : i1 < N) (n2 : i2 < N) (hx : x.length < 1000) (hxy : x.length = y.length) :
    evFn F C0 G0 (d + 4) (.fn 118) [.agg [.sl i1 v1 0 x.length, iv e], .agg [.sl i2 v2 0 x.length, iv e2]] S = .ret (iv (firstE [cmpI e e2, lexC x y]), (N + 1, .box [.sl i2 v2 0 x.length, iv e2]) :: (N, .box [.sl i1 v1 0 x.length, iv e]) :: S) := by
  rw [evFn_fn fe118]
  have k1 := compare146 (n := d + 3) (by omega) e e2
  have k2 := compare147 (n := d + 3) (by omega) x y hx hxy
  have k3 := or145 (n := d + 3) (by omega) (cmpI e e2) (lexC x y)
  have m1 : ¬ N = i1 := by omega
  have m2 : ¬ N + 1 = i1 := by omega
  have m3 : ¬ N = i2 := by omega
  have m4 : ¬ N + 1 = i2 := by omega
  have hX := pI_len x
  have hY := pI_len y
  rw [← hxy] at hY
  simp only [isl, ← hxy] at k2
  have hN1 : ∀ X, nextId ((N, X) :: S) = N + 1 := fun _ => rfl
  generalize cmpI e e2 = c at *
  generalize lexC x y = q at *
  generalize firstE [c, q] = w at *
  generalize pI x = PX at *
  generalize pI y = PY at *
  generalize x.length = n at *
  simp -implicitDefEqProofs [c118, hN, hN1, h1, h2, m1, m2, m3, m4, hX, hY, k1, k2, k3, -nextId]
/-- the end of the schedule of an order -/
def valO (l : List JobI) (o : List Int) : Int := endF l (plF l o l.length) l.length
theorem placed_ok {l : List JobI} {o : List Int} (hl : JobsOk l) (ho : OrdOk l.length o) : StOkJ l.length (plF l o l.length) := by
  have h8 := hl.1
  refine ⟨plF_len l o _, fun i hi => ?_⟩
  have := plF_le hl ho l.length (Nat.le_refl _) i hi
  omega
def Bs (u : Option Nat) (best : List Int) (e : Int) (now : List Int) : Sto := match u with
  | none => Nx 2 1 (.box [.sl 1 1 0 best.length, iv e]) (.arr (pI best) 1 1) now
  | some r => Nx r 2 (.arr (pI best) 0 1) (.box [.sl r 0 0 best.length, iv e]) now
def P59 (l : List JobI) (u : Option Nat) (best : List Int) (e : Int) (now : List Int) : St := ⟨[(0, jsl l), (6, .sl 0 0 0 now.length), (8, .ptr 2 0 0), (9, .p (.clo 118 [] []))], Bs u best e now⟩
theorem setC_all (p : List Int) (z : List PVal) (hz : z.length = p.length) : setCells z 0 (pI p) = pI p := by
  have key : ∀ (vs z : List PVal) (i : Nat), i + vs.length = z.length → setCells z i vs = z.take i ++ vs := by
    intro vs
    induction vs with
    | nil => intro z i h; simp only [setCells, List.append_nil]; rw [List.take_of_length_le (by simp at h; omega)]
    | cons v r ih =>
      intro z i h
      simp only [List.length_cons] at h
      simp only [setCells]
      rw [ih (z.set i v) (i + 1) (by simp; omega)]
      have hi : i < (z.set i v).length := by simp; omega
      rw [← List.take_append_getElem hi]
      simp only [List.getElem_set_self, List.append_assoc, List.cons_append, List.nil_append]
      rw [List.take_set, List.set_eq_of_length_le (by rw [List.length_take]; exact Nat.min_le_left _ _)]
  have := key (pI p) z 0 (by rw [pI_len]; omega)
  simpa using this
theorem vcall59 {d : Nat} (l : List JobI) (o : List Int) (hl : JobsOk l) (ho : OrdOk l.length o) : RUN (d + 2) 110 [jsl l, isl o] = .ret (.own (pI (plF l o l.length)) l.length 1) ∧ RUN (d + 2) 111 [jsl l, .p (.sl (pI (plF l o l.length)) l.length)] = .ret (iv (valO l o)) := by
  refine ⟨starts110 (by omega) l o hl ho, ?_⟩
  have := end111 (n := d + 2) (by omega) l (plF l o l.length) hl (placed_ok hl ho)
  simp only [isl, plF_len] at this
  exact this
theorem cmp_lt (a b : Int) : decide (firstE [cmpI a b, 1] < 0) = decide (a < b) := by
  unfold cmpI
  by_cases h1 : a < b
  · simp [h1, firstE]
  · by_cases h2 : b < a
    · simp [h1, h2, firstE]
    · simp [h1, h2, firstE]
theorem round59 {d : Nat} (l : List JobI) (hl : JobsOk l) (u : Option Nat) (hu : ∀ r, u = some r → 3 ≤ r) (best now p : List Int) (hn : OrdOk l.length now) (hn0 : 0 < l.length) (hb : best.length = l.length) (hp : OrdOk l.length p) (hnx : nextP now = some p) (hlx : lexC p best = 1) (e : Int) :
    ∃ st1 u', (∀ r, u' = some r → 3 ≤ r) ∧ loopS (evFn F C0 G0 (d + 4)) C0 G0 0 true [0, 6, 8, 9] c59L1 (P59 l u best e now) = .ret (.normal, st1) ∧
      loopS (evFn F C0 G0 (d + 4)) C0 G0 0 true [0, 6, 8, 9] c59L1 st1 = loopS (evFn F C0 G0 (d + 4)) C0 G0 0 true [0, 6, 8, 9] c59L1 (if valO l p < e then P59 l u' p (valO l p) p else P59 l u best e p) := by
  have h8 := hl.1
  have hnl := hn.1
  have hpl := hp.1
  obtain ⟨k110, k111⟩ := vcall59 (d := d + 2) l p hl hp
  have hcl := cmp_lt (valO l p) e
  have hset := setC_all p (List.replicate l.length (PVal.int .i64 0)) (by simp [hpl])
  have hP := pI_len p
  have hB := pI_len best
  have hNw := pI_len now
  have hlim : (l.length : Int) ≤ lim := by simp only [lim]; omega
  have hsc : ∀ x, x ∈ pI (plF l p l.length) → scalarP x = true := fun x hx => by
    simp only [pI, List.mem_map] at hx
    obtain ⟨y, _, rfl⟩ := hx
    rfl
  have hsc := eq_true hsc
  match u, hu with
  | none, _ =>
    have k119 := next119 (d := d + 2) 2 1 (.box [.sl 1 1 0 best.length, iv e]) (.arr (pI best) 1 1) (by omega) (by omega) now (by omega) (by omega)
    rw [hnx] at k119
    simp only [Option.isSome_some, Option.getD_some] at k119
    have kc := cmp118 (d := d) [(4, .box [.sl 3 0 0 p.length, iv (valO l p)]), (3, .arr (pI p) 0 1), (2, .box [.sl 1 1 0 best.length, iv e]), (1, .arr (pI best) 1 1), (0, .arr (pI p) 0 1)] 5 3 0 1 1 p best (valO l p) e rfl rfl rfl (by omega) (by omega) (by omega) (by omega)
    rw [hlx] at kc
    simp only [P59, Bs, Nx] at *
    generalize valO l p = V at *
    generalize firstE [cmpI V e, 1] = w at *
    simp only [isl, hpl, hb, hnl] at *
    generalize pI (plF l p l.length) = PL at *
    generalize rowC jc l = J at *
    generalize pI p = PP at *
    generalize pI best = PB at *
    generalize pI now = PN at *
    have hTk : PP.take l.length = PP := List.take_of_length_le (by omega)
    by_cases hV : V < e
    · simp only [if_pos hV]
      rw [decide_eq_true hV] at hcl
      refine ⟨?_, some 3, (fun r h => by cases h; omega), ?h1, ?h2⟩
      case h1 =>
        simp -implicitDefEqProofs [loopS_eq, c59L1, k119, k110, k111, hset, hP, hlim, hsc, hTk, kc, hcl, rOp, mOpr]
        exact rfl
      case h2 => exact loopS_same (by simp) (by simp)
    · simp only [if_neg hV]
      rw [decide_eq_false hV] at hcl
      refine ⟨?_, none, (fun r h => by cases h), ?h1, ?h2⟩
      case h1 =>
        simp -implicitDefEqProofs [loopS_eq, c59L1, k119, k110, k111, hset, hP, hlim, hsc, hTk, kc, hcl, rOp, mOpr]
        exact rfl
      case h2 => exact loopS_same (by simp) (by simp)
  | some r, hu =>
    have hr := hu r rfl
    have k119 := next119 (d := d + 2) r 2 (.arr (pI best) 0 1) (.box [.sl r 0 0 best.length, iv e]) (by omega) (by omega) now (by omega) (by omega)
    rw [hnx] at k119
    simp only [Option.isSome_some, Option.getD_some] at k119
    have r0 : ¬ r = 0 := by omega
    have r2 : ¬ r = 2 := by omega
    have z1 : ¬ 2 = r := by omega
    have z2 : ¬ 0 = r := by omega
    have z3 : ¬ r + 1 = 2 := by omega
    have z4 : ¬ r + 1 + 1 = 2 := by omega
    have z5 : ¬ 2 = r + 1 := by omega
    have z6 : ¬ 2 = r + 1 + 1 := by omega
    have l1 : 2 < r + 1 := by omega
    have l2 : 2 < r + 1 + 1 + 1 := by omega
    have l3 : r < r + 1 + 1 + 1 := by omega
    have l4 : r + 1 < r + 1 + 1 + 1 := by omega
    have y1 : ¬ r = r + 1 + 1 := by omega
    have l5 : r + 1 + 1 < r + 1 + 1 + 1 := by omega
    have n2 : ¬ r + 1 + 1 = r := by omega
    have n3 : ¬ r + 1 + 1 + 1 = r := by omega
    have n4 : ¬ r + 1 + 1 + 1 + 1 = r := by omega
    have y3 : ¬ r = r + 1 + 1 + 1 := by omega
    have y4 : ¬ r = r + 1 + 1 + 1 + 1 := by omega
    have x1 : ¬ r = 1 := by omega
    have x2 : ¬ 1 = r := by omega
    have x3 : ¬ 2 = r + 1 + 1 + 1 := by omega
    have x4 : ¬ 2 = r + 1 + 1 + 1 + 1 := by omega
    have x5 : 1 < r := by omega
    have x6 : ¬ r + 1 + 1 + 1 < r + 1 + 1 + 1 := by omega
    have x7 : ¬ r + 1 + 1 + 1 + 1 < r + 1 + 1 + 1 := by omega
    have g1 : get [(r + 1 + 1, .box [.sl (r + 1) 0 0 p.length, iv (valO l p)]), (r + 1, .arr (pI p) 0 1), (r, .arr (pI best) 0 1), (2, .box [.sl r 0 0 best.length, iv e]), (0, .arr (pI p) 0 1)] (r + 1) = some (.arr (pI p) 0 1) := by simp []
    have g2 : get [(r + 1 + 1, .box [.sl (r + 1) 0 0 p.length, iv (valO l p)]), (r + 1, .arr (pI p) 0 1), (r, .arr (pI best) 0 1), (2, .box [.sl r 0 0 best.length, iv e]), (0, .arr (pI p) 0 1)] r = some (.arr (pI best) 0 1) := by simp [n2]
    have kc := cmp118 (d := d) [(r + 1 + 1, .box [.sl (r + 1) 0 0 p.length, iv (valO l p)]), (r + 1, .arr (pI p) 0 1), (r, .arr (pI best) 0 1), (2, .box [.sl r 0 0 best.length, iv e]), (0, .arr (pI p) 0 1)] (r + 1 + 1 + 1) (r + 1) 0 r 0 p best (valO l p) e rfl g1 g2 (by omega) (by omega) (by omega) (by omega)
    rw [hlx] at kc
    clear g1 g2
    simp only [P59, Bs, Nx] at *
    generalize valO l p = V at *
    generalize firstE [cmpI V e, 1] = w at *
    simp only [isl, hpl, hb, hnl] at *
    generalize pI (plF l p l.length) = PL at *
    generalize rowC jc l = J at *
    generalize pI p = PP at *
    generalize pI best = PB at *
    generalize pI now = PN at *
    have hTk : PP.take l.length = PP := List.take_of_length_le (by omega)
    by_cases hV : V < e
    · simp only [if_pos hV]
      rw [decide_eq_true hV] at hcl
      refine ⟨?_, some (r + 1), (fun q h => by cases h; omega), ?h1, ?h2⟩
      case h1 =>
        simp -implicitDefEqProofs [loopS_eq, c59L1, r0, r2, z1, z2, z3, z4, z5, l1, l2, l3, l4, l5, y1, n2, n3, n4, x6, x7, k119, k110, k111, hset, hP, hlim, hsc, hTk, kc, hcl, rOp, mOpr]
        exact rfl
      case h2 => exact loopS_same (by simp) (by simp [r0, r2, z3, z4, z5])
    · simp only [if_neg hV]
      rw [decide_eq_false hV] at hcl
      refine ⟨?_, none, (fun q h => by cases h), ?h1, ?h2⟩
      case h1 =>
        simp -implicitDefEqProofs [loopS_eq, c59L1, r0, r2, z1, z2, z3, z4, z5, l1, l2, l3, l4, l5, y1, n2, n3, n4, x6, x7, k119, k110, k111, hset, hP, hlim, hsc, hTk, kc, hcl, rOp, mOpr]
        exact rfl
      case h2 => exact loopS_same (by simp) (by simp [r0, r2, z1, z2, z3, z4, n2])
end Fw
