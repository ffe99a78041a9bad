/- The law on tables: what it returns at any input. -/
import Derived.Test.YtfkacogfieiccaaGreatDoorBaL2
import Derived.Test.YtfkacogfieiccaaGreatDoorBaA
import Derived.Test.YtfkacogfieiccaaGreatDoorFwC
set_option maxHeartbeats 16000000
namespace Fw
open Go
attribute [local irreducible] evCode evOps evOpsD evOper evOperD evOp evFn loopN T.All T.bind callPure callOp opsK opsDK restK seqK blockK loopS setK setQ giveK scalK gcK finish finS rfunK yldK yldB loopK

theorem awake13 : RUN 60 13 [] = .ret (.p (.bool true)) := awake
def hdS : ACode → ACode
  | .seq a _ => a
  | c => c
def tlS : ACode → ACode
  | .seq _ b => b
  | c => c
@[irreducible] def c6r : ACode := tlS (tlS c6.body)
theorem c6_body : c6.body = .seq (hdS c6.body) (.seq (hdS (tlS c6.body)) c6r) := by unfold c6r; rfl

theorem cells_eq (t : TowI) (tab : List Int) (cell : Int) : firstE [formE t tab, cellE t cell] = cellsE t tab cell := by
  simp only [formE, cellsE, firstE]
  by_cases h1 : shapeE t tab = 0 <;> by_cases h2 : rangesE 0 100000000 tab = 0 <;> simp [h1, h2]

theorem tab_rest (t : TowI) (tab : List Int) (cell : Int) (hl : t.pull.length < 1000000) (htl : tab.length < 1000000) (tl : Env) :
    (evCode (evFn F C0 G0 60) C0 G0 0 c6r ⟨(1, isl tab) :: (2, iv cell) :: (3, .ptr 0 0 0) :: tl, [(0, .box (twl t))]⟩).bind (finish [.tmp 6]) = .ret (.p (.bool true)) := by
  have ka := awake13
  have k35 := given35 (n := 60) (by omega) t hl
  have k50 := table50 (n := 60) (by omega) t hl
  have k52 := ints52 (n := 60) (by omega) tab htl
  have k51 := check51 (n := 60) (by omega) t hl tab htl cell
  have k40 := tow40 (n := 60) (by omega) t hl
  have k42 := cell42 (n := 60) (by omega) t cell
  have k19 := first19_2 (n := 60) (by omega) (formE t tab) (cellE t cell)
  rw [cells_eq] at k19
  have k55 := fun b e => when55 (n := 60) (by omega) b e
  have k49n := same49 (n := 60) (by omega) [] [] (by simp)
  simp only [isl, pI_nil, List.length_nil] at k49n
  unfold c6r
  by_cases z0 : towE t = 0
  · have h := tow_of z0
    have hw := h.wl
    have hfew := h.few
    have k53 := table53 (n := 60) (by omega) h
    have k54 := form54 (n := 60) (by omega) h tab htl
    have k49 := same49 (n := 60) (by omega) (tabL t) (tabL t) (by rw [tabL_length h]; omega)
    rw [if_pos z0] at k50
    unfold checkE at k51
    rw [if_pos z0] at k51
    by_cases z1 : cellsE t tab cell = 0
    · rw [if_pos z1] at k51
      have hzz := firstE_zero.1 z1
      have ht : TabOk t tab := tab_of h (firstE_zero.2 (fun e he => by
        simp at he
        rcases he with rfl | rfl
        · exact hzz (shapeE t tab) (by simp)
        · exact hzz (rangesE 0 100000000 tab) (by simp)))
      have hcl := cellE_zero.1 (hzz (cellE t cell) (by simp))
      have k56 := proves56 (n := 60) (by omega) h ht (c := cell.toNat) (by omega)
      rw [show ((cell.toNat : Nat) : Int) = cell by omega] at k56
      simp -implicitDefEqProofs [tlS, c6, ka, k35, k50, k52, k51, k40, k42, k19, k55, k53, k54, k49, k56, z0, z1]
    · rw [if_neg z1] at k51
      have hb : (cellsE t tab cell == 0) = false := by simpa using z1
      simp -implicitDefEqProofs [tlS, c6, ka, k35, k50, k52, k51, k40, k42, k19, k53, k54, k49, z0, hb]
  · rw [if_neg z0] at k50
    unfold checkE at k51
    rw [if_neg z0] at k51
    have hb : (towE t == 0) = false := by simpa using z0
    simp -implicitDefEqProofs [tlS, c6, ka, k35, k50, k52, k51, k40, k49n, hb]

theorem tab_at (t : TowI) (tab : List Int) (cell : Int) : RUN 61 6 [twa t, isl tab, iv cell] = .ret (.p (.bool true)) := by
  rw [RUN, call_eq (d := 60) fe6 _ rfl]
  have ka := awake13
  rw [c6_body]
  by_cases h1 : (65 : Int) < t.pull.length
  · simp -implicitDefEqProofs [hdS, tlS, c6, ka, h1]
  · by_cases h2 : (70 : Int) < tab.length
    · simp -implicitDefEqProofs [hdS, tlS, c6, ka, h1, h2]
    · have hk := fun tl => tab_rest t tab cell (by omega) (by omega) tl
      simp -implicitDefEqProofs [hdS, tlS, c6, h1, h2, hk]
end Fw
