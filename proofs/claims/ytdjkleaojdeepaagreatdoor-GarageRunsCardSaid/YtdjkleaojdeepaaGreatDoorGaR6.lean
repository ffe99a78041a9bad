/- The states of a run, the program's: a range over a function. -/
import Derived.Test.YtdjkleaojdeepaaGreatDoorGaR5
set_option maxHeartbeats 16000000
namespace Fw
open Go
attribute [local irreducible] evCode evOps evOpsD evOper evOperD evOp evFn loopN T.All T.bind callPure callOp opsK opsDK restK seqK blockK loopS setK setQ giveK scalK gcK finish finS rfunK yldK yldB loopK

/-- the states after acts, as long as they are permitted, and whether all are -/
def runG (base : Int) (W : ActI → Int) : StaI → List ActI → List StaI × Bool
  | _, [] => ([], true)
  | s, x :: r => if (reaL s x).length = 0 then ((aftS base (W x) s x) :: (runG base W (aftS base (W x) s x) r).1, (runG base W (aftS base (W x) s x) r).2) else ([], false)
def capH (h : HallI) : PVal := .pp [.int .i64 h.doors, .int .i64 h.base, .sl (cI h.t0) h.t0.length, .sl (cI h.t1) h.t1.length, .sl (cI h.t2) h.t2.length]
def capL (l : List ActI) : PVal := .pp [.sl (rowC ac l) l.length]
def qLoop (h : HallI) (l : List ActI) (j : Option ACode) (e : Nat) : Obj := .loop [(1, asl l), (4, .p .nils), (5, iv 0), (6, iv 0), (8, .ptr 2 0 0), (19, .p (.clo 161 [] [capL l, capH h]))] [20, 21] c88A0 c88B0 j e
theorem qLoop_fold (h : HallI) (l : List ActI) (j : Option ACode) (e : Nat) : Obj.loop [(1, asl l), (4, .p .nils), (5, iv 0), (6, iv 0), (8, .ptr 2 0 0), (19, .p (.clo 161 [] [capL l, capH h]))] [20, 21] c88A0 c88B0 j e = qLoop h l j e := rfl
theorem refs_qLoop (h : HallI) (l : List ActI) (j : Option ACode) (e : Nat) : refsO (qLoop h l j e) = [2] := by simp [qLoop]
def pR (h : HallI) (out : List StaI) : Sto := [(2, .box [.sl 1 out.length 0 out.length]), (1, .arr (rowC sc out) out.length 15), (0, .box [iv h.doors, iv h.base, csl h.t0, csl h.t1, csl h.t2])]

theorem yield88 {d : Nat} (h : HallI) (l : List ActI) (out : List StaI) (s : StaI) (i : Int) (c5 c4 : List PVal) (hl : out.length < 100000) :
    evFn F C0 G0 (d + 1) (.yld 3) [iv i, sa s] ((5, .arr c5 0 1) :: (4, .arr c4 0 1) :: (3, qLoop h l none 0) :: pR h out) = .ret (bl true, (6, .arr (sc s) 0 1) :: (5, .arr c5 0 1) :: (4, .arr c4 0 1) :: (3, qLoop h l none 0) :: pR h (out ++ [s])) := by
  rw [evFn_yld (by rfl) (by rfl)]
  have hlim : out.length + 1 ≤ lim := by simp only [lim]; omega
  have hR := sR_len out
  have hr : rowC sc (out ++ [s]) = rowC sc out ++ sc s := rowC_snoc ..
  have hn : (out ++ [s]).length = out.length + 1 := by simp
  simp only [pR, hr, hn]
  generalize hA : rowC sc out = A at *
  generalize out.length = n at *
  obtain ⟨st, o0, o1, o2, o3, o4, o5, o6, o7, k0, k1, pp, ar, sh, ad⟩ := s
  simp -implicitDefEqProofs [c88A0]
  rw [yldK_eq (by rfl), qLoop_fold]
  simp -implicitDefEqProofs [c88B0, hlim, hR]
  rw [yldB_normal (by rfl), qLoop_fold]
  simp -implicitDefEqProofs [sc]
end Fw
