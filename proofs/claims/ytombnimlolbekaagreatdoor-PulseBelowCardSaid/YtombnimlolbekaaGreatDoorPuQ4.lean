/- What is learned, by the chapter: one wish. -/
import Derived.Test.YtombnimlolbekaaGreatDoorPuQ3
set_option maxHeartbeats 8000000
namespace Fw
open Go
attribute [local irreducible] evCode evOps evOpsD evOper evOperD evOp evFn loopN T.All T.bind callPure callOp opsK opsDK restK seqK blockK loopS setK setQ giveK scalK gcK finish finS rfunK yldK yldB loopK

theorem wish180 {n : Nat} (hn : 1 ≤ n) (a b : Int) : RUN n 180 [iv a, iv b] = .ret (.p (.bool (decide (a < b)))) := by
 obtain ⟨d, rfl⟩ : ∃ d, n = d + 1 := ⟨n - 1, by omega⟩
 rw [RUN, call_eq fe180 _ rfl]
 simp -implicitDefEqProofs [c180]
theorem wish181 {n : Nat} (hn : 1 ≤ n) (a b : Int) : RUN n 181 [iv a, iv b] = .ret (.p (.bool (decide (b < a)))) := by
 obtain ⟨d, rfl⟩ : ∃ d, n = d + 1 := ⟨n - 1, by omega⟩
 rw [RUN, call_eq fe181 _ rfl]
 simp -implicitDefEqProofs [c181]
abbrev wishesA : AVal := .agg [.p (.clo 180 [] []), iv 1, .p (.clo 181 [] []), iv (-1)]
theorem wishes155 {n : Nat} (hn : 1 ≤ n) : RUN n 155 [] = .ret wishesA := by
 obtain ⟨d, rfl⟩ : ∃ d, n = d + 1 := ⟨n - 1, by omega⟩
 rw [RUN, call_eq fe155 _ rfl]
 simp -implicitDefEqProofs [c155]

def roundL (s : SledI) (n : Nat) (x1 : Int) (hold : Bool) (i : Nat) (b : Int) (out : List (Int × Int)) : List (Int × Int) :=
 if (n : Int) ≤ x1 then out else if hold = true then (if safeB s (moveL out i b) n = true then moveL out i b else out) else out

def wE (l c : List (Int × Int)) (p : List Int) (step : Int) (i : Nat) (A B : Int) (r : Nat) : Env :=
 [(1, csl l), (2, csl c), (3, isl p), (4, iv step), (5, .ptr 0 0 0), (11, .sl 1 0 0 l.length), (12, iv i), (13, .ptr 2 0 0), (15, iv A), (16, iv B), (27, csl l), (28, iv l.length), (29, iv i), (82, wishesA), (83, iv r)]
def wS (s : SledI) (x1 x2 : Int) (out : List (Int × Int)) : Sto := [(2, .arr [.int .i64 x1, .int .i64 x2] 0 1), (1, .arr (cI out) 0 2), (0, .arr (slc s) 0 1)]

theorem wish_round {d : Nat} {s : SledI} (hs : SledOk s) {l c out : List (Int × Int)} (hl : Valid l) (p : List Int) {step : Int} (hst : 1 ≤ step ∧ step ≤ 100) (hc0 : 0 < c.length) (hcl : c.length ≤ 64) (hk : Keep l out) (i : Nat) (hi : i < l.length) (x1 x2 A B : Int)
  (r fn : Nat) (b : Int) (hold : Bool) (hr : (r = 0 ∧ b = 1 ∧ fn = 180 ∧ hold = decide (A < B)) ∨ (r = 1 ∧ b = -1 ∧ fn = 181 ∧ hold = decide (B < A))) :
  ∃ st1, loopS (evFn F C0 G0 (d + 4)) C0 G0 0 true [1, 2, 3, 4, 5, 11, 12, 13, 15, 16, 27, 28, 29, 82, 83] c117L1 ⟨wE l c p step i A B r, wS s x1 x2 out⟩ = .ret (.normal, st1) ∧
   loopS (evFn F C0 G0 (d + 4)) C0 G0 0 true [1, 2, 3, 4, 5, 11, 12, 13, 15, 16, 27, 28, 29, 82, 83] c117L1 st1 = loopS (evFn F C0 G0 (d + 4)) C0 G0 0 true [1, 2, 3, 4, 5, 11, 12, 13, 15, 16, 27, 28, 29, 82, 83] c117L1 ⟨wE l c p step i A B (r + 1), wS s x1 x2 (roundL s c.length x1 hold i (step * b) out)⟩ := by
 have hsm := hl.small
 have hol := hk.len
 have hio : i < out.length := by omega
 have hvi := hk.val i hi
 have hgo : out.getD i (0, 0) = out[i] := by simp [List.getD_eq_getElem?_getD, List.getElem?_eq_getElem hio]
 rw [hgo] at hvi
 have hlt' : (i : Int) < l.length := by omega
 have hx0 := cI_get0 out i hio
 have hx1 := cI_get1 out i hio
 have hxd := cI_drop out i hio
 have hlt : i * 2 < l.length * 2 := by omega
 have hs1 : i * 2 + 1 + 1 ≤ l.length * 2 := by omega
 have hs2 : i * 2 + 2 ≤ l.length * 2 := by omega
 have hcall : ∀ o, hold = o → callPure (evFn F C0 G0 (d + 4)) C0 (.fn fn) [iv A, iv B] = .ret (.p (.bool o)) := by
  rintro o rfl
  rcases hr with ⟨_, _, rfl, rfl⟩ | ⟨_, _, rfl, rfl⟩
  ·exact wish180 (n := d + 4) (by omega) A B
  ·exact wish181 (n := d + 4) (by omega) A B
 have hW : (wishesA = .agg [.p (.clo 180 [] []), iv 1, .p (.clo 181 [] []), iv (-1)]) := rfl
 have hrr : r < 2 := by rcases hr with ⟨h, _⟩ | ⟨h, _⟩ <;> omega
 have hcells : ([AVal.p (.clo 180 [] []), iv 1, .p (.clo 181 [] []), iv (-1)].drop (r * 2)).take 2 = [.p (.clo fn [] []), iv b] := by
  rcases hr with ⟨rfl, rfl, rfl, _⟩ | ⟨rfl, rfl, rfl, _⟩ <;> rfl
 have hr2 : (r : Int) < 2 := by omega
 have hr3 : r * 2 + 2 ≤ 4 := by omega
 by_cases hsk : (c.length : Int) ≤ x1
 ·refine ⟨⟨wE l c p step i A B (r + 1), (3, .box [.p (.clo fn [] []), iv b]) :: wS s x1 x2 out⟩, ?_, loopS_same rfl (by simp [wE, wS, roundL, hsk])⟩
  simp -implicitDefEqProofs [wE, wS, loopS_eq, c117L1, hr2, hr3, hcells, hsk, wrap_succ (i := r) (by omega)]
 ·cases hh : hold with
  | false =>
   have hc := hcall false hh
   refine ⟨⟨wE l c p step i A B (r + 1), (3, .box [.p (.clo fn [] []), iv b]) :: wS s x1 x2 out⟩, ?_, loopS_same rfl (by simp [wE, wS, roundL, hsk])⟩
   simp -implicitDefEqProofs [wE, wS, loopS_eq, c117L1, hr2, hr3, hcells, hsk, hc, wrap_succ (i := r) (by omega)]
  | true =>
   have hc := hcall true hh
   have hbb : -100 ≤ step * b ∧ step * b ≤ 100 := by
    rcases hr with ⟨_, h, _⟩ | ⟨_, h, _⟩ <;> subst h <;> omega
   have w1 := wrap64 (n := step * b) (by omega) (by omega)
   have w2 := wrap64 (n := out[i].2 + step * b) (by omega) (by omega)
   have m1 := max2 0 (out[i].2 + step * b)
   have m2 := min2 100 (max 0 (out[i].2 + step * b))
   have hmm : min 100 (max 0 (out[i].2 + step * b)) = max 0 (min 100 (out[i].2 + step * b)) := by omega
   rw [hmm] at m2
   have hmv : moveL out i (step * b) = out.set i (out[i].1, max 0 (min 100 (out[i].2 + step * b))) := by rw [moveL, hgo]
   have hset := cI_set1 out i hio (max 0 (min 100 (out[i].2 + step * b)))
   rw [← hmv] at hset
   have hml : (moveL out i (step * b)).length = l.length := by rw [moveL_length, hol]
   have hmi : i < (moveL out i (step * b)).length := by omega
   have hgm : (moveL out i (step * b))[i] = (out[i].1, max 0 (min 100 (out[i].2 + step * b))) := by simp [hmv]
   have hmd := cI_drop (moveL out i (step * b)) i hmi
   rw [hgm] at hmd
   have hkm := hk.move i (step * b) hi
   have hsafe := safe154 (n := d + 4) (by omega) hs (hkm.valid hl) c.length hc0 (by omega)
   simp only [csl, hml] at hsafe
   have hback : ((cI (moveL out i (step * b))).set (i * 2) (.int .i64 out[i].1)).set (i * 2 + 1) (.int .i64 out[i].2) = cI out := by
    rw [cI_set0 _ i hmi, cI_set1 _ i (by simpa using hmi)]
    congr 1
    simp only [hmv, List.set_set, List.getElem_set_self]
    exact List.set_getElem_self hio
   by_cases hv : max 0 (min 100 (out[i].2 + step * b)) = out[i].2
   ·have hmo : moveL out i (step * b) = out := by rw [hmv, hv]; exact List.set_getElem_self hio
    refine ⟨⟨wE l c p step i A B (r + 1), (4, .arr [.int .i64 out[i].1, .int .i64 out[i].2] 0 1) :: (3, .box [.p (.clo fn [] []), iv b]) :: wS s x1 x2 out⟩, ?_, loopS_same rfl (by simp [wE, wS, roundL, hsk, hmo])⟩
    rw [hv] at m2 hset hmd
    rw [hmo] at hset
    simp -implicitDefEqProofs [wE, wS, loopS_eq, c117L1, hr2, hr3, hcells, hsk, hc, hlt', hxd, hs1, hol, w1, w2, m1, m2, hset, eqK, keyOk, eqP, wrap_succ (i := r) (by omega)]
   ·have hvb : (max 0 (min 100 (out[i].2 + step * b)) == out[i].2) = false := by simpa using hv
    cases hsf : safeB s (moveL out i (step * b)) c.length with
    | true =>
     rw [hsf] at hsafe
     refine ⟨⟨wE l c p step i A B (r + 1), (4, .arr [.int .i64 out[i].1, .int .i64 out[i].2] 0 1) :: (3, .box [.p (.clo fn [] []), iv b]) :: wS s x1 x2 (moveL out i (step * b))⟩, ?_, loopS_same rfl (by simp [wE, wS, roundL, hsk, hsf])⟩
     generalize moveL out i (step * b) = mv at *
     simp -implicitDefEqProofs [wE, wS, loopS_eq, c117L1, hr2, hr3, hcells, hsk, hc, hlt', hxd, hs1, hol, w1, w2, m1, m2, hset, hmd, hml, hvb, hsafe, eqK, keyOk, eqP, wrap_succ (i := r) (by omega)]
    | false =>
     rw [hsf] at hsafe
     refine ⟨⟨wE l c p step i A B (r + 1), (4, .arr [.int .i64 out[i].1, .int .i64 out[i].2] 0 1) :: (3, .box [.p (.clo fn [] []), iv b]) :: wS s x1 x2 out⟩, ?_, loopS_same rfl (by simp [wE, wS, roundL, hsk, hsf])⟩
     generalize moveL out i (step * b) = mv at *
     simp -implicitDefEqProofs [wE, wS, loopS_eq, c117L1, hr2, hr3, hcells, hsk, hc, hlt', hxd, hs1, hol, w1, w2, m1, m2, hset, hmd, hml, hvb, hsafe, hback, eqK, keyOk, eqP, wrap_succ (i := r) (by omega)]
end Fw
