/- Several texts in one: steps of the proof, no condition of their own. -/
import Derived.Test.YtdjkleaojdeepaaGreatDoorGaWt3
import Derived.Test.YtdjkleaojdeepaaGreatDoorGaRun
attribute [local irreducible] Fw.evCode Fw.evOps Fw.evOpsD Fw.evOper Fw.evOperD Fw.evOp Fw.evFn Fw.loopN Fw.T.All Fw.T.bind Fw.callPure Fw.callOp Fw.opsK Fw.opsDK Fw.restK Fw.seqK Fw.blockK Fw.loopS Fw.setK Fw.setQ Fw.giveK Fw.scalK Fw.gcK Fw.finish Fw.finS Fw.rfunK Fw.yldK Fw.yldB Fw.loopK
section
set_option maxHeartbeats 16000000
set_option maxRecDepth 8000
namespace Fw
open Go

theorem hidT32 : hidT 4294967296 = [32] := by decide
theorem hidT33 : hidT 8589934592 = [33] := by decide
theorem hidT3233 : hidT 12884901888 = [32, 33] := by decide
abbrev xC (P : List UInt8) (k0 k1 k2 k3 : Int) : List AVal := [.p (.sl (pB P) P.length), .p (.int .u8 k0), .p (.int .u8 k1), .p (.int .u8 k2), .p (.int .u8 k3)]
theorem mov_all {n : Nat} (hn : 5 ≤ n) (P : List UInt8) (hP : P.length ≤ 40) (g : List (Int × Int)) (hg : g.length < 1000) (hs : spnE g = 0) :
  ∃ a, RUN n 42 [isl (trF P), csl g] = .ret (.tup [a, iv 0]) ∧ disown a = isl (mvF (trF P) g ((trF P).length - 1)) := by
 obtain ⟨a, h1, h2⟩ := moved42 hn (trF P) (by rw [trF_len]; omega) g (by omega)
 have hE : movE (trF P) g = 0 := by simp [movE, tra_ok (l := trF P) (by rw [trF_len]; omega) (trF_rng P), hs, firstE]
 unfold movO at h2
 rw [hE] at h1 h2
 rw [if_pos rfl] at h2
 exact ⟨a, h1, h2⟩
theorem rD10 (ka : RUN 60 17 [] = .ret (.p (.bool true))) (P : List UInt8) (hP : P.length ≤ 40) (k0 k1 k2 k3 : Int) (b0 : 0 ≤ k0 ∧ k0 ≤ 255) (b1 : 0 ≤ k1 ∧ k1 ≤ 255) (b2 : 0 ≤ k2 ∧ k2 ≤ 255) (b3 : 0 ≤ k3 ∧ k3 ≤ 255) (O5 O4 O3 O0 : Obj) (tl : Env) :
  (evCode (evFn F C0 G0 60) C0 G0 0 tD10 ⟨(5, .ptr 2 0 0) :: tl, [(5, O5), (4, O4), (3, O3), (2, .box (xC P k0 k1 k2 k3)), (0, O0)]⟩).bind (finish [.tmp 6]) = .ret (.p (.bool true)) := by
 have kt := trace10 (d := 60) P (by omega) [(5, O5), (4, O4), (3, O3), (2, .box (xC P k0 k1 k2 k3)), (0, O0)] (by simp)
 obtain ⟨q, rfl, q1, q2⟩ : ∃ q : Nat, k0 = q ∧ 0 ≤ q ∧ q ≤ 255 := ⟨k0.toNat, by omega, by omega, by omega⟩
 obtain ⟨r, rfl, r1, r2⟩ : ∃ q : Nat, k1 = q ∧ 0 ≤ q ∧ q ≤ 255 := ⟨k1.toNat, by omega, by omega, by omega⟩
 obtain ⟨s, rfl, s1, s2⟩ : ∃ q : Nat, k2 = q ∧ 0 ≤ q ∧ q ≤ 255 := ⟨k2.toNat, by omega, by omega, by omega⟩
 obtain ⟨t, rfl, t1, t2⟩ : ∃ q : Nat, k3 = q ∧ 0 ≤ q ∧ q ≤ 255 := ⟨k3.toNat, by omega, by omega, by omega⟩
 have kf := trF_len P
 obtain ⟨a, ha, hb, hc⟩ : ∃ a : Int, (q : Int).tmod 20 = a ∧ 0 ≤ a ∧ a ≤ 19 := ⟨_, rfl, by rw [show (q : Int).tmod 20 = ((q % 20 : Nat) : Int) from rfl]; omega, by rw [show (q : Int).tmod 20 = ((q % 20 : Nat) : Int) from rfl]; omega⟩
 obtain ⟨b, hb', hb1, hb2⟩ : ∃ a : Int, (r : Int).tmod 20 = a ∧ 0 ≤ a ∧ a ≤ 19 := ⟨_, rfl, by rw [show (r : Int).tmod 20 = ((r % 20 : Nat) : Int) from rfl]; omega, by rw [show (r : Int).tmod 20 = ((r % 20 : Nat) : Int) from rfl]; omega⟩
 obtain ⟨c, hc', hc1, hc2⟩ : ∃ a : Int, (s : Int).tmod 5 = a ∧ 0 ≤ a ∧ a ≤ 4 := ⟨_, rfl, by rw [show (s : Int).tmod 5 = ((s % 5 : Nat) : Int) from rfl]; omega, by rw [show (s : Int).tmod 5 = ((s % 5 : Nat) : Int) from rfl]; omega⟩
 obtain ⟨e, he', he1, he2⟩ : ∃ a : Int, (t : Int).tmod 9 = a ∧ 0 ≤ a ∧ a ≤ 8 := ⟨_, rfl, by rw [show (t : Int).tmod 9 = ((t % 9 : Nat) : Int) from rfl]; omega, by rw [show (t : Int).tmod 9 = ((t % 9 : Nat) : Int) from rfl]; omega⟩
 have k43 := ints43 (n := 60) (by omega) (trF P) (by omega)
 obtain ⟨v0, m0, d0⟩ := mov_all (n := 60) (by omega) P hP [] (by simp) rfl
 obtain ⟨v1, m1, d1⟩ := mov_all (n := 60) (by omega) P hP [(0, 100)] (by simp) (spn_one (by omega) (by omega) (by omega))
 obtain ⟨v2, m2, d2⟩ := mov_all (n := 60) (by omega) P hP [(a, a + 1 + b)] (by simp) (spn_one (by omega) (by omega) (by omega))
 obtain ⟨v3, m3, d3⟩ := mov_all (n := 60) (by omega) P hP [(a + 1 + b + c, a + 1 + b + c + 1 + e)] (by simp) (spn_one (by omega) (by omega) (by omega))
 obtain ⟨v4, m4, d4⟩ := mov_all (n := 60) (by omega) P hP [(a, a + 1 + b), (a + 1 + b + c, a + 1 + b + c + 1 + e)] (by simp) (spn_two (by omega) (by omega) (by omega) (by omega) (by omega))
 have hE := fun O8 S tl => rE10 ka (trF P) (by omega) a (a + 1 + b) (a + 1 + b + c) (a + 1 + b + c + 1 + e) (by omega) O8 S tl
 rw [mov_none (by omega)] at d1
 have x0 := wrap64 (n := (q : Int)) (by omega) (by omega)
 have x1 := wrap64 (n := (r : Int)) (by omega) (by omega)
 have x2 := wrap64 (n := (s : Int)) (by omega) (by omega)
 have x3 := wrap64 (n := (t : Int)) (by omega) (by omega)
 have y0 := wrap64 (n := a) (by omega) (by omega)
 have y1 := wrap64 (n := b) (by omega) (by omega)
 have y2 := wrap64 (n := c) (by omega) (by omega)
 have y3 := wrap64 (n := e) (by omega) (by omega)
 have z1 := wrap64 (n := a + 1) (by omega) (by omega)
 have z2 := wrap64 (n := a + 1 + b) (by omega) (by omega)
 have z3 := wrap64 (n := a + 1 + b + c) (by omega) (by omega)
 have z4 := wrap64 (n := a + 1 + b + c + 1) (by omega) (by omega)
 have z5 := wrap64 (n := a + 1 + b + c + 1 + e) (by omega) (by omega)
 simp only [csl, cI, List.length_cons, List.length_nil, Nat.zero_add, Nat.reduceAdd] at m0 m1 m2 m3 m4
 have hpt : (pI (trF P)).length = P.length := by simp [pI, kf]
 simp only [isl, kf, sE, xC, List.cons_append, List.nil_append] at *
 generalize pI (mvF (trF P) [] (P.length - 1)) = A0 at *
 generalize (mvF (trF P) [] (P.length - 1)).length = z0 at *
 generalize pI (mvF (trF P) [(a, a + 1 + b)] (P.length - 1)) = A1 at *
 generalize (mvF (trF P) [(a, a + 1 + b)] (P.length - 1)).length = zz1 at *
 generalize pI (mvF (trF P) [(a + 1 + b + c, a + 1 + b + c + 1 + e)] (P.length - 1)) = A2 at *
 generalize (mvF (trF P) [(a + 1 + b + c, a + 1 + b + c + 1 + e)] (P.length - 1)).length = zz2 at *
 generalize pI (mvF (trF P) [(a, a + 1 + b), (a + 1 + b + c, a + 1 + b + c + 1 + e)] (P.length - 1)) = A3 at *
 generalize (mvF (trF P) [(a, a + 1 + b), (a + 1 + b + c, a + 1 + b + c + 1 + e)] (P.length - 1)).length = zz3 at *
 generalize pI (trF P) = Q at *
 generalize pB P = QB at *
 generalize P.length = n at *
 unfold tE10 at hE
 unfold tD10 tC10 tB10 tA10 at hE ⊢
 simp -implicitDefEqProofs [tlS, c10] at hE
 simp -implicitDefEqProofs [tlS, c10]
 rw [kt]
 simp -implicitDefEqProofs [k43, m0, m1, m2, m3, m4, d0, d1, d2, d3, d4, x0, x1, x2, x3, z1, z2, z3, z4, z5, ha, hb', hc', he', hpt, hidI, hidT32, hidT33, hidT3233, hE]
end Fw
end

section
set_option maxHeartbeats 16000000
set_option maxRecDepth 8000
namespace Fw
open Go

theorem hidT128 : hidT 128 = [7] := by decide
theorem adm_of {h : HallI} (q0 : h.t0.length < 1000000) (q1 : h.t1.length < 1000000) (q2 : h.t2.length < 1000000) {l : List ActI} (hl : l.length < 50000) {L : List StaI} (h1 : actsE h l = 0) (hr : runH h l = (L, true)) :
  RUN 60 31 [ha h, asl l] = .ret (.tup [iv (lastS L).adm, iv 0]) := by
 have k := admitted31 (n := 60) (by omega) h q0 q1 q2 l hl
 have hc : chkE h l = 0 := by unfold chkE; rw [if_neg (by simpa using h1), hr]; rfl
 rw [hc, if_pos rfl, hr] at k
 exact k
theorem rC10 (ka : RUN 60 17 [] = .ret (.p (.bool true))) (h : HallI) (hz : hallE h = 0) (g0 : h.t0.length < 1000000) (g1 : h.t1.length < 1000000) (g2 : h.t2.length < 1000000) (P : List UInt8) (hP : P.length ≤ 40) (k0 k1 k2 k3 : Int) (b0 : 0 ≤ k0 ∧ k0 ≤ 255) (b1 : 0 ≤ k1 ∧ k1 ≤ 255) (b2 : 0 ≤ k2 ∧ k2 ≤ 255) (b3 : 0 ≤ k3 ∧ k3 ≤ 255)
  (l0 l1 l2 m0 m1 m2 : Int) (hv : valE l0 l1 l2 = 0) (hw : valE m0 m1 m2 = 0) (tl : Env) :
  (evCode (evFn F C0 G0 60) C0 G0 0 tC10 ⟨(3, .ptr 0 0 0) :: (5, .ptr 2 0 0) :: (7, .ptr 3 0 0) :: (8, .ptr 4 0 0) :: (9, iv (waitP h l0 l1 l2)) :: (11, iv (waitP h m0 m1 m2)) :: tl, wS h (xC P k0 k1 k2 k3) l0 l1 l2 m0 m1 m2⟩).bind (finish [.tmp 6]) = .ret (.p (.bool true)) := by
 have k19 := own19 (n := 60) (by omega) h g0 g1 g2
 have d4 := done20 (n := 60) (by omega) [x1, x2, x3, x4] (by simp)
 have d5 := done20 (n := 60) (by omega) [x1, x2, x3, x4, xm 9 m0 m1 m2] (by simp)
 have a4 := adm_of g0 g1 g2 (by simp) (acts4 hz) (run4 h)
 have a5 := adm_of g0 g1 g2 (by simp) (acts5 hz hw) (run5 h m0 m1 m2)
 have a6 := adm_of g0 g1 g2 (by simp) (acts6 hz hw hv) (run6 h m0 m1 m2 l0 l1 l2)
 have e4 : (lastS [sS1, sS2, sS3, sS4]).adm = -1 := rfl
 have e5 : ∀ x, (lastS [sS1, sS2, sS3, sS4, sSm 9 x]).adm = x := fun x => rfl
 have e6 : ∀ x y, (lastS [sS1, sS2, sS3, sS4, sSm 9 x, sSm 30 y]).adm = y := fun x y => rfl
 rw [e4] at a4
 rw [e5] at a5
 rw [e6] at a6
 have hD := fun O5 O4 O3 O0 tl => rD10 ka P hP k0 k1 k2 k3 b0 b1 b2 b3 O5 O4 O3 O0 tl
 obtain ⟨_, _, _, hb1, hb2, hW⟩ := hall_ok hz g0 g1 g2
 have hWl := hW l0 l1 l2
 have hWm := hW m0 m1 m2
 generalize waitP h l0 l1 l2 = w at *
 generalize waitP h m0 m1 m2 = w' at *
 have s1 := wrap64 (n := 5 + h.base) (by omega) (by omega)
 have s2 := wrap64 (n := 9 + w') (by omega) (by omega)
 have s3 := wrap64 (n := 30 + w) (by omega) (by omega)
 have mx := fun a b => max2 a b
 have r4 : rowC ac [x1, x2, x3, x4] = [.int .i64 0, .str kInsert, .int .i64 0, .int .i64 0, .int .i64 0, .int .i64 0, .int .i64 0, .str kInsert, .int .i64 1, .int .i64 0, .int .i64 0, .int .i64 0, .int .i64 1, .str kArm, .int .i64 0, .int .i64 0, .int .i64 0, .int .i64 0, .int .i64 5, .str kShoot, .int .i64 0, .int .i64 0, .int .i64 0, .int .i64 0] := rfl
 have r5 : rowC ac [x1, x2, x3, x4, xm 9 m0 m1 m2] = [.int .i64 0, .str kInsert, .int .i64 0, .int .i64 0, .int .i64 0, .int .i64 0, .int .i64 0, .str kInsert, .int .i64 1, .int .i64 0, .int .i64 0, .int .i64 0, .int .i64 1, .str kArm, .int .i64 0, .int .i64 0, .int .i64 0, .int .i64 0, .int .i64 5, .str kShoot, .int .i64 0, .int .i64 0, .int .i64 0, .int .i64 0, .int .i64 9, .str kMeasure, .int .i64 0, .int .i64 m0, .int .i64 m1, .int .i64 m2] := rfl
 have r6 : rowC ac [x1, x2, x3, x4, xm 9 m0 m1 m2, xm 30 l0 l1 l2] = [.int .i64 0, .str kInsert, .int .i64 0, .int .i64 0, .int .i64 0, .int .i64 0, .int .i64 0, .str kInsert, .int .i64 1, .int .i64 0, .int .i64 0, .int .i64 0, .int .i64 1, .str kArm, .int .i64 0, .int .i64 0, .int .i64 0, .int .i64 0, .int .i64 5, .str kShoot, .int .i64 0, .int .i64 0, .int .i64 0, .int .i64 0, .int .i64 9, .str kMeasure, .int .i64 0, .int .i64 m0, .int .i64 m1, .int .i64 m2, .int .i64 30, .str kMeasure, .int .i64 0, .int .i64 l0, .int .i64 l1, .int .i64 l2] := rfl
 simp only [asl, r4, r5, r6, List.length_cons, List.length_nil, Nat.zero_add, Nat.reduceAdd] at d4 d5 a4 a5 a6
 simp only [wS, xC, ha, csl] at *
 generalize cI h.t0 = A0 at *
 generalize cI h.t1 = A1 at *
 generalize cI h.t2 = A2 at *
 generalize pB P = QB at *
 generalize P.length = n at *
 unfold tD10 at hD
 unfold tC10 tB10 tA10 at hD ⊢
 have hlim : 6 ≤ lim := by decide
 simp -implicitDefEqProofs [tlS, c10] at hD
 simp -implicitDefEqProofs [tlS, c10, k19, d4, d5, a4, a5, a6, s1, s2, s3, mx, hlim, hidI, hidT128, hD]
end Fw
end

section
set_option maxHeartbeats 16000000
set_option maxRecDepth 8000
namespace Fw
open Go

theorem rA10 (ka : RUN 60 17 [] = .ret (.p (.bool true))) (h : HallI) (hz : hallE h = 0) (g0 : h.t0.length < 1000000) (g1 : h.t1.length < 1000000) (g2 : h.t2.length < 1000000) (P : List UInt8) (hP : P.length ≤ 40) (k0 k1 k2 k3 : Int) (b0 : 0 ≤ k0 ∧ k0 ≤ 255) (b1 : 0 ≤ k1 ∧ k1 ≤ 255) (b2 : 0 ≤ k2 ∧ k2 ≤ 255) (b3 : 0 ≤ k3 ∧ k3 ≤ 255)
  (n0 n1 n2 n3 n4 n5 : Nat) (u0 : n0 ≤ 65535) (u1 : n1 ≤ 65535) (u2 : n2 ≤ 65535) (u3 : n3 ≤ 65535) (u4 : n4 ≤ 65535) (u5 : n5 ≤ 65535) (tl : Env) :
  (evCode (evFn F C0 G0 60) C0 G0 0 tA10 ⟨(3, .ptr 0 0 0) :: (4, .ptr 1 0 0) :: (5, .ptr 2 0 0) :: tl, [(2, .box (xC P k0 k1 k2 k3)), (1, .arr [.int .u16 n0, .int .u16 n1, .int .u16 n2, .int .u16 n3, .int .u16 n4, .int .u16 n5] 0 1), (0, .box [iv h.doors, iv h.base, csl h.t0, csl h.t1, csl h.t2])]⟩).bind (finish [.tmp 6]) = .ret (.p (.bool true)) := by
 have k19 := own19 (n := 60) (by omega) h g0 g1 g2
 obtain ⟨c3, e3, f3, v3⟩ : ∃ a : Int, (n3 : Int).tmod 30000 = a ∧ 0 ≤ a ∧ a ≤ 29999 := ⟨_, rfl, by rw [show (n3 : Int).tmod 30000 = ((n3 % 30000 : Nat) : Int) from rfl]; omega, by rw [show (n3 : Int).tmod 30000 = ((n3 % 30000 : Nat) : Int) from rfl]; omega⟩
 obtain ⟨c4, e4, f4, v4⟩ : ∃ a : Int, (n4 : Int).tmod 30000 = a ∧ 0 ≤ a ∧ a ≤ 29999 := ⟨_, rfl, by rw [show (n4 : Int).tmod 30000 = ((n4 % 30000 : Nat) : Int) from rfl]; omega, by rw [show (n4 : Int).tmod 30000 = ((n4 % 30000 : Nat) : Int) from rfl]; omega⟩
 obtain ⟨c5, e5, f5, v5⟩ : ∃ a : Int, (n5 : Int).tmod 30000 = a ∧ 0 ≤ a ∧ a ≤ 29999 := ⟨_, rfl, by rw [show (n5 : Int).tmod 30000 = ((n5 % 30000 : Nat) : Int) from rfl]; omega, by rw [show (n5 : Int).tmod 30000 = ((n5 % 30000 : Nat) : Int) from rfl]; omega⟩
 have hvl : valE n0 n1 n2 = 0 := valE_ok (by omega) (by omega) (by omega)
 have hvm : valE (n0 + c3) (n1 + c4) (n2 + c5) = 0 := valE_ok (by omega) (by omega) (by omega)
 have ka1 := wait72 (n := 60) (by omega) h g0 g1 g2 n0 n1 n2
 have ka2 := wait72 (n := 60) (by omega) h g0 g1 g2 (n0 + c3) (n1 + c4) (n2 + c5)
 have ef : firstE [(0 : Int), 0] = 0 := rfl
 rw [hz, hvl, ef, if_pos rfl] at ka1
 rw [hz, hvm, ef, if_pos rfl] at ka2
 have hle := waitP_mono h (show (n0 : Int) ≤ n0 + c3 by omega) (show (n1 : Int) ≤ n1 + c4 by omega) (show (n2 : Int) ≤ n2 + c5 by omega)
 have hC := fun tl => rC10 ka h hz g0 g1 g2 P hP k0 k1 k2 k3 b0 b1 b2 b3 n0 n1 n2 (n0 + c3) (n1 + c4) (n2 + c5) hvl hvm tl
 have hF := fun O hO => found10 (d := 60) h g0 g1 g2 (xC P k0 k1 k2 k3) rfl n0 n1 n2 (n0 + c3) (n1 + c4) (n2 + c5) (waitP h n0 n1 n2) (waitP h (n0 + c3) (n1 + c4) (n2 + c5)) O hO
 rw [found_wait hz (by omega)] at hF
 have hF := hF (.arr [.int .u16 n0, .int .u16 n1, .int .u16 n2, .int .u16 n3, .int .u16 n4, .int .u16 n5] 0 1) rfl
 generalize waitP h n0 n1 n2 = w at *
 generalize waitP h (n0 + c3) (n1 + c4) (n2 + c5) = w' at *
 have hlt : ¬ w' < w := by omega
 have y0 := wrap64 (n := (n0 : Int)) (by omega) (by omega)
 have y1 := wrap64 (n := (n1 : Int)) (by omega) (by omega)
 have y2 := wrap64 (n := (n2 : Int)) (by omega) (by omega)
 have y3 := wrap64 (n := (n3 : Int)) (by omega) (by omega)
 have y4 := wrap64 (n := (n4 : Int)) (by omega) (by omega)
 have y5 := wrap64 (n := (n5 : Int)) (by omega) (by omega)
 have z3 := wrap64 (n := c3) (by omega) (by omega)
 have z4 := wrap64 (n := c4) (by omega) (by omega)
 have z5 := wrap64 (n := c5) (by omega) (by omega)
 have x3 := wrap64 (n := (n0 : Int) + c3) (by omega) (by omega)
 have x4 := wrap64 (n := (n1 : Int) + c4) (by omega) (by omega)
 have x5 := wrap64 (n := (n2 : Int) + c5) (by omega) (by omega)
 simp only [wS, wE, xC, ha, csl, v3] at *
 generalize cI h.t0 = A0 at *
 generalize cI h.t1 = A1 at *
 generalize cI h.t2 = A2 at *
 generalize pB P = QB at *
 generalize P.length = n at *
 unfold tC10 tB10 at hC
 unfold tA10 at hC ⊢
 simp -implicitDefEqProofs [tlS, c10] at hC
 simp -implicitDefEqProofs [tlS, c10, k19, ka1, ka2, hlt, y0, y1, y2, y3, y4, y5, x3, x4, x5, e3, e4, e5]
 rw [show loopN _ _ _ = _ from hF]
 simp -implicitDefEqProofs [hC]
theorem c10_body : c10.body = .seq (hdS c10.body) (.seq (hdS (tlS c10.body)) tA10) := by unfold tA10; rfl
theorem wai_at (ka : RUN 60 17 [] = .ret (.p (.bool true))) (h : HallI) (P : List UInt8) (k0 k1 k2 k3 : Int) (b0 : 0 ≤ k0 ∧ k0 ≤ 255) (b1 : 0 ≤ k1 ∧ k1 ≤ 255) (b2 : 0 ≤ k2 ∧ k2 ≤ 255) (b3 : 0 ≤ k3 ∧ k3 ≤ 255)
  (n0 n1 n2 n3 n4 n5 : Nat) (u0 : n0 ≤ 65535) (u1 : n1 ≤ 65535) (u2 : n2 ≤ 65535) (u3 : n3 ≤ 65535) (u4 : n4 ≤ 65535) (u5 : n5 ≤ 65535) :
  RUN 61 10 [ha h, .agg [.p (.int .u16 n0), .p (.int .u16 n1), .p (.int .u16 n2), .p (.int .u16 n3), .p (.int .u16 n4), .p (.int .u16 n5)], .agg (xC P k0 k1 k2 k3)] = .ret (.p (.bool true)) := by
 rw [RUN, call_eq (d := 60) fe10 _ rfl, c10_body]
 have k15 : RUN 60 15 [ha h] = .ret (.p (.bool (shortH h))) := short15 (n := 60) (by omega) h
 cases hsh : shortH h with
 | false =>
  rw [hsh] at k15
  simp only [ha, csl, xC] at *
  generalize cI h.t0 = A0 at *
  generalize cI h.t1 = A1 at *
  generalize cI h.t2 = A2 at *
  simp -implicitDefEqProofs [hdS, tlS, c10, k15, ka]
 | true =>
  rw [hsh] at k15
  simp only [shortH, Bool.and_eq_true, decide_eq_true_eq] at hsh
  obtain ⟨s0, s1, s2⟩ := hsh
  have k65 := hall65 (n := 60) (by omega) h (by omega) (by omega) (by omega)
  by_cases hz : hallE h = 0
  ·by_cases hP : (40 : Int) < P.length
   ·rw [hz] at k65
    simp only [ha, csl, xC] at *
    generalize cI h.t0 = A0 at *
    generalize cI h.t1 = A1 at *
    generalize cI h.t2 = A2 at *
    simp -implicitDefEqProofs [hdS, tlS, c10, k15, k65, hP, ka]
   ·have hk := fun tl => rA10 ka h hz (by omega) (by omega) (by omega) P (by omega) k0 k1 k2 k3 b0 b1 b2 b3 n0 n1 n2 n3 n4 n5 u0 u1 u2 u3 u4 u5 tl
    rw [hz] at k65
    simp only [ha, csl, xC] at *
    generalize cI h.t0 = A0 at *
    generalize cI h.t1 = A1 at *
    generalize cI h.t2 = A2 at *
    simp -implicitDefEqProofs [hdS, tlS, c10, k15, k65, hP, hk]
  ·simp only [ha, csl, xC] at *
   generalize cI h.t0 = A0 at *
   generalize cI h.t1 = A1 at *
   generalize cI h.t2 = A2 at *
   generalize hallE h = eh at *
   have hzb : (eh != 0) = true := by simpa using hz
   simp -implicitDefEqProofs [hdS, tlS, c10, k15, k65, hzb, ka]
end Fw
end

