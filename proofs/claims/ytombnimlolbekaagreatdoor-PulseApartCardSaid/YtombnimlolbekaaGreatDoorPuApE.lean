/- Several texts in one: steps of the proof, no condition of their own. -/
import Derived.Test.YtombnimlolbekaaGreatDoorPuAp9
import Derived.Test.YtombnimlolbekaaGreatDoorPuAp4
import Derived.Test.YtombnimlolbekaaGreatDoorPuRuns
import Derived.Test.YtombnimlolbekaaGreatDoorPuQ1
import Derived.Test.YtombnimlolbekaaGreatDoorPuUt
attribute [local irreducible] Fw.evCode Fw.evOps Fw.evOpsD Fw.evOper Fw.evOperD Fw.evOp Fw.evFn Fw.loopN Fw.T.All Fw.T.bind Fw.callPure Fw.callOp Fw.opsK Fw.opsDK Fw.restK Fw.seqK Fw.blockK Fw.loopS Fw.setK Fw.setQ Fw.giveK Fw.scalK Fw.gcK Fw.finish Fw.finS Fw.rfunK Fw.yldK Fw.yldB Fw.loopK
section
set_option maxHeartbeats 16000000
set_option maxRecDepth 8000
namespace Fw
open Go

def dropS : Nat → ACode → ACode
 | 0, c => c
 | n + 1, c => dropS n (tlS c)
@[irreducible] def u9E : ACode := dropS 34 c9.body
@[irreducible] def u9D : ACode := dropS 28 c9.body
@[irreducible] def u9C : ACode := dropS 21 c9.body
@[irreducible] def u9B : ACode := dropS 11 c9.body
@[irreducible] def u9A : ACode := dropS 3 c9.body

theorem rE9 {st : List (Int × Int)} (he : settingE st = 0) (t : Int) (cs : List PVal) (tl : Env) :
  (evCode (evFn F C0 G0 60) C0 G0 0 u9E ⟨(5, .ptr 0 0 0) :: tl, [(1, .arr cs 0 1), (0, .box [csl st, .p (.int .u8 t)])]⟩).bind (finish [.tmp 6]) = .ret (.p (.bool true)) := by
 have ka := awake12
 have hv := valid_of he
 have hs := hv.small
 have hp := hv.pos
 have k14 := steps14 (n := 60) (by omega) st (by omega)
 have k69 := print69 (n := 60) (by omega) st (by omega)
 have k52 := told52 (n := 60) (by omega) st (by omega)
 have k51 := same51 (n := 60) (by omega) st st (by omega)
 have hl := textS_length st
 have k70 := parse70 (n := 60) (by omega) (textS st)
 have k70c := parse70 (n := 60) (by omega) ((textS st).take ((textS st).length - 1))
 have k74 := splitR74 (n := 60) (by omega) (textS st) 10 (by omega)
 obtain ⟨pc, htp⟩ := parse_cutS hv
 have hsl : (splitS 10 (textS st)).length = st.length + 1 := by rw [split_textS hv]; simp
 rw [if_pos he, he] at k69
 rw [if_neg (by omega), parse_textS hv he, if_pos rfl] at k70
 rw [if_neg (by rw [List.length_take]; omega), pc, if_neg (show ¬ (25 : Int) = 0 by decide)] at k70c
 rw [hsl] at k74
 have k74 : RUN 60 74 [.p (.str (textS st)), .p (.int .u8 10)] = .ret (.own (pStr (splitS 10 (textS st))) (st.length + 1) 1) := k74
 have k75 : 1 ≤ ((textS st).length : Int) := by omega
 have k77 : ((textS st).length : Int) - 1 ≤ (textS st).length := by omega
 have k76 : (((textS st).length : Int) - 1).toNat = (textS st).length - 1 := by omega
 have hlt : ((textS st).length : Int) ≤ 588 := by omega
 have w1 := wrap64 (n := ((textS st).length : Int) - 1) (by omega) (by omega)
 have w2 := wrap64 (n := (st.length : Int) + 1) (by omega) (by omega)
 have w3 := wrap64 (n := (st.length : Int) - 1) (by omega) (by omega)
 have hcut : ((textS st).length : Int) - 1 = (((textS st).length - 1 : Nat) : Int) := by omega
 have hcl : (cI st).length = st.length * 2 := by simp
 simp only [csl] at *
 generalize hT : textS st = T at *
 unfold u9E
 simp -implicitDefEqProofs [dropS, tlS, c9, ka, k14, k69, k70, k52, k51, k74, k70c, k75, k76, k77, w1, w2, w3]
end Fw
end

section
set_option maxHeartbeats 16000000
set_option maxRecDepth 8000
namespace Fw
open Go

theorem u9B_eq : u9B = .seq (hdS (dropS 11 c9.body)) (.seq (hdS (dropS 12 c9.body)) (.seq (hdS (dropS 13 c9.body)) (.seq (hdS (dropS 14 c9.body)) (.seq (hdS (dropS 15 c9.body)) (.seq (hdS (dropS 16 c9.body)) (.seq (hdS (dropS 17 c9.body)) (.seq (hdS (dropS 18 c9.body)) (.seq (hdS (dropS 19 c9.body)) (.seq (hdS (dropS 20 c9.body)) u9C))))))))) := by unfold u9B u9C; rfl

theorem rB9 (ls : List (List Int)) {c : List (Int × Int)} {p q : List Int} (hc : corrE c = 0) (hp : p.length = c.length) (hq : q.length = c.length) (hpa : ∀ a ∈ p, -40000 ≤ a ∧ a ≤ 40000) (hqa : ∀ a ∈ q, -40000 ≤ a ∧ a ≤ 40000) (B : List AVal) (w1 w2 : AVal) (tl : Env)
  (kC : ∀ tl b1 b2, (evCode (evFn F C0 G0 60) C0 G0 0 u9C ⟨(0, llsl ls) :: (5, .ptr 0 0 0) :: (11, isl p) :: tl, [(2, .frz b1 c.length 1), (1, .frz b2 0 2), (0, .box B)]⟩).bind (finish [.tmp 6]) = .ret (.p (.bool true))) :
  (evCode (evFn F C0 G0 60) C0 G0 0 u9B ⟨(0, llsl ls) :: (1, csl c) :: (5, .ptr 0 0 0) :: (11, isl p) :: (12, isl q) :: (15, w1) :: (16, w2) :: (18, .p (.bool true)) :: (19, .sl 1 0 0 c.length) :: (20, .sl 2 c.length 0 c.length) :: tl, S2 c p q B c.length⟩).bind (finish [.tmp 6]) = .ret (.p (.bool true)) := by
 obtain ⟨c1, c2, c3⟩ := corrE_zero hc
 have hpa' : ∀ a ∈ p, -100000 ≤ a ∧ a ≤ 100000 := fun a ha => by have := hpa a ha; omega
 have hqa' : ∀ a ∈ q, -100000 ≤ a ∧ a ≤ 100000 := fun a ha => by have := hqa a ha; omega
 have hbl : (bothL p q).length = p.length := both_length (by omega)
 have hba := both_small hpa hqa
 have z00 : ((0 : Nat) : Int) = 0 := rfl
 have k3 := fun X Y S => lim_loop ls p q (by omega) X Y S
 have kW := spans32 (n := 60) (by omega) (wF c p c.length) (by simp; omega)
 have kp := (ints33 (n := 60) (by omega) p (by omega)).choose_spec.1
 have kq := (ints33 (n := 60) (by omega) q (by omega)).choose_spec.1
 have kb := (ints33 (n := 60) (by omega) (bothL p q) (by omega)).choose_spec.1
 have k31 := inside31 (n := 60) (by omega) (wF c p c.length) p (by simp; omega) (by omega)
 rw [fit_to (wF_corr p hc) (by simpa using hp) hpa', if_pos rfl, wF_in hc hp] at k31
 have k35p := speeds35 (n := 60) (by omega) p (by omega)
 rw [if_pos (pulse_to (by omega) (by omega) hpa')] at k35p
 have k35q := speeds35 (n := 60) (by omega) q (by omega)
 rw [if_pos (pulse_to (by omega) (by omega) hqa')] at k35q
 have k35b := speeds35 (n := 60) (by omega) (bothL p q) (by omega)
 rw [if_pos (pulse_to (by omega) (by omega) hba)] at k35b
 have k36 := ways36 (n := 60) (by omega) p (by omega)
 rw [if_pos (pulse_to (by omega) (by omega) hpa')] at k36
 have k4 := fun S => sums_loop ls p (sumsL p) (sumsL q) (sumsL (bothL p q)) (sumsL (sumsL p)) (by omega) (sumsL_length p) (by rw [sumsL_length]; omega) (by rw [sumsL_length]; omega) (by rw [sumsL_length, sumsL_length]) (sums_facts (by omega) (by omega) hpa hqa) S
 have htk : (bothL p q).take c.length = bothL p q := List.take_of_length_le (by omega)
 have hscW : (cI (wF c p c.length)).all scalarP = true := by
  rw [List.all_eq_true]
  exact cI_scal _
 have hscb : (pI (bothL p q)).all scalarP = true := by simp [pI]
 have hlB : limB (p.take 0) = true := rfl
 have hs0 : sumF (sumsL p) 0 = 0 := rfl
 have hWl : (cI (wF c p c.length)).length = c.length * 2 := by simp
 have hBl : (pI (bothL p q)).length = c.length := by simp; omega
 have hl4 : limB (p.take c.length) = limB p := by rw [List.take_of_length_le (by omega)]
 simp only [wF_length, csl, isl, hbl, hp, hq] at kW kp kq kb k31 k35p k35q k35b k36 kC ⊢
 simp only [E3, z00, hlB, isl, hp, hq, hl4] at k3
 simp only [E4, z00, hs0, isl, sumsL_length, hbl, hp, hq] at k4
 simp only [S2, htk]
 rw [u9B_eq]
 generalize cI (wF c p c.length) = W at *
 generalize pI (bothL p q) = BL at *
 generalize limB p = lb at *
 simp -implicitDefEqProofs [hdS, dropS, tlS, c9]
 rw [k3]
 simp -implicitDefEqProofs [hWl, hBl, kW, kp, kq, kb, k31, k35p, k35q, k35b, k36]
 rw [k4]
 simp -implicitDefEqProofs [kC]
end Fw
end

section
set_option maxHeartbeats 16000000
set_option maxRecDepth 8000
namespace Fw
open Go

theorem u9D_eq : u9D = .seq (hdS (dropS 28 c9.body)) (.seq (hdS (dropS 29 c9.body)) (.seq (hdS (dropS 30 c9.body)) (.seq (hdS (dropS 31 c9.body)) (.seq (hdS (dropS 32 c9.body)) (.seq (hdS (dropS 33 c9.body)) u9E))))) := by unfold u9D u9E; rfl

structure Apart (ls : List (List Int)) (m : Nat) : Prop where
 ok : RunsOk ls m
 err : runsE ls = 0
 first : m0 ls = m
 near : ∀ l ∈ ls, ∀ a ∈ l, -40000 ≤ a ∧ a ≤ 40000
 pos : 0 < m

theorem rD9 {ls : List (List Int)} {m : Nat} (h : Apart ls m) {p : List Int} (hp : p ∈ ls) {st : List (Int × Int)} (he : settingE st = 0) (t : Nat) (ht : t ≤ 255) (M : AVal) (tl : Env) :
  (evCode (evFn F C0 G0 60) C0 G0 0 u9D ⟨(0, llsl ls) :: (5, .ptr 0 0 0) :: (11, isl p) :: (41, M) :: (45, iv (widF ls m)) :: tl, [(0, .box [csl st, .p (.int .u8 t)])]⟩).bind (finish [.tmp 6]) = .ret (.p (.bool true)) := by
 have hok := h.ok
 have hfew := hok.few
 have hsm := hok.small
 have hpl := hok.len p hp
 have hpn := h.near p hp
 have hpos := h.pos
 have hil : ∀ l ∈ ls, l.length < 1000000 := fun l hl => by have := hok.len l hl; omega
 have k57 := runs57 (n := 60) (by omega) ls (by omega) hil
 have k59 := alike59 (n := 60) (by omega) ls (widF ls m) (by omega) hil
 have hwid := widF_between ls 80000 (by omega) m (fun j hj => by have := col_between hok.len h.near hok.pos hj; omega) m (Nat.le_refl _)
 have hbA : badA ls (widF ls m) = 0 := firstE_zero.2 fun e he => by
  simp only [List.mem_cons, List.not_mem_nil, or_false] at he
  rcases he with rfl | rfl
  ·exact h.err
  ·exact rangeE_zero.2 (by omega)
 rw [hbA, if_pos rfl, h.first, alike_widest] at k59
 have k33 := (ints33 (n := 60) (by omega) p (by omega)).choose_spec.1
 have hq : (t : Int).tmod 100 = ((t % 100 : Nat) : Int) := by rw [Int.tmod_eq_emod_of_nonneg (by omega)]; omega
 obtain ⟨k, hk⟩ : ∃ k, t % 100 = k := ⟨_, rfl⟩
 have hk100 : k < 100 := by omega
 rw [hk] at hq
 have hse := slope_345 k hk100
 have k60 := split60 (n := 60) (by omega) ⟨3 * (1 + (k : Int)), 4 * (1 + (k : Int)), 5 * (1 + (k : Int))⟩ p (by omega)
 have hbS : badS ⟨3 * (1 + (k : Int)), 4 * (1 + (k : Int)), 5 * (1 + (k : Int))⟩ p = 0 := firstE_zero.2 fun e he => by
  simp only [List.mem_cons, List.not_mem_nil, or_false] at he
  rcases he with rfl | rfl
  ·exact hse
  ·exact pulse_to (by omega) (by omega) (fun a ha => by have := hpn a ha; omega)
 rw [if_pos hbS] at k60
 simp only at k60
 have w0 := wrap64 (n := (t : Int)) (by omega) (by omega)
 have w1 := wrap64 (n := (k : Int)) (by omega) (by omega)
 have w2 := wrap64 (n := 1 + (k : Int)) (by omega) (by omega)
 have w3 := wrap64 (n := 3 * (1 + (k : Int))) (by omega) (by omega)
 have w4 := wrap64 (n := 4 * (1 + (k : Int))) (by omega) (by omega)
 have w5 := wrap64 (n := 5 * (1 + (k : Int))) (by omega) (by omega)
 generalize hQ : (1 : Int) + k = q at *
 have kl := part_loop p (p.map fun a => partF (5 * q) a (3 * q)) (p.map fun a => partF (5 * q) a (4 * q)) (by omega) (by simp) (by simp) (3 * q) (4 * q) (5 * q) (fun i hi => by
  have e1 : (p.map fun a => partF (5 * q) a (3 * q)).getD i (0, 0) = partF (5 * q) (p.getD i 0) (3 * q) := by simp [List.getD_eq_getElem?_getD, hi]
  have e2 : (p.map fun a => partF (5 * q) a (4 * q)).getD i (0, 0) = partF (5 * q) (p.getD i 0) (4 * q) := by simp [List.getD_eq_getElem?_getD, hi]
  rw [e1, e2]
  exact part_345 (by omega) (by omega) (hpn _ (getD_mem hi))) [(0, .box [csl st, .p (.int .u8 t)])]
 have z00 : ((0 : Nat) : Int) = 0 := rfl
 have kE := fun tl => rE9 he t [.int .i64 (3 * q), .int .i64 (4 * q), .int .i64 (5 * q)] tl
 simp only [E7, z00, isl] at kl
 rw [u9D_eq]
 simp only [isl, csl] at *
 generalize cI (p.map fun a => partF (5 * q) a (3 * q)) = CU at *
 generalize cI (p.map fun a => partF (5 * q) a (4 * q)) = CV at *
 simp -implicitDefEqProofs [hdS, dropS, tlS, c9, k57, k59, k33, k60, hq, hQ, w0, w2, w3, w4, w5]
 rw [kl]
 simp -implicitDefEqProofs [kE]
end Fw
end

section
set_option maxHeartbeats 16000000
set_option maxRecDepth 8000
namespace Fw
open Go

theorem u9C_eq : u9C = .seq (hdS (dropS 21 c9.body)) (.seq (hdS (dropS 22 c9.body)) (.seq (hdS (dropS 23 c9.body)) (.seq (hdS (dropS 24 c9.body)) (.seq (hdS (dropS 25 c9.body)) (.seq (hdS (dropS 26 c9.body)) (.seq (hdS (dropS 27 c9.body)) u9D)))))) := by unfold u9C u9D; rfl

theorem runs_turn {ls : List (List Int)} {m : Nat} (h : Apart ls m) (k : Nat) : runsE (ls.drop k ++ ls.take k) = 0 ∧ m0 (ls.drop k ++ ls.take k) = m := by
 have hlen : (ls.drop k ++ ls.take k).length = ls.length := by simp only [List.length_append, List.length_drop, List.length_take]; omega
 have hm : ∀ x, x ∈ ls.drop k ++ ls.take k → x ∈ ls := fun x hx => by
  rcases List.mem_append.1 hx with q | q
  ·exact List.mem_of_mem_drop q
  ·exact List.mem_of_mem_take q
 have h0 := h.ok.pos
 have h8 := h.ok.few
 have hf : m0 (ls.drop k ++ ls.take k) = m := by
  have hg : (ls.drop k ++ ls.take k).getD 0 [] ∈ ls.drop k ++ ls.take k := by
   rw [List.getD_eq_getElem?_getD, List.getElem?_eq_getElem (show 0 < (ls.drop k ++ ls.take k).length by omega)]
   exact List.getElem_mem _
  exact h.ok.len _ (hm _ hg)
 refine ⟨?_, hf⟩
 unfold runsE
 rw [hlen, if_pos (sizedE_zero.2 ⟨by omega, by omega⟩)]
 refine firstE_zero.2 fun e he => ?_
 obtain ⟨x, hx, rfl⟩ := List.mem_map.1 he
 have hxl := h.ok.len x (hm x hx)
 have hsm := h.ok.small
 have hpos := h.pos
 refine firstE_zero.2 fun e he => ?_
 simp only [List.mem_cons, List.not_mem_nil, or_false] at he
 rcases he with rfl | rfl
 ·exact pulse_to (by omega) (by omega) (h.ok.acc x (hm x hx))
 ·refine (whenE_zero (by decide)).2 ?_
  have : ((ls.drop k ++ ls.take k).getD 0 []).length = m := hf
  rw [this, hxl]
  simp

theorem rC9 {ls : List (List Int)} {m : Nat} (h : Apart ls m) {p : List Int} (hp : p ∈ ls) {st : List (Int × Int)} (he : settingE st = 0) (t : Nat) (ht : t ≤ 255) (tl : Env) (b1 b2 : List PVal) (n : Nat) :
  (evCode (evFn F C0 G0 60) C0 G0 0 u9C ⟨(0, llsl ls) :: (5, .ptr 0 0 0) :: (11, isl p) :: tl, [(2, .frz b1 n 1), (1, .frz b2 0 2), (0, .box [csl st, .p (.int .u8 t)])]⟩).bind (finish [.tmp 6]) = .ret (.p (.bool true)) := by
 have hok := h.ok
 have hpos0 := hok.pos
 have hfew := hok.few
 have hsm := hok.small
 have hpl := hok.len p hp
 have hil : ∀ l ∈ ls, l.length < 1000000 := fun l hl => by have := hok.len l hl; omega
 have k57 := runs57 (n := 60) (by omega) ls (by omega) hil
 have k56 := spread56 (n := 60) (by omega) ls (by omega) hil
 have k58 := mean58 (n := 60) (by omega) ls (by omega) hil
 rw [if_pos h.err, h.first] at k56 k58
 have hq : (t : Int).tmod ls.length = ((t % ls.length : Nat) : Int) := by rw [Int.tmod_eq_emod_of_nonneg (by omega)]; omega
 obtain ⟨k, hk⟩ : ∃ k, t % ls.length = k := ⟨_, rfl⟩
 have hkl : k < ls.length := by have := Nat.mod_lt t hpos0; omega
 rw [hk] at hq
 have w0 := wrap64 (n := (t : Int)) (by omega) (by omega)
 have w1 := wrap64 (n := (k : Int)) (by omega) (by omega)
 have hLl : (ls.drop k ++ ls.take k).length = ls.length := by simp only [List.length_append, List.length_drop, List.length_take]; omega
 have hLi : ∀ l ∈ ls.drop k ++ ls.take k, l.length < 1000000 := fun x hx => by
  rcases List.mem_append.1 hx with q | q
  ·exact hil x (List.mem_of_mem_drop q)
  ·exact hil x (List.mem_of_mem_take q)
 have k57L := runs57 (n := 60) (by omega) (ls.drop k ++ ls.take k) (by omega) hLi
 have k56L := spread56 (n := 60) (by omega) (ls.drop k ++ ls.take k) (by omega) hLi
 obtain ⟨e1, e2⟩ := runs_turn h k
 rw [if_pos e1, e2, spread_turn hpos0] at k56L
 simp only [llsl, hLl] at k57L k56L
 have k30 := same30 (n := 60) (by omega) (spreadL ls m) (spreadL ls m) (by rw [spreadL_length]; omega)
 simp only [csl, spreadL_length, decide_true] at k30
 have hD : (pL ls).drop k = pL (ls.drop k) := by simp [pL]
 have hT : (pL ls).take k = pL (ls.take k) := by simp [pL]
 have hA : pL (ls.drop k) ++ pL (ls.take k) = pL (ls.drop k ++ ls.take k) := by simp [pL]
 have hDl : (pL (ls.drop k)).length = ls.length - k := by simp
 have hTl : (pL (ls.take k)).length = k := by simp; omega
 have hne : ¬ ls = [] := List.length_pos_iff.1 hpos0
 have z00 : ((0 : Nat) : Int) = 0 := rfl
 have ki : (k : Int) ≤ ls.length := by omega
 have km : ((ls.length : Int) - k).toNat = ls.length - k := by omega
 have hlim : ls.length - k + k ≤ lim := by simp only [lim]; omega
 have hsum : ls.length - k + k = ls.length := by omega
 have kD := fun tl => rD9 h hp he t ht (.p (.sl (pI (meanL ls m)) m)) tl
 have g1 : k ≤ ls.length := by omega
 have g2 : ls.length ≤ lim + k := by simp only [lim]; omega
 have g3 : ¬ ls.length - k = 0 := by omega
 have g4 : k ≤ lim := by simp only [lim]; omega
 have g6 : ls.length ≤ lim := by simp only [lim]; omega
 have g5 : (pL ls).take ls.length = pL ls := List.take_of_length_le (by simp)
 have zw : widF ls 0 = 0 := rfl
 have kS := fun S0 h0 => spread_loop hpos0 hfew p m hok.len hsm h.near st t S0 h0
 rw [u9C_eq]
 simp only [E6, isl, csl, hpl, z00, zw] at kS kD ⊢
 by_cases hk0 : k = 0
 ·simp -implicitDefEqProofs [hdS, dropS, tlS, c9, hne, k57, k56, k58, hq, w0, g5, g6, hk0, k30]
  rw [kS [(3, .frz (pL ls) 1 1), (2, .frz b1 n 1), (1, .frz b2 0 2), (0, .box [.p (.sl (cI st) st.length), .p (.int .u8 t)])] (loopS_same rfl (by simp))]
  simp -implicitDefEqProofs [kD]
 ·simp -implicitDefEqProofs [hdS, dropS, tlS, c9, hne, k57, k56, k58, hq, w0, hD, hT, hA, hDl, hTl, ki, hsum, g1, g2, g3, g5, g6, hk0, k57L, k56L, k30]
  rw [kS [(3, .frz (pL (ls.drop k ++ ls.take k)) 2 1), (2, .frz b1 n 1), (1, .frz b2 0 2), (0, .box [.p (.sl (cI st) st.length), .p (.int .u8 t)])] (loopS_same rfl (by simp))]
  simp -implicitDefEqProofs [kD]
end Fw
end

section
set_option maxHeartbeats 16000000
set_option maxRecDepth 8000
namespace Fw
open Go

theorem u9A_eq : u9A = .seq (hdS (dropS 3 c9.body)) (.seq (hdS (dropS 4 c9.body)) (.seq (hdS (dropS 5 c9.body)) (.seq (hdS (dropS 6 c9.body)) (.seq (hdS (dropS 7 c9.body)) (.seq (hdS (dropS 8 c9.body)) (.seq (hdS (dropS 9 c9.body)) (.seq (hdS (dropS 10 c9.body)) u9B))))))) := by unfold u9A u9B; rfl
theorem c9_body : c9.body = .seq (hdS (dropS 0 c9.body)) (.seq (hdS (dropS 1 c9.body)) (.seq (hdS (dropS 2 c9.body)) u9A)) := by unfold u9A; rfl

theorem rA9 {ls : List (List Int)} {c : List (Int × Int)} (h : Apart ls c.length) (hc : corrE c = 0) {st : List (Int × Int)} (he : settingE st = 0) (t : Nat) (ht : t ≤ 255) (tl : Env) :
  (evCode (evFn F C0 G0 60) C0 G0 0 u9A ⟨(0, llsl ls) :: (1, csl c) :: (5, .ptr 0 0 0) :: tl, [(0, .box [csl st, .p (.int .u8 t)])]⟩).bind (finish [.tmp 6]) = .ret (.p (.bool true)) := by
 have hok := h.ok
 have hpos0 := hok.pos
 have hfew := hok.few
 have hsm := hok.small
 have hpos := h.pos
 obtain ⟨c1, c2, c3⟩ := corrE_zero hc
 have e0 : ls[0]? = some ls[0] := List.getElem?_eq_getElem hpos0
 have e1 : ls[ls.length - 1]? = some (ls[ls.length - 1]'(by omega)) := List.getElem?_eq_getElem (by omega)
 have m0' := List.getElem_mem (l := ls) hpos0
 have m1' := List.getElem_mem (l := ls) (show ls.length - 1 < ls.length by omega)
 obtain ⟨p, hp0⟩ : ∃ p, p = ls[0] := ⟨_, rfl⟩
 obtain ⟨q, hq0⟩ : ∃ q, q = ls[ls.length - 1]'(by omega) := ⟨_, rfl⟩
 have hg0 : ∀ z, ls[0]'z = p := fun _ => hp0.symm
 have hg1 : ∀ z, ls[ls.length - 1]'z = q := fun _ => hq0.symm
 rw [← hp0] at e0 m0'
 rw [← hq0] at e1 m1'
 clear hp0 hq0
 have hp := hok.len p m0'
 have hq := hok.len q m1'
 have hpa := h.near p m0'
 have hqa := h.near q m1'
 have hpa' : ∀ a ∈ p, -100000 ≤ a ∧ a ≤ 100000 := fun a ha => by have := hpa a ha; omega
 have k32 := spans32 (n := 60) (by omega) c (by omega)
 have k33 := (ints33 (n := 60) (by omega) p (by omega)).choose_spec.1
 have k31 := inside31 (n := 60) (by omega) c p (by omega) (by omega)
 have k34 := excess34 (n := 60) (by omega) c p (by omega) (by omega)
 rw [fit_to hc hp hpa', if_pos rfl, ← ex_in hp] at k31
 rw [if_pos (fit_to hc hp hpa')] at k34
 rw [hp] at k31 k34
 have f0 := exF_nonneg c p c.length
 obtain ⟨_, f1, f2⟩ := exF_facts c p c.length (by omega)
 have kL := wide_loop ls hp hq c2 c3 hpa hqa [csl st, .p (.int .u8 t)]
 have kC := fun tl b1 b2 => rC9 h m0' he t ht tl b1 b2 c.length
 have kB := fun w1 w2 tl => rB9 ls hc hp hq hpa hqa [csl st, .p (.int .u8 t)] w1 w2 tl kC
 have z00 : ((0 : Nat) : Int) = 0 := rfl
 have w0 := wrap64 (n := (ls.length : Int) - 1) (by omega) (by omega)
 have wt : ((ls.length : Int) - 1).toNat = ls.length - 1 := by omega
 have wn : 1 ≤ (ls.length : Int) := by omega
 have wl : (ls.length : Int) - 1 < ls.length := by omega
 have wl2 : ls.length - 1 < ls.length := by omega
 have hwz : cI (wF c p 0) = cI c := by rw [wF_zero]
 have hE : (exF c p c.length).1 = 0 ∨ ¬ (exF c p c.length).1 = 0 := Classical.em _
 have f3 : ¬ (exF c p c.length).1 < 0 := by omega
 have f4 : ¬ (exF c p c.length).2 < 0 := by omega
 have f5 : ¬ (c.length : Int) ≤ (exF c p c.length).2 := by omega
 simp only [E2, S2, z00, List.take_zero, pI_nil, hwz] at kL
 simp only [S2] at kB
 rw [u9A_eq]
 simp only [isl, csl, hp, hq] at k31 k33 k34 kL kB ⊢
 generalize (exF c p c.length).1 = by' at *
 generalize (exF c p c.length).2 = at' at *
 have key : ∀ b : Bool, decide (by' = 0) = b → (by' == 0) = b := fun b hb => by rw [← hb]; rfl
 generalize hbb : decide (by' = 0) = b at *
 have key := key b rfl
 simp -implicitDefEqProofs [hdS, dropS, tlS, c9, hpos0, hg0, hg1, w0, wt, wn, wl, wl2, lsl, hp, hq, k32, k33, k31, k34, f3, f4, f5, key]
 rw [kL]
 simp -implicitDefEqProofs [kB]

theorem apa_at (ls : List (List Int)) (c : List (Int × Int)) (st : List (Int × Int)) (t : Nat) (ht : t ≤ 255) (hl : ls.length ≤ 9223372036854775807) : RUN 61 9 [llsl ls, csl c, .agg [csl st, .p (.int .u8 t)]] = .ret (.p (.bool true)) := by
 have ka := awake12
 rw [RUN, call_eq (d := 60) fe9 _ rfl, c9_body]
 have k55 := short55 (n := 60) (by omega) ls hl
 by_cases h4 : (4 : Int) < ls.length
 ·simp -implicitDefEqProofs [hdS, dropS, tlS, c9, h4, ka]
 ·cases hB : shortB ls with
  | false =>
   rw [hB] at k55
   simp -implicitDefEqProofs [hdS, dropS, tlS, c9, h4, k55, ka]
  | true =>
   rw [hB] at k55
   obtain ⟨_, q2⟩ := short_len hB
   have hil : ∀ l ∈ ls, l.length < 1000000 := fun l h => by have := q2 l h; omega
   have k61 := runs61 (n := 60) (by omega) ls (by omega) hil
   by_cases hE : runsE ls = 0
   ·have hok := runs_of hE
    have hpos0 := hok.pos
    have hsm := hok.small
    have e0 : ls[0]? = some ls[0] := List.getElem?_eq_getElem hpos0
    have g0 : ls.getD 0 [] = ls[0] := by simp [List.getD_eq_getElem?_getD, e0]
    have hl0 : ls[0].length = m0 ls := by rw [m0, g0]
    have hl0' : ∀ z, (ls[0]'z).length = m0 ls := fun _ => hl0
    have hm1 : m0 ls ≠ 0 := by
     have := hok.len _ (List.getElem_mem hpos0)
     have hp := (pulse_of (firstE_zero.1 (firstE_zero.1 (by
      have h := hE
      unfold runsE at h
      rw [if_pos (sizedE_zero.2 ⟨by omega, by have := hok.few; omega⟩)] at h
      exact h) (runE ls ls[0]) (List.mem_map.2 ⟨_, List.getElem_mem hpos0, rfl⟩)) (pulseE ls[0]) (by simp))).1
     omega
    rw [hE] at k61
    by_cases h16 : (16 : Int) < m0 ls
    ·simp -implicitDefEqProofs [hdS, dropS, tlS, c9, h4, k55, k61, hpos0, lsl, hl0', h16, ka]
    ·by_cases hcl : c.length = m0 ls
     ·have hl1 : ∀ z, (ls[0]'z).length = c.length := fun _ => hl0.trans hcl.symm
      have h17 : ¬ (16 : Int) < c.length := by omega
      have k37 := corr37 (n := 60) (by omega) c (by omega)
      by_cases hc : corrE c = 0
      ·rw [hc] at k37
       have k19 := setting19a (n := 60) (by omega) st
       by_cases hs : settingE st = 0
       ·rw [hs] at k19
        have kg := gate1 ls c (by omega) hil [(0, .box [csl st, .p (.int .u8 t)])]
        have z00 : ((0 : Nat) : Int) = 0 := rfl
        simp only [E1, z00] at kg
        cases hn : ls.all nearB with
        | false =>
         rw [hn] at kg
         simp only [Bool.false_eq_true, if_false] at kg
         simp -implicitDefEqProofs [hdS, dropS, tlS, c9, h4, k55, k61, hpos0, lsl, hl1, h17, k37, k19]
         rw [kg]
         simp -implicitDefEqProofs
        | true =>
         rw [hn] at kg
         simp only [if_true] at kg
         have hA : Apart ls c.length := ⟨hcl ▸ hok, hE, hcl.symm, fun l hl' => nearB_iff.1 (List.all_eq_true.1 hn l hl'), by omega⟩
         have kA := fun tl => rA9 hA hc hs t ht tl
         simp -implicitDefEqProofs [hdS, dropS, tlS, c9, h4, k55, k61, hpos0, lsl, hl1, h17, k37, k19]
         rw [kg]
         simp -implicitDefEqProofs [kA]
       ·have hsb : (settingE st != 0) = true := by simpa using hs
        simp -implicitDefEqProofs [hdS, dropS, tlS, c9, h4, k55, k61, hpos0, lsl, hl1, h17, k37, k19, hsb, ka]
      ·have hcb : (corrE c != 0) = true := by simpa using hc
       simp -implicitDefEqProofs [hdS, dropS, tlS, c9, h4, k55, k61, hpos0, lsl, hl1, h17, k37, hcb, ka]
     ·have hcb : ((c.length : Int) != (m0 ls : Int)) = true := by
       simp only [bne_iff_ne, ne_eq]
       omega
      simp -implicitDefEqProofs [hdS, dropS, tlS, c9, h4, k55, k61, hpos0, lsl, hl0', h16, hcb, ka]
   ·have hEb : (runsE ls != 0) = true := by simpa using hE
    simp -implicitDefEqProofs [hdS, dropS, tlS, c9, h4, k55, k61, hEb, ka]
end Fw
end

