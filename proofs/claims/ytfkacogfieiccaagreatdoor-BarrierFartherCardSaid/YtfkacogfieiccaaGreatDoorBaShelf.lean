/- Several texts in one: steps of the proof, no condition of their own. -/
import Derived.Test.YtfkacogfieiccaaGreatDoorBaL6
import Derived.Shelf.Strings.OnBuilder
import Derived.Shelf.LaysM
import Derived.Shelf.Strconv.Itoa3
import Derived.Shelf.Spec.SlicesGrow
import Derived.Test.YtfkacogfieiccaaGreatDoorProg
attribute [local irreducible] Fw.evCode Fw.evOps Fw.evOpsD Fw.evOper Fw.evOperD Fw.evOp Fw.evFn Fw.loopN Fw.T.All Fw.T.bind Fw.callPure Fw.callOp Fw.opsK Fw.opsDK Fw.restK Fw.seqK Fw.blockK Fw.loopS Fw.setK Fw.setQ Fw.giveK Fw.scalK Fw.gcK Fw.finish Fw.finS Fw.rfunK Fw.yldK Fw.yldB Fw.loopK
section
set_option maxHeartbeats 8000000
namespace Fw
open Go

theorem min2 (a b : Int) : minInt a [iv b] = some (min a b) := by
 simp only [minInt]; congr 1; split <;> omega

/-! greatest common divisors -/
/-! overlaps -/
end Fw
end

section
set_option maxHeartbeats 16000000
namespace Fw
open Go

end Fw
end

section
set_option maxHeartbeats 16000000
namespace Fw
open Go

theorem given_r {d : Nat} (t : TowI) (hl : t.pull.length < 1000000) (x y z : Int) (V : List AVal) : evFn F C0 G0 (d + 2) (.fn 35) [twa t] ((2, .box V) :: stF t x y z) = .ret (.agg [.sl 5 0 0 t.pull.length, iv t.fl, iv t.fh, iv t.bl, iv t.bh, iv t.wall], [(5, .arr (pI t.pull) 0 1), (4, .box [.sl 5 0 0 t.pull.length, iv t.fl, iv t.fh, iv t.bl, iv t.bh, iv t.wall]), (3, .box (twl t)), (2, .box V), (1, .arr [.int .u8 x, .int .u8 y, .int .u8 z] 0 1), (0, .box (twl t))]) := by
 rw [evFn_fn fe35]
 have h1 := ints52 (n := d + 1) (by omega) t.pull hl
 simp -implicitDefEqProofs [c35, h1, stF]

theorem given_r2 {d : Nat} (t : TowI) (hl : t.pull.length < 1000000) (x y z : Int) (V W : List AVal) (A : List PVal) : evFn F C0 G0 (d + 2) (.fn 35) [twa t] ((6, .box W) :: (5, .arr A 1 1) :: (2, .box V) :: stF t x y z) = .ret (.agg [.sl 9 0 0 t.pull.length, iv t.fl, iv t.fh, iv t.bl, iv t.bh, iv t.wall], [(9, .arr (pI t.pull) 0 1), (8, .box [.sl 9 0 0 t.pull.length, iv t.fl, iv t.fh, iv t.bl, iv t.bh, iv t.wall]), (7, .box (twl t)), (6, .box W), (5, .arr A 1 1), (2, .box V), (1, .arr [.int .u8 x, .int .u8 y, .int .u8 z] 0 1), (0, .box (twl t))]) := by
 rw [evFn_fn fe35]
 have h1 := ints52 (n := d + 1) (by omega) t.pull hl
 simp -implicitDefEqProofs [c35, h1, stF]

theorem hidT4f : hidT 4 = [2] := by decide

theorem farther_at (t : TowI) (x y z : Int) (hx : 0 ≤ x ∧ x ≤ 255) (hy : 0 ≤ y ∧ y ≤ 255) (hz : 0 ≤ z ∧ z ≤ 255) : RUN 61 11 [twa t, .agg [.p (.int .u8 x), .p (.int .u8 y), .p (.int .u8 z)]] = .ret (.p (.bool true)) := by
 rw [RUN, call_eq (d := 60) fe11 _ rfl]
 have ka := awake13
 by_cases h1 : (12 : Int) < t.pull.length
 ·simp -implicitDefEqProofs [c11, ka, h1]
 ·have k40 := tow40 (n := 60) (by omega) t (by omega)
  by_cases z0 : towE t = 0
  ·rw [z0] at k40
   have h := tow_of z0
   have hfr := h.fr
   have hbr := h.br
   have hw := h.wl
   have hpo := h.pos
   have hl12 : t.pull.length ≤ 12 := by omega
   have q5 := wrap64 (n := x) (by omega) (by omega)
   have q6 := wrap64 (n := y) (by omega) (by omega)
   have q7 := wrap64 (n := z) (by omega) (by omega)
   have q8 := wrap64 (n := t.bl + x) (by omega) (by omega)
   have q9 := wrap64 (n := t.wall + 1) (by omega) (by omega)
   have k35 := given35 (n := 60) (by omega) t (by omega)
   have kg := given_r (d := 58) t (by omega) x y z
   have kg2 := given_r2 (d := 58) t (by omega) x y z
   simp only [stF] at kg kg2
   have k39 := last39 (n := 60) (by omega) t (by omega)
   rw [if_pos z0] at k39
   have k39s := last39 (n := 60) (by omega) (strongT t x) (by simp only [strongT]; omega)
   rw [if_pos (tow_to (strong_ok h hx.1))] at k39s
   have l1 := strong_last h hx.1
   have l2 := far_last h hl12
   have mn := min2 100000 (t.bl + x)
   have mx := max2 (min 100000 (t.bl + x)) t.bh
   have k39f : RUN 60 39 [.agg [.p (.sl (pI t.pull ++ [.int .i64 0]) (t.pull.length + 1)), iv t.fl, iv t.fh, iv t.bl, iv t.bh, iv (t.wall + 1)]] = .ret (.tup [iv (lastI (farT t)), iv 0]) := by
    have := last39 (n := 60) (by omega) (farT t) (by simp [farT]; omega)
    have ef : twa (farT t) = .agg [.p (.sl (pI t.pull ++ [.int .i64 0]) (t.pull.length + 1)), iv t.fl, iv t.fh, iv t.bl, iv t.bh, iv (t.wall + 1)] := by simp [farT, pI]
    rw [ef, if_pos (tow_to (far_ok h hl12))] at this
    exact this
   have hm : y.tmod (t.pull.length : Int) = y % t.pull.length := Int.tmod_eq_emod_of_nonneg hy.1
   have hr1 := Int.emod_nonneg y (show (t.pull.length : Int) ≠ 0 by omega)
   have hr2 := Int.emod_lt_of_pos y (show (0 : Int) < t.pull.length by omega)
   obtain ⟨k, hk⟩ : ∃ k : Nat, y % t.pull.length = k := ⟨(y % t.pull.length).toNat, by omega⟩
   have hkl : k < t.pull.length := by omega
   have hkl2 : (k : Int) < t.pull.length := by omega
   have l3 := more_last h hkl hx.1
   have hpk := pull_in h hkl
   have hg : ∀ q, (pI t.pull)[k]'q = .int .i64 (t.pull.getD k 0) := fun q => by simp [pI, List.getD_eq_getElem?_getD, hkl]
   have q10 := wrap64 (n := t.pull.getD k 0 + x) (by omega) (by omega)
   have q11 := wrap64 (n := (k : Int)) (by omega) (by omega)
   have mn2 := min2 100000 (t.pull.getD k 0 + x)
   have k39m : RUN 60 39 [.agg [.p (.sl ((pI t.pull).set k (.int .i64 (min 100000 (t.pull.getD k 0 + x)))) t.pull.length), iv t.fl, iv t.fh, iv t.bl, iv t.bh, iv t.wall]] = .ret (.tup [iv (lastI (moreT t k x)), iv 0]) := by
    have := last39 (n := 60) (by omega) (moreT t k x) (by simp [moreT]; omega)
    have ef : twa (moreT t k x) = .agg [.p (.sl ((pI t.pull).set k (.int .i64 (min 100000 (t.pull.getD k 0 + x)))) t.pull.length), iv t.fl, iv t.fh, iv t.bl, iv t.bh, iv t.wall] := by simp [moreT, pI_set]
    rw [ef, if_pos (tow_to (more_ok h hkl hx.1))] at this
    exact this
   have k50 := table50 (n := 60) (by omega) t (by omega)
   rw [if_pos z0] at k50
   generalize hlm : lastI (moreT t k x) = lm at *
   generalize hvk : t.pull.getD k 0 = vk at *
   simp only [strongT] at k39s l1
   generalize hls : lastI ⟨t.pull, t.fl, t.fh, min 100000 (t.bl + x), max (min 100000 (t.bl + x)) t.bh, t.wall⟩ = ls at *
   generalize hlf : lastI (farT t) = lf at *
   generalize hl0 : lastI t = l0 at *
   have hP : (pI t.pull).length = t.pull.length := by simp
   have hne : ¬ t.pull.length = 0 := by omega
   have hlim : t.pull.length + 1 ≤ lim := by simp only [lim]; omega
   have kr := fun B10 B6 B2 A9 A5 => far_loop h x y z B10 B6 B2 A9 A5
   have w0 : wasB t 0 = true := rfl
   have z00 : ((0 : Nat) : Int) = 0 := rfl
   have htl := tab_len h
   simp only [rF, stG, w0, z00, htl, isl] at kr
   have n1 : ¬ ls < l0 := by omega
   have n2 : ¬ lf < l0 := by omega
   have n3 : ¬ l0 < lm := by omega
   have hk1 : k + 1 ≤ t.pull.length := hkl
   simp -implicitDefEqProofs [c11, h1, k40, k35, k39, k39s, q5, q8, q9, mn, mx, kg, k39f, hlim, hidI, hidT4f, hP, hne, kg2, q6, hm, hk, hkl, hkl2, hg, q10, mn2, k39m, k50, hk1, n1, n2, n3, htl]
   rw [kr]
   clear kr kg kg2 k39 k39s k39f k39m
   have hT : (pI (tabL t)).length = (tabL t).length := by simp
   have hm2 : z.tmod t.wall = z % t.wall := Int.tmod_eq_emod_of_nonneg hz.1
   have hs1 := Int.emod_nonneg z (show t.wall ≠ 0 by omega)
   have hs2 := Int.emod_lt_of_pos z (show (0 : Int) < t.wall by omega)
   obtain ⟨j, hj⟩ : ∃ j : Nat, z % t.wall = j := ⟨(z % t.wall).toNat, by omega⟩
   have hj1 : ((j + 1 : Nat) : Int) ≤ t.wall := by omega
   have hj0 : (j : Int) ≤ t.wall := by omega
   have hjl : j + 1 < (tabL t).length := by omega
   have hjl0 : j < (tabL t).length := by omega
   have hjp : j < t.pull.length := by omega
   have b1 := tab_in h hj1
   have b0 := tab_in h hj0
   have bp := pull_in h hjp
   have g1 : ∀ q, (pI (tabL t))[j + 1]'q = .int .i64 ((tabL t).getD (j + 1) 0) := fun q => by simp [pI, List.getD_eq_getElem?_getD, hjl]
   have g0 : ∀ q, (pI (tabL t))[j]'q = .int .i64 ((tabL t).getD j 0) := fun q => by simp [pI, List.getD_eq_getElem?_getD, hjl0]
   have gp : ∀ q, (pI t.pull)[j]'q = .int .i64 (t.pull.getD j 0) := fun q => by simp [pI, List.getD_eq_getElem?_getD, hjp]
   have k52 := ints52 (n := 60) (by omega) (tabL t) (by omega)
   have k51s : ∀ v, (tabL t).getD (j + 1) 0 - (1 + x) = v → 0 ≤ v → RUN 60 51 [twa t, .p (.sl ((pI (tabL t)).set (j + 1) (.int .i64 v)) (tabL t).length), iv 0] = .ret (iv 19) := fun v hv hv0 => by
    subst hv
    have := check51 (n := 60) (by omega) t (by omega) ((tabL t).set (j + 1) ((tabL t).getD (j + 1) 0 - (1 + x))) (by simp; omega) ((0 : Nat) : Int)
    rw [small_19 h hj1 hx.1 hv0, isl, List.length_set, ← pI_set] at this
    exact this
   obtain ⟨n, hn⟩ : ∃ n : Nat, t.wall.toNat = n := ⟨_, rfl⟩
   have hn2 : (n : Int) = t.wall := by omega
   have hnl : n < (tabL t).length := by omega
   have gn : ∀ q, (pI (tabL t))[n]'q = .int .i64 ((tabL t).getD n 0) := fun q => by simp [pI, List.getD_eq_getElem?_getD, hnl]
   have bn := tab_in h (i := n) (by omega)
   have k51g : RUN 60 51 [twa t, .p (.sl ((pI (tabL t)).set n (.int .i64 ((tabL t).getD n 0 + 1))) (tabL t).length), iv t.wall] = .ret (iv 19) := by
    have := check51 (n := 60) (by omega) t (by omega) ((tabL t).set n ((tabL t).getD n 0 + 1)) (by simp; omega) n
    rw [great_19 h hn2, isl, List.length_set, ← pI_set, hn2] at this
    exact this
   generalize (tabL t).getD n 0 = an at *
   generalize (tabL t).getD (j + 1) 0 = a1 at *
   generalize (tabL t).getD j 0 = a0 at *
   generalize t.pull.getD j 0 = pj at *
   have v1 := wrap64 (n := 1 + x) (by omega) (by omega)
   have v2 := wrap64 (n := a1 - (1 + x)) (by omega) (by omega)
   have v3 := wrap64 (n := a0 + pj) (by omega) (by omega)
   have v4 := wrap64 (n := a0 + pj - t.fl) (by omega) (by omega)
   have v5 := wrap64 (n := a0 + pj - t.fl - 1) (by omega) (by omega)
   have v6 := wrap64 (n := an + 1) (by omega) (by omega)
   have v7 := wrap64 (n := (j : Int)) (by omega) (by omega)
   have v8 := wrap64 (n := 1 + (j : Int)) (by omega) (by omega)
   have v9 : (1 + (j : Int)).toNat = j + 1 := by omega
   have v10 := wrap64 (n := 1 + (j : Int) - 1) (by omega) (by omega)
   have v11 : 1 + (j : Int) - 1 = j := by omega
   have v12 := wrap64 (n := t.wall + 1 - 1) (by omega) (by omega)
   have v13 : t.wall + 1 - 1 = t.wall := by omega
   have v14 := wrap64 (n := t.wall) (by omega) (by omega)
   have v15 : 0 ≤ 1 + (j : Int) := by omega
   have v16 : 1 + (j : Int) < t.wall + 1 := by omega
   have v17 : 0 ≤ t.wall := by omega
   have v18 : t.wall < t.wall + 1 := by omega
   have v19 : (j : Int) < t.wall + 1 := by omega
   have v20 : (j : Int) < t.pull.length := by omega
   have hjs : j + 1 + 1 ≤ (tabL t).length := by omega
   have hns : n + 1 ≤ (tabL t).length := by omega
   simp only [isl] at k52
   generalize hT2 : pI (tabL t) = T at *
   generalize hM : (tabL t).length = M at *
   have hw0 : ¬ t.wall = 0 := by omega
   by_cases hv0 : 0 ≤ a1 - (1 + x)
   ·have k51s := k51s _ rfl hv0
    have hv1 : 1 + x ≤ a1 := by omega
    by_cases hc : a0 + pj - t.fl - 1 < a1
    ·simp -implicitDefEqProofs [k35, k52, q5, q7, hm2, hj, v1, v2, v3, v4, v5, v6, v7, v8, v9, v11, v13, v14, v15, v16, v17, v18, v19, v20, hjs, hns, g0, g1, gp, gn, hT, hn, hw0, htl, hjl, hjl0, hjp, hnl, hv1, hc, ka, k51s, k51g]
     done
    ·simp -implicitDefEqProofs [k35, k52, q5, q7, hm2, hj, v1, v2, v3, v4, v5, v6, v7, v8, v9, v11, v13, v14, v15, v16, v17, v18, v19, v20, hjs, hns, g0, g1, gp, gn, hT, hn, hw0, htl, hjl, hjl0, hjp, hnl, hv1, hc, ka, k51g]
     done
   ·have hv1 : ¬ 1 + x ≤ a1 := by omega
    simp -implicitDefEqProofs [k35, k52, q5, q7, hm2, hj, v1, v2, v6, v8, v9, v13, v14, v15, v16, v17, v18, hjs, hns, g1, gn, hT, hn, hw0, htl, hjl, hnl, hv1, ka, k51g]
    done
  ·have zb : (towE t != 0) = true := by simpa using z0
   simp -implicitDefEqProofs [c11, ka, h1, k40, zb]
end Fw
end

section
namespace Go.Proofs
open Go.Shelf
def Tryz.lays156_ren : Go.Shelf.Ren := ⟨fun | 156 => 145 | 165 => 169 | 166 => 170 | 169 => 171 | 240 => 181 | 241 => 182 | 276 => 188 | 277 => 189 | n => n, fun | 31 => 54 | 9 => 9 | 3 => 3 | 4 => 4 | 0 => 0 | 20 => 20 | 72 => 255 | 76 => 259 | 70 => 252 | 37 => 253 | 75 => 258 | 127 => 267 | 164 => 270 | 5 => 5 | 80 => 261 | n => n, fun | n => n⟩
theorem Tryz.lays156 : Go.Proofs.Lays.n156 Tryz.prog Tryz.lays156_ren := {
 mixed := by kernel_rfl
 f156 := Tryz.func145.trans (congrArg some (by kernel_rfl))
 f165 := Tryz.func169.trans (congrArg some (by kernel_rfl))
 f166 := Tryz.func170.trans (congrArg some (by kernel_rfl))
 f169 := Tryz.func171.trans (congrArg some (by kernel_rfl))
 f240 := Tryz.func181.trans (congrArg some (by kernel_rfl))
 f241 := Tryz.func182.trans (congrArg some (by kernel_rfl))
 f276 := Tryz.func188.trans (congrArg some (by kernel_rfl))
 f277 := Tryz.func189.trans (congrArg some (by kernel_rfl))
 t0 := Tryz.underlying0
 a0 := Tryz.isAgg0
 z0 := Tryz.sizeOf0
 v0 := Tryz.zeroValue0
 t3 := Tryz.underlying3
 a3 := Tryz.isAgg3
 z3 := Tryz.sizeOf3
 v3 := Tryz.zeroValue3
 t4 := Tryz.underlying4
 a4 := Tryz.isAgg4
 z4 := Tryz.sizeOf4
 v4 := Tryz.zeroValue4
 t9 := Tryz.underlying9
 a9 := Tryz.isAgg9
 z9 := Tryz.sizeOf9
 v9 := Tryz.zeroValue9
 t20 := Tryz.underlying20
 a20 := Tryz.isAgg20
 z20 := Tryz.sizeOf20
 v20 := Tryz.zeroValue20
 t31 := Tryz.underlying54
 a31 := Tryz.isAgg54
 z31 := Tryz.sizeOf54
 v31 := Tryz.zeroValue54
 t37 := Tryz.underlying253
 a37 := Tryz.isAgg253
 z37 := Tryz.sizeOf253
 v37 := Tryz.zeroValue253
 t70 := Tryz.underlying252
 a70 := Tryz.isAgg252
 z70 := Tryz.sizeOf252
 v70 := Tryz.zeroValue252
 t72 := Tryz.underlying255
 a72 := Tryz.isAgg255
 z72 := Tryz.sizeOf255
 v72 := Tryz.zeroValue255
 t75 := Tryz.underlying258
 a75 := Tryz.isAgg258
 z75 := Tryz.sizeOf258
 v75 := Tryz.zeroValue258
 t76 := Tryz.underlying259
 a76 := Tryz.isAgg259
 z76 := Tryz.sizeOf259
 v76 := Tryz.zeroValue259
 t127 := Tryz.underlying267
 a127 := Tryz.isAgg267
 z127 := Tryz.sizeOf267
 v127 := Tryz.zeroValue267
 t164 := Tryz.underlying270
 a164 := Tryz.isAgg270
 z164 := Tryz.sizeOf270
 v164 := Tryz.zeroValue270 }
theorem Tryz.Builder_Extra_156 : Builder.Extra Tryz.prog Tryz.lays156_ren := {
 sizeBuilder := by kernel_rfl
 liesBuilder := by kernel_rfl
 t5 := Tryz.underlying5
 a5 := Tryz.isAgg5
 z5 := Tryz.sizeOf5
 v5 := Tryz.zeroValue5
 infoByte := by kernel_rfl
 cellsByte := by kernel_rfl
 sizeByte := by kernel_rfl
 neB5 := by decide }
open Go.RowKit in
theorem Tryz.strings_Join (bk o c : Nat) (xs : List ByteArray) (sep : ByteArray) (w : World) (hcells : ∀ (j : Nat) x, xs[j]? = some x → w.cell? ⟨bk, o + j, none⟩ = some (.string x)) (hbk : bk < w.heap.size) (hN : xs.length ≤ 140737488355328) (hcap : xs.length ≤ c) (hlen : (Lib.join (xs.map (·.data.toList)) sep.data.toList).length ≤ 140737488355328) :
  Calls Tryz.prog 145 #[.slice (some ⟨bk, o, none⟩) xs.length c, .string sep] w fun e w' => e = .returned (.string ⟨(Lib.join (xs.map (·.data.toList)) sep.data.toList).toArray⟩) ∧ Below w.heap.size w w' := Any.strings_Join Tryz.lays156 Tryz.Builder_Extra_156 bk o c xs sep w hcells hbk hN hcap hlen
open Go.RowKit in
theorem Tryz.strings_Join_none (a : Option Addr) (c : Nat) (sep : ByteArray) (w : World) :
  Calls Tryz.prog 145 #[.slice a 0 c, .string sep] w fun e w' => e = .returned (.string ⟨#[]⟩) ∧ w' = w := Any.strings_Join_none Tryz.lays156 Tryz.Builder_Extra_156 a c sep w
def Tryz.laysM171_ren : Go.Shelf.Ren := ⟨fun | 171 => 168 | 243 => 180 | 246 => 187 | 283 => 195 | 284 => 196 | 285 => 197 | 286 => 198 | 129 => 204 | 317 => 203 | 318 => 205 | 319 => 206 | 320 => 207 | 337 => 212 | 338 => 213 | n => n, fun | 3 => 3 | 9 => 9 | 2 => 2 | 4 => 4 | 171 => 276 | 0 => 0 | 53 => 277 | 37 => 253 | 5 => 5 | 173 => 280 | 212 => 286 | 51 => 287 | 20 => 20 | 213 => 288 | 46 => 289 | 232 => 298 | 233 => 299 | n => n, fun | 17 => 3 | 18 => 6 | 19 => 7 | n => n⟩
theorem Tryz.laysM171 : Go.Proofs.LaysM.n171 Tryz.prog Tryz.laysM171_ren := {
 mixed := by kernel_rfl
 f129 := Tryz.func204.trans (congrArg some (by kernel_rfl))
 f171 := Tryz.func168.trans (congrArg some (by kernel_rfl))
 f243 := Tryz.func180.trans (congrArg some (by kernel_rfl))
 f246 := Tryz.func187.trans (congrArg some (by kernel_rfl))
 f283 := Tryz.func195.trans (congrArg some (by kernel_rfl))
 f284 := Tryz.func196.trans (congrArg some (by kernel_rfl))
 f285 := Tryz.func197.trans (congrArg some (by kernel_rfl))
 f286 := Tryz.func198.trans (congrArg some (by kernel_rfl))
 f317 := Tryz.func203.trans (congrArg some (by kernel_rfl))
 f318 := Tryz.func205.trans (congrArg some (by kernel_rfl))
 f319 := Tryz.func206.trans (congrArg some (by kernel_rfl))
 f320 := Tryz.func207.trans (congrArg some (by kernel_rfl))
 f337 := Tryz.func212.trans (congrArg some (by kernel_rfl))
 f338 := Tryz.func213.trans (congrArg some (by kernel_rfl))
 t0 := Tryz.underlying0
 a0 := Tryz.isAgg0
 z0 := Tryz.sizeOf0
 v0 := Tryz.zeroValue0
 t2 := Tryz.underlying2
 a2 := Tryz.isAgg2
 z2 := Tryz.sizeOf2
 v2 := Tryz.zeroValue2
 t3 := Tryz.underlying3
 a3 := Tryz.isAgg3
 z3 := Tryz.sizeOf3
 v3 := Tryz.zeroValue3
 t4 := Tryz.underlying4
 a4 := Tryz.isAgg4
 z4 := Tryz.sizeOf4
 v4 := Tryz.zeroValue4
 t5 := Tryz.underlying5
 a5 := Tryz.isAgg5
 z5 := Tryz.sizeOf5
 v5 := Tryz.zeroValue5
 t9 := Tryz.underlying9
 a9 := Tryz.isAgg9
 z9 := Tryz.sizeOf9
 v9 := Tryz.zeroValue9
 t20 := Tryz.underlying20
 a20 := Tryz.isAgg20
 z20 := Tryz.sizeOf20
 v20 := Tryz.zeroValue20
 t37 := Tryz.underlying253
 a37 := Tryz.isAgg253
 z37 := Tryz.sizeOf253
 v37 := Tryz.zeroValue253
 t46 := Tryz.underlying289
 a46 := Tryz.isAgg289
 z46 := Tryz.sizeOf289
 v46 := Tryz.zeroValue289
 t51 := Tryz.underlying287
 a51 := Tryz.isAgg287
 z51 := Tryz.sizeOf287
 v51 := Tryz.zeroValue287
 t53 := Tryz.underlying277
 a53 := Tryz.isAgg277
 z53 := Tryz.sizeOf277
 v53 := Tryz.zeroValue277
 t171 := Tryz.underlying276
 a171 := Tryz.isAgg276
 z171 := Tryz.sizeOf276
 v171 := Tryz.zeroValue276
 t173 := Tryz.underlying280
 a173 := Tryz.isAgg280
 z173 := Tryz.sizeOf280
 v173 := Tryz.zeroValue280
 t212 := Tryz.underlying286
 a212 := Tryz.isAgg286
 z212 := Tryz.sizeOf286
 v212 := Tryz.zeroValue286
 t213 := Tryz.underlying288
 a213 := Tryz.isAgg288
 z213 := Tryz.sizeOf288
 t232 := Tryz.underlying298
 a232 := Tryz.isAgg298
 z232 := Tryz.sizeOf298
 v232 := Tryz.zeroValue298
 t233 := Tryz.underlying299
 a233 := Tryz.isAgg299
 z233 := Tryz.sizeOf299
 v233 := Tryz.zeroValue299
 g17 := by kernel_rfl
 g18 := by kernel_rfl
 g19 := by kernel_rfl
 i0 := by kernel_rfl
 i2 := by kernel_rfl
 i3 := by kernel_rfl
 i4 := by kernel_rfl
 i5 := by kernel_rfl
 i9 := by kernel_rfl
 i20 := by kernel_rfl
 i37 := by kernel_rfl
 i46 := by kernel_rfl
 i51 := by kernel_rfl
 i53 := by kernel_rfl
 i171 := by kernel_rfl
 i173 := by kernel_rfl
 i212 := by kernel_rfl
 i232 := by kernel_rfl
 i233 := by kernel_rfl
 m17 := by kernel_rfl
 m18 := by kernel_rfl
 m19 := by kernel_rfl }
open Go.RowKit Go.Sort Go.Lib in
theorem Tryz.strconv_Itoa (n : Int) (h0 : -9223372036854775808 ≤ n) (h1 : n ≤ 9223372036854775807) (w : World) (htab : Lib.TabIs Tryz.prog w "internal/strconv.uint64pow10" .u64 Lib.pow10Tab) :
  Calls Tryz.prog 168 #[.int .i64 n] w fun e w' => e = .returned (.string ⟨(Lib.itoa n).toArray⟩) ∧ ∃ k os, w' = grow (w.drewN k) os := Any.strconv_Itoa Tryz.laysM171 n h0 h1 w htab
def Tryz.grow_ren : Go.Shelf.Ren := ⟨fun | 4 => 177 | n => n, fun | 22 => 66 | 25 => 3 | 3 => 3 | 4 => 4 | 9 => 9 | 20 => 20 | 0 => 0 | n => n, fun | n => n⟩
theorem Tryz.grow : Lays8.n4 Tryz.prog Tryz.grow_ren := {
 mixed := by kernel_rfl
 f4 := ⟨"slices.Grow[[]int,int]", by decide, Tryz.func177.trans (congrArg some (by kernel_rfl))⟩
 t0 := Tryz.underlying0
 a0 := Tryz.isAgg0
 z0 := Tryz.sizeOf0
 v0 := Tryz.zeroValue0
 t3 := Tryz.underlying3
 a3 := Tryz.isAgg3
 z3 := Tryz.sizeOf3
 v3 := Tryz.zeroValue3
 t4 := Tryz.underlying4
 a4 := Tryz.isAgg4
 z4 := Tryz.sizeOf4
 v4 := Tryz.zeroValue4
 t9 := Tryz.underlying9
 a9 := Tryz.isAgg9
 z9 := Tryz.sizeOf9
 v9 := Tryz.zeroValue9
 t20 := Tryz.underlying20
 a20 := Tryz.isAgg20
 z20 := Tryz.sizeOf20
 v20 := Tryz.zeroValue20
 t22 := Tryz.underlying66
 a22 := Tryz.isAgg66
 z22 := Tryz.sizeOf66
 v22 := Tryz.zeroValue66 }
theorem Tryz.grow_room (base : Option Addr) (w : World) : Calls Tryz.prog 177 #[.slice base 0 0, .int .i64 (0 : Int)] w fun e w2 => e = .returned (.slice base 0 0) ∧ w2 = w :=
 Any8.slices_Grow_room Tryz.grow base 0 0 0 w (Nat.le_refl _) (by decide) (by decide) (by decide)
theorem Tryz.grow_new (base : Option Addr) (n : Nat) (w : World) (hn : 0 < n) (hb : n ≤ 1000000) : Calls Tryz.prog 177 #[.slice base 0 0, .int .i64 n] w fun e w2 => ∃ (cap : Nat) (cs : Array Value), e = .returned (.slice (some ⟨w.heap.size, 0, none⟩) 0 cap) ∧ cs.size = cap ∧ w2 = w.drew.alloc (.cells cs 3) := by
 have hi : (Tryz.prog.info? 3).map (fun i => (i.zero, i.size, i.bytes)) = some (some (.int .i64 0), 1, 8) := by kernel_rfl
 obtain ⟨i0, h0, h1⟩ := Option.map_eq_some_iff.1 hi
 simp only [Prod.mk.injEq] at h1
 obtain ⟨hz, hs, hy⟩ := h1
 have hge : n ≤ grownCap w n 0 3 := by simp [grownCap, Question.cut]
 refine (Any8.slices_Grow_grow Tryz.grow i0 (.int .i64 0) h0 hz (by omega) base 0 0 n [] w (Nat.le_refl _) (by omega) (by rw [hy]; omega) (by omega) (by simp) (fun _ => rfl) (fun a _ j v h => by simp at h)).mono (fun e w2 h => ?_)
 obtain ⟨rfl, rfl⟩ := h
 refine ⟨_, _, rfl, ?_, rfl⟩
 have hzz : (Value.int IntKind.i64 0).cells.size = 1 := rfl
 show Array.size _ = grownCap w (0 + n) 0 3
 simp only [Nat.zero_add, Nat.sub_zero]
 have e : Tryz.grow_ren.t 25 = 3 := rfl
 rw [e]
 simp [Builtin.zeroCells, hzz]
 omega
end Go.Proofs
end

