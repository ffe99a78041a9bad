/- The law of sums, at any input: the whole. -/
import Derived.Test.YtbaedpfgjpkabaaGreatDoorChSum
set_option maxHeartbeats 16000000
namespace Fw
open Go
attribute [local irreducible] evCode evOps evOpsD evOper evOperD evOp evFn loopN T.All T.bind callPure callOp opsK opsDK restK seqK blockK loopS setK setQ giveK scalK gcK finish finS rfunK yldK yldB loopK

theorem start76 {n : Nat} (hn : 3 ≤ n) (s : Int) : RUN n 76 [iv s] = .ret (iv (rangeE (-999999999) 999999999 s)) := by
  obtain ⟨d, rfl⟩ : ∃ d, n = d + 3 := ⟨n - 3, by omega⟩
  rw [RUN, call_eq fe76 _ rfl]
  have k := range108 (n := d + 2) (by omega) s (-999999999) 999999999
  simp -implicitDefEqProofs [c76, k]

theorem smpF_all {o : List Int} (h : In16 o) : SmpOk (o.map smpF) ∧ (o.map smpF).map smpN = o := by
  refine ⟨fun x hx => ?_, ?_⟩
  · obtain ⟨b, hb, rfl⟩ := List.mem_map.1 hx
    have := h b hb
    exact (smpF_of (n := b) (by omega) (by omega)).2.1
  · rw [List.map_map]
    refine (List.map_congr_left fun b hb => ?_).trans (List.map_id o)
    have := h b hb
    exact (smpF_of (n := b) (by omega) (by omega)).2.2

def c9R : ACode :=
 .seq (.opsd [(0, 1), (1, 1), (2, 1), (3, 1), (4, 1), (5, 0), (6, 1), (7, 1), (8, 1), (9, 1), (10, 1)] [o 72 (.fadr 0 (.t 2)), o 73 (.ld false 1 (.t 72)), o 74 (.call true false 0 (.fn 24) [.t 73]), o 75 (.fadr 2 (.t 2)), o 76 (.ld true 3 (.t 75)), o 77 (.call true false 0 (.fn 70) [.t 74, .t 76]), o 71 (.mv (.t 77)), o 78 (.ext (.t 71) 0), o 79 (.ext (.t 71) 1), o 8 (.mv (.t 78)), o 9 (.mv (.t 79))] [1, 2, 5, 8, 9])
 (.seq (.opsd [(0, 1), (1, 1), (2, 1), (3, 1), (4, 1), (5, 0), (6, 0), (7, 1), (8, 1), (9, 1), (10, 1), (11, 1)] [o 81 (.fadr 0 (.t 2)), o 82 (.ld false 1 (.t 81)), o 83 (.call true false 0 (.fn 24) [.t 82]), o 84 (.fadr 1 (.t 2)), o 85 (.ld false 1 (.t 84)), o 86 (.call true false 0 (.fn 24) [.t 85]), o 87 (.call true true 0 (.fn 71) [.t 83, .t 86]), o 80 (.mv (.t 87)), o 88 (.ext (.t 80) 0), o 89 (.ext (.t 80) 1), o 10 (.mv (.t 88)), o 11 (.mv (.t 89))] [1, 2, 5, 8, 9, 10, 11])
 (.seq (.opsd [(0, 1), (1, 1), (2, 1), (3, 1), (4, 1), (5, 0), (6, 1), (7, 1), (8, 1), (9, 1), (10, 1)] [o 91 (.fadr 0 (.t 2)), o 92 (.ld false 1 (.t 91)), o 93 (.call true false 0 (.fn 24) [.t 92]), o 94 (.fadr 5 (.t 2)), o 95 (.ld false 1 (.t 94)), o 96 (.call true false 0 (.fn 72) [.t 93, .t 95]), o 90 (.mv (.t 96)), o 97 (.ext (.t 90) 0), o 98 (.ext (.t 90) 1), o 12 (.mv (.t 97)), o 13 (.mv (.t 98))] [1, 2, 5, 8, 9, 10, 11, 12, 13])
 (.seq (.opsd [(0, 1), (1, 1), (2, 1), (3, 1), (4, 1), (5, 0), (6, 1), (7, 1), (8, 1), (9, 1), (10, 1)] [o 100 (.fadr 0 (.t 2)), o 101 (.ld false 1 (.t 100)), o 102 (.call true false 0 (.fn 24) [.t 101]), o 103 (.fadr 5 (.t 2)), o 104 (.ld false 1 (.t 103)), o 105 (.call true false 0 (.fn 73) [.t 102, .t 104]), o 99 (.mv (.t 105)), o 106 (.ext (.t 99) 0), o 107 (.ext (.t 99) 1), o 14 (.mv (.t 106)), o 15 (.mv (.t 107))] [1, 2, 5, 8, 9, 10, 11, 12, 13, 14, 15])
 (.seq (.ops [o 109 (.mv (.t 5)), o 110 (.call true false 0 (.fn 74) [.t 109]), o 108 (.mv (.t 110)), o 111 (.ext (.t 108) 0), o 112 (.ext (.t 108) 1), o 16 (.mv (.t 111)), o 17 (.mv (.t 112))] [1, 2, 8, 9, 10, 11, 12, 13, 14, 15, 16, 17])
 (.seq (.opsd [(0, 1), (1, 1), (2, 1), (3, 1), (4, 1), (5, 0), (6, 0), (7, 0), (8, 1)] [o 113 (.fadr 0 (.t 2)), o 114 (.ld false 1 (.t 113)), o 115 (.call true true 0 (.fn 43) [.t 114]), o 116 (.fadr 2 (.t 2)), o 117 (.ld true 3 (.t 116)), o 118 (.call true true 0 (.fn 18) [.t 117]), o 119 (.bslice false 1 [.p (.int .i64 0)] 2 [(0, .t 115), (1, .t 118)]), o 120 (.call true true 0 (.fn 29) [.t 119]), o 18 (.mv (.t 120))] [1, 2, 8, 9, 10, 11, 12, 13, 14, 15, 16, 17, 18])
 (.seq (.ops [o 121 (.fadr 0 (.t 2)), o 122 (.ld false 1 (.t 121)), o 123 (.fadr 1 (.t 2)), o 124 (.ld false 1 (.t 123)), o 125 (.call true true 0 (.fn 75) [.t 122, .t 124]), o 19 (.mv (.t 125))] [1, 2, 8, 9, 10, 11, 12, 13, 14, 15, 16, 17, 18, 19])
 (.seq (.opsd [(0, 1), (1, 1), (2, 1), (3, 1), (4, 1), (5, 0), (6, 0), (7, 0), (8, 1)] [o 126 (.fadr 0 (.t 2)), o 127 (.ld false 1 (.t 126)), o 128 (.call true true 0 (.fn 43) [.t 127]), o 129 (.fadr 5 (.t 2)), o 130 (.ld false 1 (.t 129)), o 131 (.call true true 0 (.fn 76) [.t 130]), o 132 (.bslice false 1 [.p (.int .i64 0)] 2 [(0, .t 128), (1, .t 131)]), o 133 (.call true true 0 (.fn 29) [.t 132]), o 20 (.mv (.t 133))] [1, 2, 8, 9, 10, 11, 12, 13, 14, 15, 16, 17, 18, 19, 20])
 (.seq (.ops [o 134 (.mv (.t 1)), o 135 (.call true true 0 (.fn 77) [.t 134]), o 21 (.mv (.t 135))] [1, 2, 8, 9, 10, 11, 12, 13, 14, 15, 16, 17, 18, 19, 20, 21])
 (.seq (.ops [o 22 (.mv (cn))] [1, 2, 8, 9, 10, 11, 12, 13, 14, 15, 16, 17, 18, 19, 20, 21, 22])
 (.seq (.ops [o 23 (.mv (cn)), o 24 (.mv (cn)), o 25 (.mv (cn))] [1, 2, 8, 9, 10, 11, 12, 13, 14, 15, 16, 17, 18, 19, 20, 21, 22, 23, 24, 25])
 (.seq (.ops [o 26 (.mv (ci 0))] [1, 2, 8, 9, 10, 11, 12, 13, 14, 15, 16, 17, 18, 19, 20, 21, 22, 23, 24, 25, 26])
 (.seq (.seq (.ops [o 136 (.mv (.t 18)), o 137 (.bin .eql (.t 136) (ci 0))] [1, 2, 8, 9, 10, 11, 12, 13, 14, 15, 16, 17, 18, 19, 20, 21, 22, 23, 24, 25, 26, 137])
 (.cond (.t 137)
 (.ops [o 138 (.fadr 0 (.t 2)), o 139 (.ld false 1 (.t 138)), o 140 (.fadr 2 (.t 2)), o 141 (.ld true 3 (.t 140)), o 142 (.call true false 0 (.fn 78) [.t 139, .t 141]), o 22 (.mv (.t 142))] [1, 2, 8, 9, 10, 11, 12, 13, 14, 15, 16, 17, 18, 19, 20, 21, 22, 23, 24, 25, 26])
 (.skip)))
 (.seq (.seq (.ops [o 143 (.mv (.t 19)), o 144 (.bin .eql (.t 143) (ci 0))] [1, 2, 8, 9, 10, 11, 12, 13, 14, 15, 16, 17, 18, 19, 20, 21, 22, 23, 24, 25, 26, 144])
 (.cond (.t 144)
 (.ops [o 145 (.fadr 0 (.t 2)), o 146 (.ld false 1 (.t 145)), o 147 (.fadr 1 (.t 2)), o 148 (.ld false 1 (.t 147)), o 149 (.call true true 0 (.fn 79) [.t 146, .t 148]), o 26 (.mv (.t 149))] [1, 2, 8, 9, 10, 11, 12, 13, 14, 15, 16, 17, 18, 19, 20, 21, 22, 23, 24, 25, 26])
 (.skip)))
 (.seq (.seq (.ops [o 150 (.mv (.t 20)), o 151 (.bin .eql (.t 150) (ci 0))] [1, 2, 8, 9, 10, 11, 12, 13, 14, 15, 16, 17, 18, 19, 20, 21, 22, 23, 24, 25, 26, 151])
 (.cond (.t 151)
 (.opsd [(0, 1), (1, 1), (2, 1), (3, 1), (4, 1), (5, 1), (6, 1), (7, 1), (8, 1), (9, 0), (10, 1), (11, 1)] [o 152 (.fadr 0 (.t 2)), o 153 (.ld false 1 (.t 152)), o 154 (.fadr 5 (.t 2)), o 155 (.ld false 1 (.t 154)), o 156 (.call true false 0 (.fn 80) [.t 153, .t 155]), o 157 (.fadr 0 (.t 2)), o 158 (.ld false 1 (.t 157)), o 159 (.fadr 5 (.t 2)), o 160 (.ld false 1 (.t 159)), o 161 (.call true false 0 (.fn 81) [.t 158, .t 160]), o 23 (.mv (.t 156)), o 24 (.mv (.t 161))] [1, 8, 9, 10, 11, 12, 13, 14, 15, 16, 17, 18, 19, 20, 21, 22, 23, 24, 25, 26])
 (.skip)))
 (.seq (.seq (.ops [o 162 (.mv (.t 21)), o 163 (.bin .eql (.t 162) (ci 0))] [1, 8, 9, 10, 11, 12, 13, 14, 15, 16, 17, 18, 19, 20, 21, 22, 23, 24, 25, 26, 163])
 (.cond (.t 163)
 (.ops [o 164 (.mv (.t 1)), o 165 (.call true false 0 (.fn 82) [.t 164]), o 25 (.mv (.t 165))] [8, 9, 10, 11, 12, 13, 14, 15, 16, 17, 18, 19, 20, 21, 22, 23, 24, 25, 26])
 (.skip)))
 (.seq (.ops [o 166 (.mv (.t 8)), o 167 (.mv (.t 22)), o 168 (.call true true 0 (.fn 48) [.t 166, .t 167]), o 169 (.mv (.t 168)), ⟨some 170, .mv (.t 9), some (169, true)⟩, ⟨some 171, .mv (.t 18), some (169, true)⟩, ⟨some 172, .bin .eql (.t 170) (.t 171), some (169, true)⟩, o 173 (.pick (.t 169) (.t 172) (cb false)), o 174 (.mv (.t 173)), ⟨some 175, .mv (.t 10), some (174, true)⟩, ⟨some 176, .mv (.t 26), some (174, true)⟩, ⟨some 177, .bin .eql (.t 175) (.t 176), some (174, true)⟩, o 178 (.pick (.t 174) (.t 177) (cb false)), o 179 (.mv (.t 178)), ⟨some 180, .mv (.t 11), some (179, true)⟩, ⟨some 181, .mv (.t 19), some (179, true)⟩, ⟨some 182, .bin .eql (.t 180) (.t 181), some (179, true)⟩, o 183 (.pick (.t 179) (.t 182) (cb false)), o 184 (.mv (.t 183)), ⟨some 185, .mv (.t 12), some (184, true)⟩, ⟨some 186, .mv (.t 23), some (184, true)⟩, ⟨some 187, .call true true 0 (.fn 49) [.t 185, .t 186], some (184, true)⟩, o 188 (.pick (.t 184) (.t 187) (cb false)), o 189 (.mv (.t 188)), ⟨some 190, .mv (.t 13), some (189, true)⟩, ⟨some 191, .mv (.t 20), some (189, true)⟩, ⟨some 192, .bin .eql (.t 190) (.t 191), some (189, true)⟩, o 193 (.pick (.t 189) (.t 192) (cb false)), o 194 (.mv (.t 193)), ⟨some 195, .mv (.t 14), some (194, true)⟩, ⟨some 196, .mv (.t 24), some (194, true)⟩, ⟨some 197, .call true true 0 (.fn 49) [.t 195, .t 196], some (194, true)⟩, o 198 (.pick (.t 194) (.t 197) (cb false)), o 199 (.mv (.t 198)), ⟨some 200, .mv (.t 15), some (199, true)⟩, ⟨some 201, .mv (.t 20), some (199, true)⟩, ⟨some 202, .bin .eql (.t 200) (.t 201), some (199, true)⟩, o 203 (.pick (.t 199) (.t 202) (cb false)), o 204 (.mv (.t 203)), ⟨some 205, .mv (.t 16), some (204, true)⟩, ⟨some 206, .mv (.t 25), some (204, true)⟩, ⟨some 207, .call true true 0 (.fn 49) [.t 205, .t 206], some (204, true)⟩, o 208 (.pick (.t 204) (.t 207) (cb false)), o 209 (.mv (.t 208)), ⟨some 210, .mv (.t 17), some (209, true)⟩, ⟨some 211, .mv (.t 21), some (209, true)⟩, ⟨some 212, .bin .eql (.t 210) (.t 211), some (209, true)⟩, o 213 (.pick (.t 209) (.t 212) (cb false)), o 214 (.mv (.t 213)), ⟨some 215, .call true true 0 (.fn 15) [], some (214, true)⟩, o 216 (.pick (.t 214) (.t 215) (cb false)), o 4 (.mv (.t 216))] [4])
 (.ret)))))))))))))))))
theorem c9_eq : c9 = ⟨217, [.tmp 4],
 .seq (.ops [o 2 (.box false (.t 0)), o 4 (.mv (cb false))] [1, 2])
 (.seq (.seq (.ops [o 27 (.fadr 0 (.t 2)), o 28 (.ld false 1 (.t 27)), o 29 (.call true true 0 (.fn 22) [.t 28]), o 30 (.not (.t 29)), o 31 (.mv (.t 30)), ⟨some 32, .fadr 1 (.t 2), some (31, false)⟩, ⟨some 33, .ld false 1 (.t 32), some (31, false)⟩, ⟨some 34, .call true true 0 (.fn 22) [.t 33], some (31, false)⟩, ⟨some 35, .not (.t 34), some (31, false)⟩, o 36 (.pick (.t 31) (cb true) (.t 35)), o 37 (.mv (.t 36)), ⟨some 38, .fadr 2 (.t 2), some (37, false)⟩, ⟨some 39, .fadr 0 (.t 38), some (37, false)⟩, ⟨some 40, .ld false 1 (.t 39), some (37, false)⟩, ⟨some 41, .len 0 (.t 40), some (37, false)⟩, ⟨some 42, .bin .gtr (.t 41) (ci 40), some (37, false)⟩, o 43 (.pick (.t 37) (cb true) (.t 42)), o 44 (.mv (.t 43)), ⟨some 45, .mv (.t 1), some (44, false)⟩, ⟨some 46, .len 1 (.t 45), some (44, false)⟩, ⟨some 47, .bin .gtr (.t 46) (ci 4), some (44, false)⟩, ⟨some 48, .mv (.t 47), some (44, false)⟩, ⟨some 49, .mv (.t 1), some (48, true)⟩, ⟨some 50, .len 1 (.t 49), some (48, true)⟩, ⟨some 51, .bin .neq (.t 50) (ci 17), some (48, true)⟩, ⟨some 52, .pick (.t 48) (.t 51) (cb false), some (44, false)⟩, o 53 (.pick (.t 44) (cb true) (.t 52))] [1, 2, 53])
 (.cond (.t 53)
 (.seq (.ops [o 54 (.call true true 0 (.fn 15) []), o 4 (.mv (.t 54))] [4])
 (.ret))
 (.skip)))
 (.seq (.ops [o 5 (.nilown 1)] [1, 2, 5])
 (.seq (.seq (.ops [o 55 (.mv (.t 1)), o 56 (.len 1 (.t 55)), o 57 (.mv (ci 0))] [1, 2, 5, 55, 56, 57])
 (.block 0 (.loop false [1, 2, 5, 55, 56, 57] c9L0)))
 c9R)))⟩ := rfl

/-- the end, where all records are short -/
theorem rest9 (ka : RUN 60 15 [] = .ret (.p (.bool true))) (A B : List Nat) (hla : A.length < 1000000) (hlb : B.length < 1000000) (c : CodeI) (hc : c.place.length ≤ 9223372036854775807) (s : Int) (l : List (List Nat)) (hll : l.length < 1000000) (hsh : RecShort l) :
    (evCode (evFn F C0 G0 60) C0 G0 0 c9R ⟨[(1, lsl l), (2, .ptr 0 0 0), (5, .sl 1 l.length 0 l.length), (55, lsl l), (56, iv l.length), (57, iv l.length), (58, .p (.bool false))], [(1, .arr (pL l) l.length 1), (0, .box [fsl A, fsl B, sv c.place, iv c.axis, iv c.sign, iv s])]⟩).bind (finish [.tmp 4]) = .ret (.p (.bool true)) := by
  have iA := floats24 (n := 60) (by omega) A hla
  have iB := floats24 (n := 60) (by omega) B hlb
  have p70 := turned70 (n := 60) (by omega) A hla c hc
  have p71 := agree71 (n := 60) (by omega) A B hla hlb
  have p72 := speeds72 (n := 60) (by omega) A hla s
  have p73 := ways73 (n := 60) (by omega) A hla s
  have p74 := squares74 (n := 60) (by omega) l hll hsh
  have p43 := samples43 (n := 60) (by omega) A hla
  have p18 := code18 (n := 60) (by omega) c
  have p29 := first29_2 (n := 60) (by omega) (smpsE A) (codeE c)
  have p75 := two75 (n := 60) (by omega) A B hla hlb
  have p76 := start76 (n := 60) (by omega) s
  have p29' := first29_2 (n := 60) (by omega) (smpsE A) (rangeE (-999999999) 999999999 s)
  have p77 := records77 (n := 60) (by omega) l hll hsh
  have e1 : firstE [smpsE A, codeE c] = tuE A c := rfl
  have e2 : firstE [smpsE A, rangeE (-999999999) 999999999 s] = stE A s := rfl
  rw [e1] at p29
  rw [e2] at p29'
  have n48 : RUN 60 48 [.p (.sl [] 0), .p (.sl [] 0)] = .ret (.p (.bool true)) := same48 (n := 60) (l := []) (by omega) (by intro b hb; cases hb) (by simp)
  have n49 : RUN 60 49 [.p (.sl [] 0), .p (.sl [] 0)] = .ret (.p (.bool true)) := (same49 (n := 60) (by omega) [] [] (by simp)).trans (by rw [decide_eq_true rfl])
  have q48 : tuE A c = 0 → RUN 60 48 [.p (.sl (pF (tuO A c)) A.length), .p (.sl (pF ((A.map fun b => c.sign * smpN b).map smpF)) A.length)] = .ret (.p (.bool true)) := fun h => by
    obtain ⟨⟨a, b⟩, hok⟩ := tu_of h
    obtain ⟨t1, t2⟩ := tuO_ok b hok
    obtain ⟨u1, u2⟩ := smpF_all (tu_in b hok)
    have := same48g (n := 60) (by omega) t1 u1 (t2.trans u2.symm) (by simpa using hla)
    simpa only [fsl, tuO_length, List.length_map] using this
  have q49 : ∀ (x : List Int) (k : Nat), x.length = k → k < 1000000 → RUN 60 49 [.p (.sl (pI x) k), .p (.sl (pI x) k)] = .ret (.p (.bool true)) := fun x k hk hk2 => by
    subst hk
    exact (same49 (n := 60) (by omega) x x hk2).trans (by rw [decide_eq_true rfl])
  have p78 : tuE A c = 0 → _ := fun h => turned78 (n := 60) (by omega) h
  have p79 : agE A B = 0 → _ := fun h => agree79 (n := 60) (by omega) h
  have p80 : stE A s = 0 → _ := fun h => speeds80 (n := 60) (by omega) h
  have p81 : stE A s = 0 → _ := fun h => ways81 (n := 60) (by omega) h
  have p82 : recE l = 0 → _ := fun h => squares82 (n := 60) (by omega) h
  have qs := q49 (spdL A s) A.length (by simp) hla
  have qw := q49 (wayL A s) A.length (by simp) hla
  have hq0 : recE l = 0 → (l.getD 0 []).length < 1000000 := fun h => by
    obtain ⟨h0, _, hy⟩ := rec_of h
    have hmem : l.getD 0 [] ∈ l := by
      rw [List.getD_eq_getElem?_getD, List.getElem?_eq_getElem h0]
      exact List.getElem_mem _
    have := (hy _ hmem).1.1
    omega
  have qq : recE l = 0 → _ := fun h => q49 (sqI l l.length) (l.getD 0 []).length (by simp) (hq0 h)
  clear q49 hq0
  generalize smpsE A = E1 at *
  generalize codeE c = E2 at *
  generalize rangeE (-999999999) 999999999 s = E3 at *
  generalize tuE A c = z1 at *
  generalize agE A B = z2 at *
  generalize stE A s = z3 at *
  generalize recE l = z4 at *
  generalize (A.map fun b => c.sign * smpN b).map smpF = T1 at *
  generalize tuO A c = T0 at *
  generalize sgn (agS A B A.length) = sg at *
  generalize spdL A s = sp at *
  generalize wayL A s = wy at *
  generalize sqI l l.length = sq at *
  generalize (l.getD 0 []).length = nq at *
  obtain ⟨pl, ax, si⟩ := c
  by_cases y1 : z1 = 0 <;> by_cases y2 : z2 = 0 <;> by_cases y3 : z3 = 0 <;> by_cases y4 : z4 = 0
  all_goals
    first
    | rw [if_pos y1] at p70
    | rw [if_neg y1] at p70
    first
    | rw [if_pos y2] at p71
    | rw [if_neg y2] at p71
    first
    | rw [if_pos y3] at p72 p73
    | rw [if_neg y3] at p72 p73
    first
    | rw [if_pos y4] at p74
    | rw [if_neg y4] at p74
    simp -implicitDefEqProofs [c9R, ka, iA, iB, p70, p71, p72, p73, p74, p43, p18, p29, p29', p75, p76, p77, n48, n49, q48, qs, qw, qq, p78, p79, p80, p81, p82, y1, y2, y3, y4]

/-- a record that is not short -/
def lgE (y : List Nat) : Int := if (decide (y.length ≤ 40) || decide (y.length = 4097)) = true then 0 else 1

theorem sum_at (ka : RUN 60 15 [] = .ret (.p (.bool true))) (A B : List Nat) (c : CodeI) (s : Int) (l : List (List Nat)) : RUN 61 9 [.agg [fsl A, fsl B, sv c.place, iv c.axis, iv c.sign, iv s], lsl l] = .ret (.p (.bool true)) := by
  rw [RUN, call_eq (d := 60) fe9 _ rfl, c9_eq]
  have sA := short22 (n := 60) (by omega) A
  have sB := short22 (n := 60) (by omega) B
  by_cases cA : (decide (A.length ≤ 40) || decide (A.length = 4097)) = true
  · by_cases cB : (decide (B.length ≤ 40) || decide (B.length = 4097)) = true
    · by_cases cp : (40 : Int) < c.place.length
      · simp -implicitDefEqProofs [ka, sA, sB, cA, cB, cp]
      · by_cases cl : (decide ((4 : Int) < l.length) && ((l.length : Int) != 17)) = true
        · simp only [Bool.and_eq_true, decide_eq_true_eq] at cl
          obtain ⟨cl1, cl2⟩ := cl
          simp -implicitDefEqProofs [ka, sA, sB, cA, cB, cp, cl1, cl2]
        · have hll : l.length < 1000000 := by
            have : l.length ≤ 4 ∨ l.length = 17 := by
              simp only [Bool.and_eq_true, decide_eq_true_eq, bne_iff_ne] at cl
              omega
            omega
          let inv : Nat → St := fun i => ⟨[(1, lsl l), (2, .ptr 0 0 0), (5, .sl 1 i 0 i), (55, lsl l), (56, iv l.length), (57, iv i)], [(1, .arr (pL (l.take i)) i 1), (0, .box [fsl A, fsl B, sv c.place, iv c.axis, iv c.sign, iv s])]⟩
          have hloop : ∃ r, loopN (loopS (evFn F C0 G0 60) C0 G0 0 false [1, 2, 5, 55, 56, 57] c9L0) loopFuel ⟨[(1, lsl l), (2, .ptr 0 0 0), (5, .sl 1 0 0 0), (55, lsl l), (56, iv l.length), (57, .p (.int .i64 0))], [(1, .arr [] 0 1), (0, .box [fsl A, fsl B, sv c.place, iv c.axis, iv c.sign, iv s])]⟩ = .ret r ∧ (firstE (l.map lgE) = 0 → r = (.exit 0, ⟨(inv l.length).env ++ [(58, .p (.bool false))], (inv l.length).sto⟩)) ∧ (firstE (l.map lgE) ≠ 0 → r.1 = .ret ∧ r.2.env = [(4, .p (.bool true))]) := by
            refine loop_errsQ inv (l.map lgE) _ (fun _ r => r.1 = .ret ∧ r.2.env = [(4, .p (.bool true))]) rfl ?_ ?_ (by simp) (by simp [loopFuel]; omega)
            · intro i hi
              simp only [List.length_map] at hi
              have w2 := wrap_succ (i := i) (by omega)
              have ks := short22 (n := 60) (by omega) l[i]
              have hr : pL (l.take (i + 1)) = pL (l.take i) ++ [.sl (pF l[i]) l[i].length] := by
                rw [List.take_add_one, List.getElem?_eq_getElem hi]; exact (pL_snoc _ _).symm
              have hti : (l.take i).length = i := by simp; omega
              have hlim : i + 1 ≤ lim := by simp only [lim]; omega
              simp only [List.getElem_map, inv, hr]
              generalize l.take i = R at *
              generalize hyy : l[i] = y at *
              refine ⟨fun he => ⟨_, ?_, rfl⟩, fun he => ?_⟩
              · have hy : (decide (y.length ≤ 40) || decide (y.length = 4097)) = true := by
                  unfold lgE at he; split at he
                  · assumption
                  · cases he
                have kf := floats24 (n := 60) (by omega) y (by simp at hy; omega)
                simp -implicitDefEqProofs [loopS_eq, c9L0, hi, hyy, ks, hy, kf, hlim, hti, w2]
              · have hy : (decide (y.length ≤ 40) || decide (y.length = 4097)) = false := by
                  unfold lgE at he; split at he
                  · contradiction
                  · rename_i hq; simpa using hq
                refine ⟨_, by simp -implicitDefEqProofs [loopS_eq, c9L0, hi, hyy, ks, hy, ka]; exact rfl, ?_⟩
                exact ⟨by simp, rfl, rfl⟩
            · simp only [List.length_map, inv, List.take_length, List.cons_append, List.nil_append]
              simp -implicitDefEqProofs [loopS_eq, c9L0]
          obtain ⟨r, hr, hok, hbad⟩ := hloop
          by_cases hz : firstE (l.map lgE) = 0
          · have hre := hok hz
            subst hre
            have hsh : RecShort l := fun y hy => by
              have := firstE_zero.1 hz _ (List.mem_map.2 ⟨y, hy, rfl⟩)
              unfold lgE at this
              split at this
              · rename_i h; simp at h; omega
              · cases this
            have hla : A.length < 1000000 := by simp at cA; omega
            have hlb : B.length < 1000000 := by simp at cB; omega
            have kr := rest9 ka A B hla hlb c (by omega) s l hll hsh
            simp only [inv, List.take_length, List.cons_append, List.nil_append] at hr
            by_cases cl1 : (4 : Int) < l.length
            · have cl2 : ((l.length : Int) != 17) = false := by simpa [cl1] using cl
              simp -implicitDefEqProofs [sA, sB, cA, cB, cp, cl1, cl2, hr, kr]
            · simp -implicitDefEqProofs [sA, sB, cA, cB, cp, cl1, hr, kr]
          · obtain ⟨b1, b2⟩ := hbad hz
            obtain ⟨e, env, sto⟩ := r
            simp only at b1 b2
            subst b1 b2
            by_cases cl1 : (4 : Int) < l.length
            · have cl2 : ((l.length : Int) != 17) = false := by simpa [cl1] using cl
              simp -implicitDefEqProofs [sA, sB, cA, cB, cp, cl1, cl2, hr]
            · simp -implicitDefEqProofs [sA, sB, cA, cB, cp, cl1, hr]
    · simp -implicitDefEqProofs [ka, sA, sB, cA, cB]
  · simp -implicitDefEqProofs [ka, sA, cA]
end Fw
