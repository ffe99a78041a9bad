/- Lists of sensors: printed by the reference. -/
import Derived.Test.YtbaedpfgjpkabaaGreatDoorChSt5
set_option maxHeartbeats 8000000
namespace Fw
open Go
attribute [local irreducible] evCode evOps evOpsD evOper evOperD evOp evFn loopN T.All T.bind callPure callOp opsK opsDK restK seqK blockK loopS setK setQ giveK scalK gcK finish finS rfunK yldK yldB loopK

theorem textS_snoc (l : List SenI) (s : SenI) : textS (l ++ [s]) = textS l ++ lineS s := by simp [textS]
theorem print96 {n : Nat} (hn : 3 ≤ n) (l : List SenI) (h : sensE l = 0) : RUN n 96 [ssl l] = .ret (sv (textS l)) := by
  obtain ⟨d, rfl⟩ : ∃ d, n = d + 3 := ⟨n - 3, by omega⟩
  rw [RUN, call_eq fe96 _ rfl]
  obtain ⟨h16, hok⟩ := sens_of h
  have hR := sR_len l
  let inv : Nat → St := fun i => ⟨[(0, ssl l), (3, sv (textS (l.take i))), (4, iv i)], []⟩
  have htake : l.take l.length = l := List.take_of_length_le (by omega)
  simp -implicitDefEqProofs [c96]
  rw [loop_run inv l.length (e := .exit 0) (st' := ⟨(inv l.length).env ++ [(8, .p (.bool false))], []⟩) (by simp) (by rfl)]
  · simp -implicitDefEqProofs [inv, htake]
  · intro i hi
    have w2 := wrap_succ (i := i) (by omega)
    have hlt : i * 4 < l.length * 4 := by omega
    have hlt1 : i * 4 + 1 < l.length * 4 := by omega
    have hlt2 : i * 4 + 2 < l.length * 4 := by omega
    have hlt3 : i * 4 + 3 < l.length * 4 := by omega
    have hdr := rowC_drop sc_len l i hi
    have hd1 : (rowC sc l).drop (i * 4 + 1) = .int .i64 l[i].scale :: .int .i64 l[i].lo :: .int .i64 l[i].hi :: rowC sc (l.drop (i + 1)) := by
      rw [← List.drop_drop, hdr]; rfl
    have hd2 : (rowC sc l).drop (i * 4 + 2) = .int .i64 l[i].lo :: .int .i64 l[i].hi :: rowC sc (l.drop (i + 1)) := by
      rw [← List.drop_drop, hdr]; rfl
    have hd3 : (rowC sc l).drop (i * 4 + 3) = .int .i64 l[i].hi :: rowC sc (l.drop (i + 1)) := by
      rw [← List.drop_drop, hdr]; rfl
    have ho := hok _ (List.getElem_mem hi)
    have l0 := ho.l0
    have l1 := ho.l1
    have l2 := ho.l2
    have s0 := ho.s0
    have s1 := ho.s1
    have t1 := text170 (n := d + 2) (by omega) l[i].scale (by omega) (by omega)
    have t2 := text170 (n := d + 2) (by omega) l[i].lo (by omega) (by omega)
    have t3 := text170 (n := d + 2) (by omega) l[i].hi (by omega) (by omega)
    have b0 := name_len ho.name
    have b1 := itoaS_length l[i].scale
    have b2 := itoaS_length l[i].lo
    have b3 := itoaS_length l[i].hi
    have hts : textS (l.take (i + 1)) = textS (l.take i) ++ ([115, 101, 110, 115, 111, 114] ++ [32] ++ l[i].name ++ [32] ++ itoaS l[i].scale ++ [32] ++ itoaS l[i].lo ++ [32] ++ itoaS l[i].hi ++ [10]) := by
      have e2 : l.take (i + 1) = l.take i ++ [l[i]] := by rw [List.take_add_one, List.getElem?_eq_getElem hi]; rfl
      rw [e2, textS_snoc, lineS_eq]
    have hA0 := text_len (l.take i) (fun s hs => hok s (List.mem_of_mem_take hs))
    have hA1 : (textS (l.take i)).length ≤ 3200 := by simp only [List.length_take] at hA0; omega
    clear hA0 l0 l1 l2 s0 s1 ho
    simp only [inv, hts]
    generalize hA : rowC sc l = A at *
    generalize rowC sc (l.drop (i + 1)) = R2 at *
    generalize textS (l.take i) = T at *
    generalize itoaS l[i].scale = B1 at *
    generalize itoaS l[i].lo = B2 at *
    generalize itoaS l[i].hi = B3 at *
    generalize l[i] = s at *
    obtain ⟨nm, sk, sl, sh⟩ := s
    simp only at hdr hd1 hd2 hd3 t1 t2 t3 b0
    have e1 : [115, 101, 110, 115, 111, 114] ++ [32] ++ nm ++ [32] ++ B1 ++ [32] ++ B2 ++ [32] ++ B3 ++ [10] = [115, 101, 110, 115, 111, 114, 32] ++ nm ++ [32] ++ B1 ++ [32] ++ B2 ++ [32] ++ B3 ++ [10] := rfl
    rw [e1]
    simp only [c96L0]
    have hW : ([115, 101, 110, 115, 111, 114, 32] : List UInt8).length = 7 := rfl
    have hS : ([32] : List UInt8).length = 1 := rfl
    have hN : ([10] : List UInt8).length = 1 := rfl
    generalize ([115, 101, 110, 115, 111, 114, 32] : List UInt8) = W at *
    generalize ([32] : List UInt8) = S at *
    generalize ([10] : List UInt8) = N1 at *
    have q0 : T.length + W.length ≤ lim := by simp only [lim]; omega
    have q1 : T.length + W.length + nm.length ≤ lim := by simp only [lim]; omega
    have q2 : T.length + (W.length + nm.length) + S.length ≤ lim := by simp only [lim]; omega
    have q3 : T.length + (W.length + (nm.length + S.length)) + B1.length ≤ lim := by simp only [lim]; omega
    have q4 : T.length + (W.length + (nm.length + (S.length + B1.length))) + S.length ≤ lim := by simp only [lim]; omega
    have q5 : T.length + (W.length + (nm.length + (S.length + (B1.length + S.length)))) + B2.length ≤ lim := by simp only [lim]; omega
    have q6 : T.length + (W.length + (nm.length + (S.length + (B1.length + (S.length + B2.length))))) + S.length ≤ lim := by simp only [lim]; omega
    have q7 : T.length + (W.length + (nm.length + (S.length + (B1.length + (S.length + (B2.length + S.length)))))) + B3.length ≤ lim := by simp only [lim]; omega
    have q8 : T.length + (W.length + (nm.length + (S.length + (B1.length + (S.length + (B2.length + (S.length + B3.length))))))) + N1.length ≤ lim := by simp only [lim]; omega
    simp -implicitDefEqProofs [loopS_eq, hi, hA, hR, hlt, hdr, sc, t1, t2, t3, strBin, q0, q1, q2, q3, q4, q5, q6, q7, q8, w2]
  · simp -implicitDefEqProofs [inv, loopS_eq, c96L0]
  · simp [loopFuel]; omega
end Fw
