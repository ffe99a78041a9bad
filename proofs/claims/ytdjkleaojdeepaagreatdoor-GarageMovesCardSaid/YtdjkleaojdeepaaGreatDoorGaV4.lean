/- The indices at which a trace moves, by the chapter: its loop, which makes a new variable in each round. -/
import Derived.Test.YtdjkleaojdeepaaGreatDoorGaV3
set_option maxHeartbeats 16000000
namespace Fw
open Go
attribute [local irreducible] evCode evOps evOpsD evOper evOperD evOp evFn loopN T.All T.bind callPure callOp opsK opsDK restK seqK blockK loopS setK setQ giveK scalK gcK finish finS rfunK yldK yldB loopK

def V42 (l : List Int) (g : List (Int × Int)) (k : Nat) : St := ⟨[(0, isl l), (1, csl g), (12, .sl 0 (mvF l g k).length 0 (mvF l g k).length), (13, .ptr (k + 1) 0 0)], [(k + 1, .arr [.int .i64 ((k : Int) + 1)] 0 1), (0, .arr (pI (mvF l g k)) (mvF l g k).length 1)]⟩
theorem round42 {d : Nat} (l : List Int) (hl : l.length < 1000000) (g : List (Int × Int)) (hg : g.length < 1000000) (k : Nat) (hk1 : k + 1 < l.length) :
    ∃ st1, loopS (evFn F C0 G0 (d + 3)) C0 G0 0 true [0, 1, 12, 13] c42L1 (V42 l g k) = .ret (.normal, st1) ∧ loopS (evFn F C0 G0 (d + 3)) C0 G0 0 true [0, 1, 12, 13] c42L1 st1 = loopS (evFn F C0 G0 (d + 3)) C0 G0 0 true [0, 1, 12, 13] c42L1 (V42 l g (k + 1)) := by
  have hPl : ∀ a : List Int, (pI a).length = a.length := fun a => by simp [pI]
  have hk0 : k < l.length := by omega
  have hml := mvF_len l g k
  have hlim : (mvF l g k).length + 1 ≤ lim := by simp only [lim]; omega
  have w1 := wrap64 (n := (k : Int) + 1 - 1) (by omega) (by omega)
  have w2 := wrap64 (n := (k : Int) + 1 + 1) (by omega) (by omega)
  have hs : (k : Int) + 1 - 1 = k := by omega
  rw [hs] at w1
  have hlt : (k : Int) + 1 < l.length := by omega
  have hn1 : ((k : Int) + 1).toNat = k + 1 := by omega
  have h0i : 0 ≤ (k : Int) + 1 := by omega
  have hd0 : (pI l).drop k = .int .i64 l[k] :: (pI l).drop (k + 1) := by
    rw [List.drop_eq_getElem_cons (by rw [hPl]; exact hk0)]; simp [pI]
  have hd1 : (pI l).drop (k + 1) = .int .i64 l[k + 1] :: (pI l).drop (k + 2) := by
    rw [List.drop_eq_getElem_cons (by rw [hPl]; exact hk1)]; simp [pI]
  have hg0 : l.getD k 0 = l[k] := by simp [List.getD_eq_getElem?_getD, hk0]
  have hg1 : l.getD (k + 1) 0 = l[k + 1] := by simp [List.getD_eq_getElem?_getD, hk1]
  have kc := contains107 (n := d + 3) (by omega) g hg ((k : Int) + 1)
  have hPs : pI (mvF l g k ++ [(k : Int) + 1]) = pI (mvF l g k) ++ [.int .i64 ((k : Int) + 1)] := by simp [pI]
  have hPk := hPl (mvF l g k)
  have hPl := hPl l
  have hcast : (((k + 1 : Nat)) : Int) = (k : Int) + 1 := by omega
  simp only [V42, mvF, hg0, hg1, isl, csl, hcast] at *
  generalize hA : pI l = A at *
  generalize A.drop (k + 2) = R2 at *
  generalize cI g = G at *
  generalize hf : freF g ((k : Int) + 1) g.length = f at *
  rw [hd1] at hd0
  by_cases he : l[k + 1] = l[k]
  · rw [if_neg (fun c => c.1 he)]
    generalize l[k] = x at *
    generalize l[k + 1] = y at *
    subst he
    generalize pI (mvF l g k) = Q at *
    generalize (mvF l g k).length = z at *
    refine ⟨?_, ?h1, ?h2⟩
    case h1 =>
      simp -implicitDefEqProofs [loopS_eq, c42L1, hk0, hk1, hlt, hn1, h0i, hPl, hd0, hd1, hs, w1, w2]
      exact rfl
    case h2 => exact loopS_same (by simp) (by simp)
  · have heb : (l[k + 1] == l[k]) = false := by simpa using he
    generalize l[k] = x at *
    generalize l[k + 1] = y at *
    have heb2 : (y != x) = true := by simpa using he
    cases f with
    | true =>
      rw [if_neg (fun c => by cases c.2)]
      generalize pI (mvF l g k) = Q at *
      generalize (mvF l g k).length = z at *
      refine ⟨?_, ?h1, ?h2⟩
      case h1 =>
        simp -implicitDefEqProofs [loopS_eq, c42L1, hk0, hk1, hlt, hn1, h0i, hPl, hd0, hd1, hs, w1, w2, heb2, kc]
        exact rfl
      case h2 => exact loopS_same (by simp) (by simp)
    | false =>
      rw [if_pos ⟨he, rfl⟩]
      simp only [hPs, List.length_append, List.length_cons, List.length_nil, Nat.zero_add]
      generalize pI (mvF l g k) = Q at *
      generalize (mvF l g k).length = z at *
      refine ⟨?_, ?h1, ?h2⟩
      case h1 =>
        simp -implicitDefEqProofs [loopS_eq, c42L1, hk0, hk1, hlt, hn1, h0i, hPl, hd0, hd1, hs, w1, w2, heb2, kc, hlim, hPk]
        exact rfl
      case h2 => exact loopS_same (by simp) (by simp)
end Fw
