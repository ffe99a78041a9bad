/- Tows, printed: the chapter's and the reference's. -/
import Derived.Test.YtfkacogfieiccaaGreatDoorBaKs
import Derived.Test.YtfkacogfieiccaaGreatDoorBaL2
set_option maxHeartbeats 8000000
namespace Fw
open Go
attribute [local irreducible] evCode evOps evOpsD evOper evOperD evOp evFn loopN T.All T.bind callPure callOp opsK opsDK restK seqK blockK loopS setK setQ giveK scalK gcK finish finS rfunK yldK yldB loopK

theorem le_limT {n : Nat} (h : n ≤ 1000000) : (n ≤ lim) = True := by simp only [lim, eq_iff_iff, iff_true]; omega
theorem intV_ok {l : List UInt8} (h : digOk l = true) : intV l = digV l := by
  simp only [digOk, Bool.and_eq_true, decide_eq_true_eq] at h
  unfold intV
  rw [if_pos ⟨h.1.2, h.1.1.2⟩]

/-- the line of a form -/
def fS (w : List UInt8) (l : List Int) : List UInt8 := Lib.join (w :: l.map itoaS) [32] ++ [10]
theorem fS_one (w : List UInt8) (a : Int) : fS w [a] = w ++ [32] ++ itoaS a ++ [10] := by simp [fS, Lib.join, List.intercalate, List.intersperse]
theorem fS_two (w : List UInt8) (a b : Int) : fS w [a, b] = w ++ [32] ++ itoaS a ++ [32] ++ itoaS b ++ [10] := by simp [fS, Lib.join, List.intercalate, List.intersperse]

theorem map146 {d f : Nat} (l : List Int) (hl : l.length < 1000000) (g : Int → List UInt8) (hg : ∀ x ∈ l, callPure (evFn F C0 G0 d) C0 (.fn f) [iv x] = .ret (sv (g x))) : RUN (d + 1) 146 [isl l, .p (.clo f [] [])] = .ret (.own (pStr (l.map g)) l.length 1) := by
  rw [RUN, call_eq fe146 _ rfl]
  let outs := l.map g
  let inv : Nat → St := fun i => ⟨[(1, .p (.clo f [] [])), (5, .sl 0 i 0 i), (8, isl l), (9, iv l.length), (10, iv i)], [(0, .arr (pStr (outs.take i)) i 1)]⟩
  have hol : outs.length = l.length := by simp [outs]
  have htl : outs.take l.length = outs := List.take_of_length_le (by omega)
  simp -implicitDefEqProofs [c146]
  rw [loop_run' inv l.length (e := .exit 0) (st' := ⟨(inv l.length).env ++ [(11, .p (.bool false))], (inv l.length).sto⟩) (by simp)]
  · simp -implicitDefEqProofs [inv, htl, hol]
    rfl
  · exact loopS_same rfl (by simp [inv])
  · intro i hi
    have hlim : i + 1 ≤ lim := by simp only [lim]; omega
    have h1 := hg l[i] (List.getElem_mem hi)
    have hlt' : (i : Int) < l.length := by omega
    have hgo : l[i]? = some l[i] := List.getElem?_eq_getElem hi
    have ht : pStr (outs.take (i + 1)) = pStr (outs.take i) ++ [.str (g l[i])] := by
      rw [pStr_snoc]; congr 1; rw [List.take_add_one]; simp [outs, hi]
    have hto : (outs.take i).length = i := by simp [hol]; omega
    refine ⟨?_, ?h1, ?h2⟩
    case h1 =>
      simp -implicitDefEqProofs [inv, loopS_eq, c146L0, hi, hlt', hlim, h1, hto, wrap_succ (i := i) (by omega)]
      exact rfl
    case h2 => exact loopS_same rfl (by simp [inv, ht, -List.map_take])
  · simp -implicitDefEqProofs [inv, loopS_eq, c146L0]
  · simp [loopFuel]; omega

theorem itoa_in (x : Int) : (itoaS x).length ≤ 21 := itoaS_length x
theorem line144 {n : Nat} (hn : 2 ≤ n) (w : List UInt8) (k : Int) (l : List Int) (_hw : w.length ≤ 100) (h0 : 0 < l.length) (hl : l.length ≤ 10) (hb : ∀ x ∈ l, -9223372036854775808 ≤ x ∧ x ≤ 9223372036854775807) (hf : (fS w l).length ≤ 10000) : RUN n 144 [.agg [sv w, iv k], isl l] = .ret (sv (fS w l)) := by
  obtain ⟨d, rfl⟩ : ∃ d, n = d + 2 := ⟨n - 2, by omega⟩
  rw [RUN, call_eq fe144 _ rfl]
  have h1 := map146 (d := d) (f := 168) l (by omega) itoaS (fun x hx => itoa168 (n := d) x (hb x hx).1 (hb x hx).2)
  have hlj : (Lib.join (w :: l.map itoaS) [32]).length ≤ lim := by
    simp only [fS, List.length_append, List.length_cons, List.length_nil] at hf
    simp only [lim]; omega
  have h2 := join145 (n := d + 1) (w :: l.map itoaS) [32] (by simp [lim]; omega) hlj
  have hp : pStr (w :: l.map itoaS) = .str w :: pStr (l.map itoaS) := rfl
  rw [hp] at h2
  simp only [List.length_cons, List.length_map] at h2
  have hz : ¬ l.length = 0 := by omega
  have hlim : 1 + l.length ≤ lim := by simp only [lim]; omega
  have hco : 1 + l.length = l.length + 1 := by omega
  have hlj2 : (Lib.join (w :: l.map itoaS) [32]).length + 1 ≤ lim := by
    simp only [fS, List.length_append, List.length_cons, List.length_nil] at hf
    simp only [lim]; omega
  unfold fS
  generalize Lib.join (w :: l.map itoaS) [32] = J at *
  have hlt : l.length + 1 ≤ lim := by omega
  simp -implicitDefEqProofs [c144, h1, h2, hz, hco, hlt, hlj2, strBin]

def wallW : List UInt8 := [119, 97, 108, 108]
def fricW : List UInt8 := [102, 114, 105, 99, 116, 105, 111, 110]
def brakeW : List UInt8 := [98, 114, 97, 107, 101]
def pullW : List UInt8 := [112, 117, 108, 108]
theorem len_one (w : List UInt8) (a : Int) : (fS w [a]).length ≤ w.length + 23 := by
  have := itoaS_length a
  rw [fS_one]; simp; omega
theorem len_two (w : List UInt8) (a b : Int) : (fS w [a, b]).length ≤ w.length + 45 := by
  have := itoaS_length a
  have := itoaS_length b
  rw [fS_two]; simp; omega

theorem pull147 {n : Nat} (hn : 3 ≤ n) (x : Int) (h : -9223372036854775808 ≤ x ∧ x ≤ 9223372036854775807) : callPure (evFn F C0 G0 n) C0 (.fn 147) [iv x] = .ret (sv (fS pullW [x])) := by
  obtain ⟨d, rfl⟩ : ∃ d, n = d + 3 := ⟨n - 3, by omega⟩
  rw [call_eq fe147 _ rfl]
  have h1 := line144 (n := d + 2) (by omega) pullW 1 [x] (by decide) (by simp) (by simp) (by simpa using h) (by have := len_one pullW x; have : pullW.length = 4 := rfl; omega)
  simp only [isl, pI, List.map_cons, List.map_nil, List.length_cons, List.length_nil, Nat.zero_add] at h1
  simp only [pullW] at h1
  simp -implicitDefEqProofs [c147, show G0 1 = some g1 from rfl, g1, h1, pullW]

theorem join_nil (l : List (List UInt8)) : Lib.join l [] = l.flatten := by
  induction l with
  | nil => rfl
  | cons x r ih =>
    cases r with
    | nil => simp [Lib.join]
    | cons y q =>
      simp only [Lib.join, List.intercalate] at ih ⊢
      rw [List.intersperse_cons_cons, List.flatten_cons, List.flatten_cons, ih]; simp

def headS (t : TowI) : List UInt8 := fS wallW [t.wall] ++ fS fricW [t.fl, t.fh] ++ fS brakeW [t.bl, t.bh]
def pullS (l : List Int) : List UInt8 := (l.map fun x => fS pullW [x]).flatten
def towS (t : TowI) : List UInt8 := headS t ++ pullS t.pull
theorem pullS_len (l : List Int) : (pullS l).length ≤ l.length * 27 := by
  induction l with
  | nil => simp [pullS]
  | cons x r ih =>
    have := len_one pullW x
    have hp : pullW.length = 4 := rfl
    simp only [pullS, List.map_cons, List.flatten_cons, List.length_append, List.length_cons] at ih ⊢
    omega
theorem pullS_append (a b : List Int) : pullS (a ++ b) = pullS a ++ pullS b := by simp [pullS]
theorem headS_len (t : TowI) : (headS t).length ≤ 130 := by
  have h1 := len_one wallW t.wall
  have h2 := len_two fricW t.fl t.fh
  have h3 := len_two brakeW t.bl t.bh
  have e1 : wallW.length = 4 := rfl
  have e2 : fricW.length = 8 := rfl
  have e3 : brakeW.length = 5 := rfl
  simp only [headS, List.length_append]
  omega

theorem print83 {n : Nat} (hn : 7 ≤ n) (t : TowI) (hl : t.pull.length < 1000000) : RUN n 83 [twa t] = .ret (.tup [sv (if towE t = 0 then towS t else []), iv (towE t)]) := by
  obtain ⟨d, rfl⟩ : ∃ d, n = d + 7 := ⟨n - 7, by omega⟩
  rw [RUN, call_eq fe83 _ rfl]
  have h0 := tow48 (n := d + 6) (by omega) t hl
  by_cases z0 : towE t = 0
  · rw [if_pos z0]
    have h := tow_of z0
    have hfew := h.few
    have hfr := h.fr
    have hbr := h.br
    have hwl := h.wl
    have l1 := line144 (n := d + 6) (by omega) wallW 1 [t.wall] (by decide) (by simp) (by simp) (by simp; omega) (by have := len_one wallW t.wall; have : wallW.length = 4 := rfl; omega)
    have l2 := line144 (n := d + 6) (by omega) fricW 2 [t.fl, t.fh] (by decide) (by simp) (by simp) (by simp; omega) (by have := len_two fricW t.fl t.fh; have : fricW.length = 8 := rfl; omega)
    have l3 := line144 (n := d + 6) (by omega) brakeW 2 [t.bl, t.bh] (by decide) (by simp) (by simp) (by simp; omega) (by have := len_two brakeW t.bl t.bh; have : brakeW.length = 5 := rfl; omega)
    simp only [isl, pI, List.map_cons, List.map_nil, List.length_cons, List.length_nil, Nat.zero_add, Nat.reduceAdd] at l1 l2 l3
    have m1 := map146 (d := d + 5) (f := 147) t.pull hl (fun x => fS pullW [x]) (fun x hx => pull147 (by omega) x (by have := h.pulls x hx; omega))
    have hj : Lib.join (t.pull.map fun x => fS pullW [x]) [] = pullS t.pull := join_nil _
    have hpl := pullS_len t.pull
    have m2 := join145 (n := d + 6) (t.pull.map fun x => fS pullW [x]) [] (by simp [lim]; omega) (by rw [hj]; simp only [lim]; omega)
    rw [hj] at m2
    simp only [List.length_map] at m2
    have hh := headS_len t
    have q1 : (fS wallW [t.wall]).length + (fS fricW [t.fl, t.fh]).length ≤ lim := by
      simp only [headS, List.length_append] at hh; simp only [lim]; omega
    have q2 : (fS wallW [t.wall]).length + (fS fricW [t.fl, t.fh]).length + (fS brakeW [t.bl, t.bh]).length ≤ lim := by
      simp only [headS, List.length_append] at hh; simp only [lim]; omega
    have q3 : (fS wallW [t.wall]).length + ((fS fricW [t.fl, t.fh]).length + (fS brakeW [t.bl, t.bh]).length) + (pullS t.pull).length ≤ lim := by
      simp only [headS, List.length_append] at hh; simp only [lim]; omega
    have q4 : (fS wallW [t.wall]).length + ((fS fricW [t.fl, t.fh]).length + ((fS brakeW [t.bl, t.bh]).length + (pullS t.pull).length)) ≤ lim := by
      simp only [headS, List.length_append] at hh; simp only [lim]; omega
    have q5 : (fS wallW [t.wall]).length + (fS fricW [t.fl, t.fh]).length + (fS brakeW [t.bl, t.bh]).length + (pullS t.pull).length ≤ lim := by
      simp only [headS, List.length_append] at hh; simp only [lim]; omega
    unfold towS headS
    generalize fS wallW [t.wall] = A at *
    generalize fS fricW [t.fl, t.fh] = B at *
    generalize fS brakeW [t.bl, t.bh] = D at *
    generalize pStr (t.pull.map fun x => fS pullW [x]) = P at *
    generalize pullS t.pull = Q at *
    simp only [wallW, fricW, brakeW] at l1 l2 l3
    simp -implicitDefEqProofs [c83, h0, z0, show G0 1 = some g1 from rfl, g1, l1, l2, l3, m1, m2, strBin, q1, q2, q3]
  · rw [if_neg z0]
    have hb : (towE t != 0) = true := by simpa using z0
    simp -implicitDefEqProofs [c83, h0, hb]

theorem print85 {n : Nat} (hn : 2 ≤ n) {t : TowI} (h : TowOk t) : RUN n 85 [twa t] = .ret (sv (towS t)) := by
  obtain ⟨d, rfl⟩ : ∃ d, n = d + 2 := ⟨n - 2, by omega⟩
  rw [RUN, call_eq fe85 _ rfl]
  have hfew := h.few
  have hfr := h.fr
  have hbr := h.br
  have hwl := h.wl
  let inv : Nat → St := fun i => ⟨[(1, .ptr 0 0 0), (3, sv (headS t ++ pullS (t.pull.take i))), (4, iv i)], [(0, .box (twl t))]⟩
  have htl : t.pull.take t.pull.length = t.pull := List.take_of_length_le (by omega)
  have hh := headS_len t
  have key : loopN (loopS (evFn F C0 G0 (d + 1)) C0 G0 0 false [1, 3, 4] c85L0) loopFuel ⟨[(1, .ptr 0 0 0), (3, sv (headS t)), (4, iv 0)], [(0, .box (twl t))]⟩ = .ret (.exit 0, ⟨[(1, .ptr 0 0 0), (3, sv (towS t)), (4, iv t.pull.length), (38, .p (.bool false))], [(0, .box (twl t))]⟩) := by
    refine loop_run' inv t.pull.length (by simp) (by simp [inv, pullS]) ?_ (by simp -implicitDefEqProofs [inv, loopS_eq, c85L0, htl, towS]) (by simp [loopFuel]; omega)
    intro i hi
    have hlt' : (i : Int) < t.pull.length := by omega
    have hgo : t.pull[i]? = some t.pull[i] := List.getElem?_eq_getElem hi
    have hp := h.pulls t.pull[i] (List.getElem_mem hi)
    have ht := text151 (n := d + 1) (by omega) t.pull[i] (by omega) (by omega)
    have hs : pullS (t.pull.take (i + 1)) = pullS (t.pull.take i) ++ (pullW ++ [32] ++ itoaS t.pull[i] ++ [10]) := by
      rw [← List.take_append_getElem hi, pullS_append]
      simp [pullS, fS_one]
    have hl1 := pullS_len (t.pull.take i)
    have hl2 : (t.pull.take i).length ≤ 64 := by simp; omega
    have hl3 := itoaS_length t.pull[i]
    have hi0 : inv i = ⟨[(1, .ptr 0 0 0), (3, sv (headS t ++ pullS (t.pull.take i))), (4, iv i)], [(0, .box (twl t))]⟩ := rfl
    have hi1 : inv (i + 1) = ⟨[(1, .ptr 0 0 0), (3, sv (headS t ++ pullS (t.pull.take (i + 1)))), (4, iv ((i + 1 : Nat) : Int))], [(0, .box (twl t))]⟩ := rfl
    rw [hi0, hi1, hs]
    have hA : (headS t ++ pullS (t.pull.take i)).length ≤ 10000 := by simp only [List.length_append]; omega
    rw [← List.append_assoc]
    generalize headS t ++ pullS (t.pull.take i) = A at *
    generalize itoaS t.pull[i] = B at *
    have q1 : A.length + 5 ≤ lim := by simp only [lim]; omega
    have q2 : A.length + 1 + 1 + 1 + 1 + 1 + B.length ≤ lim := by simp only [lim]; omega
    have q2' : A.length + 5 + B.length ≤ lim := by simp only [lim]; omega
    have q3 : A.length + (B.length + 1 + 1 + 1 + 1 + 1) + 1 ≤ lim := by simp only [lim]; omega
    have q3' : A.length + (B.length + 5) + 1 ≤ lim := by simp only [lim]; omega
    refine ⟨?_, ?h1, ?h2⟩
    case h1 =>
      simp -implicitDefEqProofs [loopS_eq, c85L0, hi, hlt', ht, strBin, q1, q2, q3, wrap_succ (i := i) (by omega)]
      exact rfl
    case h2 => simp [pullW]
  have t1 := text151 (n := d + 1) (by omega) t.wall (by omega) (by omega)
  have t2 := text151 (n := d + 1) (by omega) t.fl (by omega) (by omega)
  have t3 := text151 (n := d + 1) (by omega) t.fh (by omega) (by omega)
  have t4 := text151 (n := d + 1) (by omega) t.bl (by omega) (by omega)
  have t5 := text151 (n := d + 1) (by omega) t.bh (by omega) (by omega)
  have i1 := itoaS_length t.wall
  have i2 := itoaS_length t.fl
  have i3 := itoaS_length t.fh
  have i4 := itoaS_length t.bl
  have i5 := itoaS_length t.bh
  have hH : headS t = [119, 97, 108, 108, 32] ++ itoaS t.wall ++ [10, 102, 114, 105, 99, 116, 105, 111, 110, 32] ++ itoaS t.fl ++ [32] ++ itoaS t.fh ++ [10, 98, 114, 97, 107, 101, 32] ++ itoaS t.bl ++ [32] ++ itoaS t.bh ++ [10] := by
    simp [headS, fS_one, fS_two, wallW, fricW, brakeW]
  rw [hH] at key
  generalize itoaS t.wall = A1 at *
  generalize itoaS t.fl = A2 at *
  generalize itoaS t.fh = A3 at *
  generalize itoaS t.bl = A4 at *
  generalize itoaS t.bh = A5 at *
  simp only [List.append_assoc, List.cons_append, List.nil_append] at key
  clear hH hh
  simp -implicitDefEqProofs [c85, t1, strBin]
  repeat (rw [if_pos (by simp only [lim]; omega)]; simp -implicitDefEqProofs [t2, t3, t4, t5, strBin])
  rw [key]
  simp -implicitDefEqProofs
end Fw
