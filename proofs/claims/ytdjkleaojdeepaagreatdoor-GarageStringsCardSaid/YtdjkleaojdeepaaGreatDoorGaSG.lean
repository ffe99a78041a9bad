/- Several texts in one: each is told at its head. -/
import Derived.Test.YtdjkleaojdeepaaGreatDoorGaSE
import Derived.Test.YtdjkleaojdeepaaGreatDoorGaS6
import Derived.Test.YtdjkleaojdeepaaGreatDoorGaS5
section
/- A text of acts, read by the chapter. -/
set_option maxHeartbeats 16000000
set_option maxRecDepth 8000
namespace Fw
open Go
attribute [local irreducible] evCode evOps evOpsD evOper evOperD evOp evFn loopN T.All T.bind callPure callOp opsK opsDK restK seqK blockK loopS setK setQ giveK scalK gcK finish finS rfunK yldK yldB loopK

def parseL (h : HallI) (s : List UInt8) : List ActI × Int × Int :=
 if (goL (splitS 10 s) []).1 = true then
  (if actsE h (goL (splitS 10 s) []).2 ≠ 0 then ([], ((goL (splitS 10 s) []).2.length : Int), actsE h (goL (splitS 10 s) []).2)
   else if (runH h (goL (splitS 10 s) []).2).2 = true then ((goL (splitS 10 s) []).2, 0, 0) else ([], ((runH h (goL (splitS 10 s) []).2).1.length : Int), 21))
 else ([], ((goL (splitS 10 s) []).2.length : Int), 25)
def parP (h : HallI) (s : List UInt8) : AVal := if (parseL h s).2.2 = 0 then asl (parseL h s).1 else nilS

theorem parse64 {n : Nat} (hn : 14 ≤ n) (h : HallI) (q0 : h.t0.length < 1000000) (q1 : h.t1.length < 1000000) (q2 : h.t2.length < 1000000) (s : List UInt8) : RUN n 64 [ha h, sv s] = .ret (if hallE h ≠ 0 then .tup [nilS, iv 0, iv (hallE h)] else if 4096 < s.length then .tup [nilS, iv 0, iv 26] else .tup [parP h s, iv (parseL h s).2.1, iv (parseL h s).2.2]) := by
 obtain ⟨d, rfl⟩ : ∃ d, n = d + 14 := ⟨n - 14, by omega⟩
 rw [RUN, call_eq fe64 _ rfl]
 have k81 := hall81 (n := d + 13) (by omega) h q0 q1 q2
 have kw := when104 (n := d + 13) (by omega) (decide (4096 < s.length)) 26
 have k2 := first91_2 (n := d + 13) (by omega) (hallE h) (whenE (decide (4096 < s.length)) 26)
 have hd : decide ((4096 : Int) < s.length) = decide (4096 < s.length) := by
  by_cases h : 4096 < s.length
  ·have : (4096 : Int) < s.length := by omega
   simp [h, this]
  ·have : ¬ (4096 : Int) < s.length := by omega
   simp [h, this]
 unfold parP
 by_cases hz : hallE h = 0
 ·rw [if_neg (by simpa using hz)]
  by_cases h4n : 4096 < s.length
  ·rw [if_pos h4n]
   rw [hz, decide_eq_true h4n] at k2
   rw [decide_eq_true h4n] at kw hd
   rw [hz] at k81
   have ef : firstE [0, whenE true 26] = 26 := by decide
   rw [ef] at k2
   simp only [ha, csl] at *
   generalize cI h.t0 = A0 at *
   generalize cI h.t1 = A1 at *
   generalize cI h.t2 = A2 at *
   simp -implicitDefEqProofs [c64, k81, kw, k2, hd]
  ·rw [if_neg h4n]
   rw [hz, decide_eq_false h4n] at k2
   rw [decide_eq_false h4n] at kw hd
   rw [hz] at k81
   have ef : firstE [0, whenE false 26] = 0 := by decide
   rw [ef] at k2
   obtain ⟨e, env', r', key, he⟩ := lines_loop (d := d + 2) h s.length s [] lE loopFuel (Nat.le_refl _) (by omega) (by simp; omega) (by simp [loopFuel]; omega) rfl
   have f125 : ∀ S : Sto, nextId S = 6 → evFn F C0 G0 (d + 13) (.fn 125) [sv s] S = .ret (.clo 153 [] [.ptr 6 0 0], (6, .arr [.str s] 0 1) :: S) := fun S hS => by
    rw [evFn_fn fe125]
    simp -implicitDefEqProofs [c125, hS, -nextId]
   have hol : (goL (splitS 10 s) []).2.length < 50000 := by
    have h := goL_length (splitS 10 s) []
    rw [splitS_length] at h
    have h2 : s.count 10 ≤ s.length := List.count_le_length
    simp at h
    omega
   have hpd : parseL h s = if (goL (splitS 10 s) []).1 = true then
     (if actsE h (goL (splitS 10 s) []).2 ≠ 0 then ([], ((goL (splitS 10 s) []).2.length : Int), actsE h (goL (splitS 10 s) []).2)
      else if (runH h (goL (splitS 10 s) []).2).2 = true then ((goL (splitS 10 s) []).2, 0, 0) else ([], ((runH h (goL (splitS 10 s) []).2).1.length : Int), 21))
     else ([], ((goL (splitS 10 s) []).2.length : Int), 25) := rfl
   generalize hG : goL (splitS 10 s) [] = G at *
   obtain ⟨g1, g2⟩ := G
   simp only at key hol hpd
   have hr0 : rowC ac [] = [] := rfl
   have k86 := acts86 (n := d + 13) (by omega) h q0 q1 q2 g2 (by omega)
   have k88 := followed88 (n := d + 13) (by omega) h q0 q1 q2 g2 hol
   unfold folR at k88
   have hR := aR_len g2
   have f153 : evFn F C0 G0 (d + 13) (.fn 153) [.yld 7, .ptr 6 0 0] ((7, pLoop none 0) :: pS0 h [] 0 s) = .ret (.tup [], if g1 = true then (7, pLoop none 0) :: pS0 h g2 g2.length r' else (7, pLoop (some .ret) 2) :: pS9 h g2 g2.length r') := by
    rw [evFn_fn fe153]
    simp only [lE, pS0, List.length_nil, hr0] at key
    simp -implicitDefEqProofs [c153, pS0]
    rw [key]
    rcases he with rfl | rfl <;> simp -implicitDefEqProofs
   have f125 := f125 [(5, .box [.sl 4 0 0 0]), (4, .arr [] 0 6), (3, .arr [.int .i64 0] 0 1), (2, .arr [.int .i64 0] 0 1), (1, .box [.p .nils]), (0, .box (hc h))] rfl
   let E : Env := [(2, .ptr 0 0 0), (4, .ptr 1 0 0), (5, .ptr 2 0 0), (6, .ptr 3 0 0), (8, .ptr 5 0 0), (30, .clo 153 [] [.ptr 6 0 0])]
   have hrf : evCode (evFn F C0 G0 (d + 13)) C0 G0 0 (.rfun (.t 30) [31] c64A0 c64B0) ⟨E, pS0 h [] 0 s⟩ = .ret (if g1 = true then .normal else .ret, ⟨E, if g1 = true then pS0 h g2 g2.length r' else pS9 h g2 g2.length r'⟩) := by
    rw [ev_rfun]
    have h1 : callee (evOpd G0 E) (.val (.t 30)) = some (.fn 153, [], [.ptr 6 0 0]) := rfl
    have h2 : nextId (pS0 h [] 0 s) = 7 := rfl
    simp only [h1, h2, List.nil_append]
    have h3 : (7, Obj.loop E [31] c64A0 c64B0 none 0) :: pS0 h [] 0 s = (7, pLoop none 0) :: pS0 h [] 0 s := rfl
    rw [h3]
    have h4 : [AVal.yld 7] ++ [AVal.ptr 6 0 0] = [.yld 7, .ptr 6 0 0] := rfl
    rw [h4, f153, bind_ret]
    cases g1 with
    | true =>
     simp only [if_true]
     rw [rfunK_none (by rfl) (by decide)]
     simp -implicitDefEqProofs [E, pS0, show refsL (hc h) = [] from rfl]
    | false =>
     simp only [Bool.false_eq_true, if_false]
     rw [rfunK_ret (by rfl) (by decide)]
     simp -implicitDefEqProofs [E, pS9, show refsL (hc h) = [] from rfl]
   simp only [E, pS0, pS9, hr0] at hrf
   simp only [hc] at hrf f125
   obtain ⟨dr, bs, t0, t1, t2⟩ := h
   simp only [ha, csl, asl] at *
   generalize hA : rowC ac g2 = A at *
   cases g1 with
   | false =>
    generalize cI t0 = A0 at *
    generalize cI t1 = A1 at *
    generalize cI t2 = A2 at *
    simp -implicitDefEqProofs [c64, k81, kw, k2, hd, f125, hrf, hpd, -ev_rfun]
   | true =>
    generalize actsE ⟨dr, bs, t0, t1, t2⟩ g2 = eA at *
    generalize runH ⟨dr, bs, t0, t1, t2⟩ g2 = RH at *
    by_cases hs : eA = 0
    ·subst hs
     simp only [ne_eq, not_true, if_false] at k88 hpd
     cases hrr : RH.2 with
     | true =>
      rw [hrr] at k88
      simp only [hrr, if_true] at k88 hpd
      generalize cI t0 = A0 at *
      generalize cI t1 = A1 at *
      generalize cI t2 = A2 at *
      simp -implicitDefEqProofs [c64, k81, kw, k2, hd, f125, hrf, hpd, k86, k88, hR, hA, -ev_rfun]
     | false =>
      rw [hrr] at k88
      simp only [hrr, if_true, if_false, Bool.false_eq_true] at k88 hpd
      generalize cI t0 = A0 at *
      generalize cI t1 = A1 at *
      generalize cI t2 = A2 at *
      simp -implicitDefEqProofs [c64, k81, kw, k2, hd, f125, hrf, hpd, k86, k88, hR, -ev_rfun]
    ·rw [if_pos hs] at hpd
     generalize cI t0 = A0 at *
     generalize cI t1 = A1 at *
     generalize cI t2 = A2 at *
     simp -implicitDefEqProofs [c64, k81, kw, k2, hd, f125, hrf, hpd, k86, hs, hR, hide, hidI, hidT16, stOp, plain, -ev_rfun]
 ·rw [if_pos hz]
  have ef : firstE [hallE h, whenE (decide (4096 < s.length)) 26] = hallE h := by simp [firstE, hz]
  rw [ef] at k2
  simp only [ha, csl] at *
  generalize cI h.t0 = A0 at *
  generalize cI h.t1 = A1 at *
  generalize cI h.t2 = A2 at *
  generalize hallE h = eh at *
  simp -implicitDefEqProofs [c64, k81, kw, k2, hd, hz]
end Fw
end

section
/- A text of acts, read by the reference: the lines. -/
set_option maxHeartbeats 16000000
set_option maxRecDepth 8000
namespace Fw
open Go
attribute [local irreducible] evCode evOps evOpsD evOper evOperD evOp evFn loopN T.All T.bind callPure callOp opsK opsDK restK seqK blockK loopS setK setQ giveK scalK gcK finish finS rfunK yldK yldB loopK

def rS (H : HallI) (W : List (List UInt8)) (E : Nat) (out : List ActI) (i : Nat) : St := ⟨[(2, .ptr 0 0 0), (7, .p (.sl (pStr W) W.length)), (8, iv E), (9, .sl 1 out.length 0 out.length), (10, iv i)], [(1, .arr (rowC ac out) out.length 6), (0, .box (hc H))]⟩

theorem ref_round {d : Nat} (H : HallI) (W : List (List UInt8)) (E : Nat) (out : List ActI) (i : Nat) (hi : i < E) (hE : W.length = E + 1) (hW : W.length < 100000) (ho : out.length < 100000) (w : List UInt8) (hw : W[i]? = some w) (hl : w.length < 100000) :
  (∃ x st1, actW w = some x ∧ loopS (evFn F C0 G0 (d + 2)) C0 G0 0 true [2, 7, 8, 9, 10] c67L1 (rS H W E out i) = .ret (.normal, st1) ∧ loopS (evFn F C0 G0 (d + 2)) C0 G0 0 true [2, 7, 8, 9, 10] c67L1 st1 = loopS (evFn F C0 G0 (d + 2)) C0 G0 0 true [2, 7, 8, 9, 10] c67L1 (rS H W E (out ++ [x]) (i + 1))) ∨
  (actW w = none ∧ ∃ st, loopS (evFn F C0 G0 (d + 2)) C0 G0 0 true [2, 7, 8, 9, 10] c67L1 (rS H W E out i) = .ret (.ret, st) ∧ st.env = badE i) := by
 have hi0 : i < W.length := by omega
 have hgw : W[i] = w := by rw [List.getElem?_eq_getElem hi0] at hw; exact Option.some.inj hw
 have hdr := pStr_drop W i hi0
 rw [hgw] at hdr
 have hlt : (i : Int) < E := by omega
 have hsp : RUN (d + 2) 74 [sv w, .p (.int .u8 32)] = _ := splitR74 (n := d + 2) (by omega) w 32 (by omega)
 have hlim : out.length + 1 ≤ lim := by simp only [lim]; omega
 have hq : splitS 32 w ≠ [] := splitS_ne 32 w
 have hcount : (splitS 32 w).length < 100001 := by
  have := splitS_length 32 w
  have h2 : w.count 32 ≤ w.length := List.count_le_length
  omega
 have hpl : (pStr W).length = W.length := by simp
 have wi := wrap_succ (i := i) (by omega)
 unfold actW
 generalize splitS 32 w = ws at *
 obtain ⟨k, r, rfl⟩ : ∃ k r, ws = k :: r := by
  cases ws with
  | nil => exact absurd rfl hq
  | cons k r => exact ⟨k, r, rfl⟩
 rw [wordsA_ref]
 have k95 := kinds95 (n := d + 2) (by omega)
 have k71 := word71 (n := d + 2) (by omega) kindL k (by decide)
 have k96 := door96 (n := d + 2) (by omega) k
 have k97 := key97 (n := d + 2) (by omega) k
 have key := nums_loop (d := d + 1) H W E out i k r (by simp at hcount; omega)
 have hR := aR_len out
 have hsl : (pStr (k :: r)).length = r.length + 1 := by simp
 have hph : ∃ Q', pStr (k :: r) = .str k :: Q' := ⟨_, rfl⟩
 have hrl : refsL (hc H) = [] := rfl
 simp only [rS]
 by_cases hk : k ∈ kindL
 ·rw [decide_eq_true hk] at k71
  simp only [strL] at k95 k71
  generalize pStr kindL = QK at *
  generalize kindL.length = LK at *
  rcases key with ⟨hall, k1⟩ | ⟨hnot, st, k1, k2⟩
  ·obtain ⟨hk7, hcase⟩ := kinds3 hk
   simp only [nE, nS] at k1
   rcases hcase with ⟨hm, d1, d2⟩ | ⟨hm, ha, d1, d2⟩ | ⟨hm, ha, hd⟩
   ·have hmk : manyK k = 4 := by simp only [manyK, hm, if_true]
    have hkb : (k == [109, 101, 97, 115, 117, 114, 101]) = true := by rw [hm]; rfl
    rw [d1] at k96; rw [d2] at k97
    by_cases hlen : r.length = 4
    ·obtain ⟨t, a, b, c, rfl⟩ : ∃ t a b c, r = [t, a, b, c] := by
      match r, hlen with
      | [t, a, b, c], _ => exact ⟨t, a, b, c, rfl⟩
     have hact : (if k ∈ kindL ∧ (∀ x ∈ [t, a, b, c], digOk x = true) ∧ [t, a, b, c].length = manyK k then some (actOf k ([t, a, b, c].map digV)) else none) = some ⟨digV t, k, 0, digV a, digV b, digV c⟩ := by
      rw [if_pos ⟨hk, hall, hlen.trans hmk.symm⟩]
      simp [actOf, hmk]
     rw [hact]
     have hrx : rowC ac (out ++ [(⟨digV t, k, 0, digV a, digV b, digV c⟩ : ActI)]) = rowC ac out ++ ac ⟨digV t, k, 0, digV a, digV b, digV c⟩ := rowC_snoc ..
     have hlx : (out ++ [(⟨digV t, k, 0, digV a, digV b, digV c⟩ : ActI)]).length = out.length + 1 := by simp
     refine .inl ⟨⟨digV t, k, 0, digV a, digV b, digV c⟩, ?_⟩
     rw [hrx, hlx]
     have hph : pStr (k :: [t, a, b, c]) = .str k :: pStr [t, a, b, c] := rfl
     simp only [List.map_cons, List.map_nil, List.length_cons, List.length_nil, Nat.zero_add, Nat.reduceAdd, pI] at k1 hsl hsp
     rw [hph] at k1 hsp hsl
     generalize pStr [t, a, b, c] = Q' at *
     generalize digV t = vt at *
     generalize digV a = va at *
     generalize digV b = vb at *
     generalize digV c = vc at *
     generalize pStr W = Q2 at *
     generalize rowC ac out = A at *
     generalize hc H = HC at *
     refine ⟨?_, rfl, ?g1, ?g2⟩
     case g1 =>
      simp -implicitDefEqProofs [loopS_eq, c67L1, hrl, hi0, hlt, hdr, hpl, hsp, hsl, k95, k71, k96, k97, k1, hkb, strBin, hR, hlim, wi]
      exact rfl
     case g2 => exact loopS_same rfl (by simp [ac, hrl])
    ·have hne : ¬ (r.length : Int) = 4 := by omega
     refine .inr ⟨by rw [if_neg (fun h => hlen (h.2.2.trans hmk))], ?_⟩
     have hph : pStr (k :: r) = .str k :: pStr r := rfl
     simp only [List.length_cons, List.length_map] at k1 hsp
     rw [hph] at k1 hsp hsl
     generalize pStr r = Q' at *
     generalize pI (r.map digV) = Q3 at *
     generalize pStr W = Q2 at *
     generalize rowC ac out = A at *
     generalize hc H = HC at *
     refine ⟨?_, ?g1, ?g2⟩
     case g1 =>
      simp -implicitDefEqProofs [loopS_eq, c67L1, hrl, hi0, hlt, hdr, hpl, hsp, hsl, k95, k71, k96, k97, k1, hkb, strBin, hne]
      exact rfl
     case g2 => simp
   ·have hmk : manyK k = 1 := by simp only [manyK, hm, ha, if_true, if_false]
    have hkb : (k == [109, 101, 97, 115, 117, 114, 101]) = false := by simpa using hm
    rw [d1] at k96; rw [d2] at k97
    by_cases hlen : r.length = 1
    ·obtain ⟨t, rfl⟩ : ∃ t, r = [t] := by
      match r, hlen with
      | [t], _ => exact ⟨t, rfl⟩
     have hact : (if k ∈ kindL ∧ (∀ x ∈ [t], digOk x = true) ∧ [t].length = manyK k then some (actOf k ([t].map digV)) else none) = some ⟨digV t, k, 0, 0, 0, 0⟩ := by
      rw [if_pos ⟨hk, hall, hlen.trans hmk.symm⟩]
      simp [actOf, hmk]
     rw [hact]
     have hrx : rowC ac (out ++ [(⟨digV t, k, 0, 0, 0, 0⟩ : ActI)]) = rowC ac out ++ ac ⟨digV t, k, 0, 0, 0, 0⟩ := rowC_snoc ..
     have hlx : (out ++ [(⟨digV t, k, 0, 0, 0, 0⟩ : ActI)]).length = out.length + 1 := by simp
     refine .inl ⟨⟨digV t, k, 0, 0, 0, 0⟩, ?_⟩
     rw [hrx, hlx]
     have hph : pStr (k :: [t]) = .str k :: pStr [t] := rfl
     simp only [List.map_cons, List.map_nil, List.length_cons, List.length_nil, Nat.zero_add, Nat.reduceAdd, pI] at k1 hsl hsp
     rw [hph] at k1 hsp hsl
     generalize pStr [t] = Q' at *
     generalize digV t = vt at *
     generalize pStr W = Q2 at *
     generalize rowC ac out = A at *
     generalize hc H = HC at *
     refine ⟨?_, rfl, ?g1, ?g2⟩
     case g1 =>
      simp -implicitDefEqProofs [loopS_eq, c67L1, hrl, hi0, hlt, hdr, hpl, hsp, hsl, k95, k71, k96, k97, k1, hkb, strBin, hR, hlim, wi]
      exact rfl
     case g2 => exact loopS_same rfl (by simp [ac, hrl])
    ·have hne : ¬ (r.length : Int) = 1 := by omega
     refine .inr ⟨by rw [if_neg (fun h => hlen (h.2.2.trans hmk))], ?_⟩
     have hph : pStr (k :: r) = .str k :: pStr r := rfl
     simp only [List.length_cons, List.length_map] at k1 hsp
     rw [hph] at k1 hsp hsl
     generalize pStr r = Q' at *
     generalize pI (r.map digV) = Q3 at *
     generalize pStr W = Q2 at *
     generalize rowC ac out = A at *
     generalize hc H = HC at *
     refine ⟨?_, ?g1, ?g2⟩
     case g1 =>
      simp -implicitDefEqProofs [loopS_eq, c67L1, hrl, hi0, hlt, hdr, hpl, hsp, hsl, k95, k71, k96, k97, k1, hkb, strBin, hne]
      exact rfl
     case g2 => simp
   ·have hmk : manyK k = 2 := by simp only [manyK, hm, ha, if_false]
    have hkb : (k == [109, 101, 97, 115, 117, 114, 101]) = false := by simpa using hm
    
    by_cases hlen : r.length = 2
    ·obtain ⟨t, m, rfl⟩ : ∃ t m, r = [t, m] := by
      match r, hlen with
      | [t, m], _ => exact ⟨t, m, rfl⟩
     have hact : (if k ∈ kindL ∧ (∀ x ∈ [t, m], digOk x = true) ∧ [t, m].length = manyK k then some (actOf k ([t, m].map digV)) else none) = some ⟨digV t, k, digV m, 0, 0, 0⟩ := by
      rw [if_pos ⟨hk, hall, hlen.trans hmk.symm⟩]
      simp [actOf, hmk]
     rw [hact]
     have hrx : rowC ac (out ++ [(⟨digV t, k, digV m, 0, 0, 0⟩ : ActI)]) = rowC ac out ++ ac ⟨digV t, k, digV m, 0, 0, 0⟩ := rowC_snoc ..
     have hlx : (out ++ [(⟨digV t, k, digV m, 0, 0, 0⟩ : ActI)]).length = out.length + 1 := by simp
     refine .inl ⟨⟨digV t, k, digV m, 0, 0, 0⟩, ?_⟩
     rw [hrx, hlx]
     have hph : pStr (k :: [t, m]) = .str k :: pStr [t, m] := rfl
     simp only [List.map_cons, List.map_nil, List.length_cons, List.length_nil, Nat.zero_add, Nat.reduceAdd, pI] at k1 hsl hsp
     rw [hph] at k1 hsp hsl
     generalize pStr [t, m] = Q' at *
     generalize digV t = vt at *
     generalize digV m = vm at *
     generalize pStr W = Q2 at *
     generalize rowC ac out = A at *
     generalize hc H = HC at *
     rcases hd with hd | ⟨hd1, hd2⟩
     ·rw [hd] at k96
      refine ⟨?_, rfl, ?g1, ?g2⟩
      case g1 =>
       simp -implicitDefEqProofs [loopS_eq, c67L1, hrl, hi0, hlt, hdr, hpl, hsp, hsl, k95, k71, k96, k1, hkb, strBin, hR, hlim, wi]
       exact rfl
      case g2 => exact loopS_same rfl (by simp [ac, hrl])
     ·rw [hd1] at k96; rw [hd2] at k97
      refine ⟨?_, rfl, ?g1, ?g2⟩
      case g1 =>
       simp -implicitDefEqProofs [loopS_eq, c67L1, hrl, hi0, hlt, hdr, hpl, hsp, hsl, k95, k71, k96, k97, k1, hkb, strBin, hR, hlim, wi]
       exact rfl
      case g2 => exact loopS_same rfl (by simp [ac, hrl])
    ·have hne : ¬ (r.length : Int) = 2 := by omega
     refine .inr ⟨by rw [if_neg (fun h => hlen (h.2.2.trans hmk))], ?_⟩
     have hph : pStr (k :: r) = .str k :: pStr r := rfl
     simp only [List.length_cons, List.length_map] at k1 hsp
     rw [hph] at k1 hsp hsl
     generalize pStr r = Q' at *
     generalize pI (r.map digV) = Q3 at *
     generalize pStr W = Q2 at *
     generalize rowC ac out = A at *
     generalize hc H = HC at *
     rcases hd with hd | ⟨hd1, hd2⟩
     ·rw [hd] at k96
      refine ⟨?_, ?g1, ?g2⟩
      case g1 =>
       simp -implicitDefEqProofs [loopS_eq, c67L1, hrl, hi0, hlt, hdr, hpl, hsp, hsl, k95, k71, k96, k1, hkb, strBin, hne]
       exact rfl
      case g2 => simp
     ·rw [hd1] at k96; rw [hd2] at k97
      refine ⟨?_, ?g1, ?g2⟩
      case g1 =>
       simp -implicitDefEqProofs [loopS_eq, c67L1, hrl, hi0, hlt, hdr, hpl, hsp, hsl, k95, k71, k96, k97, k1, hkb, strBin, hne]
       exact rfl
      case g2 => simp
  ·refine .inr ⟨by rw [if_neg (fun h => hnot h.2.1)], st, ?_, k2⟩
   have hph : pStr (k :: r) = .str k :: pStr r := rfl
   simp only [List.length_cons] at k1 hsp
   rw [hph] at k1 hsp hsl
   generalize pStr r = Q' at *
   generalize pStr W = Q2 at *
   generalize rowC ac out = A at *
   generalize hc H = HC at *
   simp -implicitDefEqProofs [loopS_eq, c67L1, hrl, hi0, hlt, hdr, hpl, hsp, hsl, k95, k71, k1]
 ·rw [decide_eq_false hk] at k71
  simp only [strL] at k95 k71
  generalize pStr kindL = QK at *
  generalize kindL.length = LK at *
  refine .inr ⟨by rw [if_neg (fun h => hk h.1)], ?_⟩
  obtain ⟨Q', hQ'⟩ := hph
  generalize pStr (k :: r) = Q at *
  generalize pStr W = Q2 at *
  generalize rowC ac out = A at *
  generalize hc H = HC at *
  subst hQ'
  refine ⟨?_, ?g1, ?g2⟩
  case g1 =>
   simp -implicitDefEqProofs [loopS_eq, c67L1, hrl, hi0, hlt, hdr, hpl, hsp, k95, k71]
   exact rfl
  case g2 => simp
end Fw
end

section
/- Both parsers of acts say the same. -/
set_option maxHeartbeats 16000000
set_option maxRecDepth 8000
namespace Fw
open Go
attribute [local irreducible] evCode evOps evOpsD evOper evOperD evOp evFn loopN T.All T.bind callPure callOp opsK opsDK restK seqK blockK loopS setK setQ giveK scalK gcK finish finS rfunK yldK yldB loopK

theorem ref_end {d : Nat} (H : HallI) (W : List (List UInt8)) (E : Nat) (out : List ActI) : loopS (evFn F C0 G0 (d + 2)) C0 G0 0 true [2, 7, 8, 9, 10] c67L1 (rS H W E out E) = .ret (.exit 0, ⟨(rS H W E out E).env ++ [(31, .p (.bool false))], (rS H W E out E).sto⟩) := by
 simp -implicitDefEqProofs [rS, loopS_eq, c67L1, show refsL (hc H) = [] from rfl]

theorem ref_loop {d : Nat} (H : HallI) (W : List (List UInt8)) (E : Nat) (hE : W.length = E + 1) (hW : W.length < 50000) (hl : ∀ x ∈ W, x.length < 100000) (lst : List UInt8) (hlst : W[E]? = some lst) : ∀ (q : List (List UInt8)) (i : Nat) (out : List ActI) (fuel : Nat), W.drop i = q → q ≠ [] → out.length = i → q.length + 1 < fuel →
  (∃ o, loopN (loopS (evFn F C0 G0 (d + 2)) C0 G0 0 true [2, 7, 8, 9, 10] c67L1) fuel (rS H W E out i) = .ret (.exit 0, ⟨(rS H W E o E).env ++ [(31, .p (.bool false))], (rS H W E o E).sto⟩) ∧ goL q out = (decide (lst = []), o) ∧ o.length = E) ∨
  ∃ o st, loopN (loopS (evFn F C0 G0 (d + 2)) C0 G0 0 true [2, 7, 8, 9, 10] c67L1) fuel (rS H W E out i) = .ret (.ret, st) ∧ st.env = badE o.length ∧ goL q out = (false, o) := by
 intro q
 induction q with
 | nil => intro i out fuel _ h; exact absurd rfl h
 | cons w r ih =>
  intro i out fuel hd _ ho hf
  have hi : i < W.length := by
   rcases Nat.lt_or_ge i W.length with h | h
   ·exact h
   ·rw [List.drop_of_length_le h] at hd; cases hd
  rw [List.drop_eq_getElem_cons hi] at hd
  injection hd with h1 h2
  have hg : W[i]? = some w := by rw [List.getElem?_eq_getElem hi, h1]
  have hlen := congrArg List.length h2
  simp only [List.length_drop] at hlen
  simp only [List.length_cons] at hf
  cases r with
  | nil =>
   simp only [List.length_nil] at hlen
   have : i = E := by omega
   subst this
   rw [hg] at hlst
   cases hlst
   exact .inl ⟨out, loopN_end (ref_end H W i out) (by simp) (by omega), goL_one .., ho⟩
  | cons y q2 =>
   simp only [List.length_cons] at hlen
   have hr := ref_round (d := d) H W E out i (by omega) hE (by omega) (by omega) w hg (by rw [← h1]; exact hl _ (List.getElem_mem hi))
   rw [goL_more (by simp)]
   rcases hr with ⟨x, st1, hx, e1, e2⟩ | ⟨hx, st, e1, e2⟩
   ·rw [hx]
    rw [loopN_on' ⟨st1, e1, e2⟩ (by simp at hf; omega)]
    exact ih (i + 1) (out ++ [x]) (fuel - 1) h2 (by simp) (by simp [ho]) (by simp at hf ⊢; omega)
   ·rw [hx]
    refine .inr ⟨out, st, loopN_end e1 (by simp) (by omega), ?_, rfl⟩
    rw [e2, ho]

theorem parse67 {n : Nat} (hn : 10 ≤ n) (h : HallI) (q0 : h.t0.length < 1000000) (q1 : h.t1.length < 1000000) (q2 : h.t2.length < 1000000) (hz : hallE h = 0) (s : List UInt8) : RUN n 67 [ha h, sv s] = .ret (if 4096 < s.length then .tup [nilS, iv 0, iv 26] else .tup [parP h s, iv (parseL h s).2.1, iv (parseL h s).2.2]) := by
 obtain ⟨d, rfl⟩ : ∃ d, n = d + 10 := ⟨n - 10, by omega⟩
 rw [RUN, call_eq fe67 _ rfl]
 unfold parP
 by_cases h4 : (4096 : Int) < s.length
 ·have h4n : 4096 < s.length := by omega
  rw [if_pos h4n]
  simp only [ha, csl] at *
  generalize cI h.t0 = A0 at *
  generalize cI h.t1 = A1 at *
  generalize cI h.t2 = A2 at *
  simp -implicitDefEqProofs [c67, h4]
 ·have h4n : ¬ 4096 < s.length := by omega
  rw [if_neg h4n]
  have hsp : RUN (d + 9) 74 [sv s, .p (.int .u8 10)] = _ := splitR74 (n := d + 9) (by omega) s 10 (by omega)
  have hwl := splitS_length 10 s
  have hcl : s.count 10 ≤ s.length := List.count_le_length
  have hne := splitS_ne 10 s
  have hmem := splitS_small 10 s
  obtain ⟨E, hE⟩ : ∃ E, (splitS 10 s).length = E + 1 := ⟨s.count 10, hwl⟩
  have hlt : E < (splitS 10 s).length := by omega
  obtain ⟨lst, hlst⟩ : ∃ lst, (splitS 10 s)[E]? = some lst := ⟨_, List.getElem?_eq_getElem hlt⟩
  have key := ref_loop (d := d + 7) h (splitS 10 s) E hE (by omega) (fun x hx => by have := hmem x hx; omega) lst hlst (splitS 10 s) 0 [] loopFuel rfl hne rfl (by simp [loopFuel]; omega)
  have hpd : parseL h s = if (goL (splitS 10 s) []).1 = true then
     (if actsE h (goL (splitS 10 s) []).2 ≠ 0 then ([], ((goL (splitS 10 s) []).2.length : Int), actsE h (goL (splitS 10 s) []).2)
      else if (runH h (goL (splitS 10 s) []).2).2 = true then ((goL (splitS 10 s) []).2, 0, 0) else ([], ((runH h (goL (splitS 10 s) []).2).1.length : Int), 21))
     else ([], ((goL (splitS 10 s) []).2.length : Int), 25) := rfl
  have hol : (goL (splitS 10 s) []).2.length < 50000 := by
   have h := goL_length (splitS 10 s) []
   simp at h
   omega
  generalize goL (splitS 10 s) [] = G at *
  generalize splitS 10 s = W at *
  have hdr : (pStr W).drop E = .str lst :: (pStr W).drop (E + 1) := by
   have h := pStr_drop W E hlt
   have : W[E] = lst := by rw [List.getElem?_eq_getElem hlt] at hlst; exact Option.some.inj hlst
   rw [this] at h; exact h
  have hpl : (pStr W).length = E + 1 := by simp [hE]
  have hEE : (E : Int) < (E : Int) + 1 := by omega
  have w1 := wrap64 (n := (E : Int)) (by omega) (by omega)
  generalize hQ : pStr W = Q at *
  simp only [rS, List.length_nil, hE, hQ, Int.natCast_zero] at key
  have hr0 : rowC ac [] = [] := rfl
  simp only [hr0] at key
  have k22 := fun o (ho : o.length < 1000000) => acts22 (n := d + 9) (by omega) h q0 q1 q2 o ho
  have k76 := fun o R => run76 (n := d + 9) (by omega) h o R
  rcases key with ⟨o, k1, k2, k3⟩ | ⟨o, ⟨env, sto⟩, k1, k4, k2⟩
  ·subst k2
   subst k3
   simp only at hpd hol
   have k22 := k22 o (by omega)
   by_cases hzl : lst = []
   ·subst hzl
    simp only [decide_true, if_true] at hpd
    have hR := aR_len o
    by_cases hs : actsE h o = 0
    ·have R := run_ok q0 q1 q2 hol hs
     have k76 := k76 o R
     rw [hs] at k22
     simp only [hs, ne_eq, not_true, if_false] at hpd
     obtain ⟨dr, bs, t0, t1, t2⟩ := h
     simp only [ha, csl, asl, hc] at *
     generalize runH ⟨dr, bs, t0, t1, t2⟩ o = RH at *
     have hne2 : ((RH.1.length : Int) == -1) = false := by rw [beq_eq_false_iff_ne]; omega
     generalize hA : rowC ac o = A at *
     generalize cI t0 = A0 at *
     generalize cI t1 = A1 at *
     generalize cI t2 = A2 at *
     generalize rowC sc RH.1 = B at *
     cases hr : RH.2 with
     | true =>
      simp only [hr, if_true] at k76 hpd
      simp -implicitDefEqProofs [c67, h4, hsp, hE, w1]
      rw [k1]
      simp -implicitDefEqProofs [hpd, hEE, hpl, hdr, strBin, k22, k76, hR, hA]
     | false =>
      simp only [hr, if_false, Bool.false_eq_true] at k76 hpd
      simp -implicitDefEqProofs [c67, h4, hsp, hE, w1]
      rw [k1]
      simp -implicitDefEqProofs [hpd, hEE, hpl, hdr, strBin, k22, k76, hR]
    ·rw [if_pos hs] at hpd
     simp only [ha, csl, asl, hc] at *
     generalize cI h.t0 = A0 at *
     generalize cI h.t1 = A1 at *
     generalize cI h.t2 = A2 at *
     generalize actsE h o = eA at *
     generalize hA : rowC ac o = A at *
     simp -implicitDefEqProofs [c67, h4, hsp, hE, w1]
     rw [k1]
     simp -implicitDefEqProofs [hpd, hEE, hpl, hdr, strBin, k22, hs, hR]
   ·have hb : (lst == []) = false := by simpa using hzl
    simp only [hzl, decide_false, Bool.false_eq_true, if_false] at hpd
    simp only [ha, csl, asl, hc] at *
    generalize cI h.t0 = A0 at *
    generalize cI h.t1 = A1 at *
    generalize cI h.t2 = A2 at *
    simp -implicitDefEqProofs [c67, h4, hsp, hE, w1]
    rw [k1]
    simp -implicitDefEqProofs [hpd, hEE, hpl, hdr, strBin, hb]
  ·subst k2
   simp only at k4
   subst k4
   simp only [Bool.false_eq_true, if_false] at hpd
   simp only [ha, csl, asl, hc] at *
   generalize cI h.t0 = A0 at *
   generalize cI h.t1 = A1 at *
   generalize cI h.t2 = A2 at *
   simp -implicitDefEqProofs [c67, h4, hsp, hE, w1]
   rw [k1]
   simp -implicitDefEqProofs [hpd]
end Fw
end

