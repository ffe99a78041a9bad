/- A tow's text, read by the reference: one line. -/
import Derived.Test.YtfkacogfieiccaaGreatDoorBaS7
set_option maxHeartbeats 16000000
namespace Fw
open Go
attribute [local irreducible] evCode evOps evOpsD evOper evOperD evOp evFn loopN T.All T.bind callPure callOp opsK opsDK restK seqK blockK loopS setK setQ giveK scalK gcK finish finS rfunK yldK yldB loopK

def envR (ps : List (List UInt8)) (i : Int) : Env := [(2, .ptr 0 0 0), (5, .ptr 1 0 0), (6, .p (.sl (pStr ps) ps.length)), (7, tblW), (8, iv i)]
abbrev stp (d : Nat) : St → T (Ex × St) := loopS (evFn F C0 G0 (d + 1)) C0 G0 0 true [2, 5, 6, 7, 8] c86L1
abbrev retR (i : Int) : Env := [(2, .ptr 0 0 0), (3, iv i), (4, iv 25)]
theorem dvz_map {r : List (List UInt8)} (h : r.all digOk = true) : r.map dvz = r.map digV := by
  apply List.map_congr_left
  intro x hx
  simp only [dvz, List.all_eq_true.1 h x hx, if_true]

theorem round0 {d : Nat} (ps : List (List UInt8)) (i : Int) (w : List UInt8) (hi : i = 0) (hk : i + 1 < ps.length) (hps : ps.length < 90000) (hwl : w.length < 90000) (hg : ∀ q, (pStr ps)[i.toNat]'q = .str w) :
    (∀ x, rdP wallW 1 w = some x → ∃ st1, stp d ⟨envR ps i, [(1, (.box [.p .nils, iv 0, iv 0, iv 0, iv 0, iv 0])), (0, (.box [.p .nils, iv 0, iv 0, iv 0, iv 0, iv 0]))]⟩ = .ret (.normal, st1) ∧ stp d st1 = stp d ⟨envR ps (i + 1), [(1, .box [(.p .nils), iv 0, iv 0, iv 0, iv 0, iv (x.getD 0 0)]), (0, (.box [.p .nils, iv 0, iv 0, iv 0, iv 0, iv 0]))]⟩) ∧
    (rdP wallW 1 w = none → ∃ S, stp d ⟨envR ps i, [(1, (.box [.p .nils, iv 0, iv 0, iv 0, iv 0, iv 0])), (0, (.box [.p .nils, iv 0, iv 0, iv 0, iv 0, iv 0]))]⟩ = .ret (.ret, ⟨retR i, S⟩) ∧ get S 0 = some (.box [.p .nils, iv 0, iv 0, iv 0, iv 0, iv 0])) := by
  have f0 : (i = 0) = True := eq_true (by omega)
  have f1 : ¬ i = 1 := by omega
  have f2 : ¬ i = 2 := by omega
  have g0 : (i == 0) = true := by simp; omega
  have g1 : (i == 1) = false := by simp; omega
  have g2 : (i == 2) = false := by simp; omega
  have f3 : i < 3 := by omega
  have f4 : i.toNat = 0 := by omega
  have hsp : RUN (d + 1) 89 [sv w, .p (.int .u8 32)] = _ := splitR89 (n := d + 1) (by omega) w 32 (by omega)
  have hln := splitS_length 32 w
  have hcl : w.count 32 ≤ w.length := List.count_le_length
  have hpl : (pStr ps).length = ps.length := by simp
  have u0 : (0 : Int) ≤ i := by omega
  have u1 : i < ps.length := by omega
  have u2 := wrap64 (n := (ps.length : Int) - 1) (by omega) (by omega)
  have u3 : ¬ i = (ps.length : Int) - 1 := by omega
  have u4 := wrap64 (n := i + 1) (by omega) (by omega)
  have u5 : i.toNat < ps.length := by omega
  unfold rdP
  cases hs : splitS 32 w with
  | nil => exact absurd hs (splitS_ne 32 w)
  | cons w0 r =>
    rw [hs] at hsp hln
    simp only [List.length_cons] at hln
    have hrl : r.length < 90001 := by omega
    have hp : pStr (w0 :: r) = .str w0 :: pStr r := rfl
    rw [hp] at hsp
    simp only [List.length_cons] at hsp
    have u6 : (pStr r).length = r.length := by simp
    have keyT := words_loop (d := d) (.p (.sl (pStr ps) ps.length)) i w0 r true 2 [(1, (.box [.p .nils, iv 0, iv 0, iv 0, iv 0, iv 0])), (0, (.box [.p .nils, iv 0, iv 0, iv 0, iv 0, iv 0]))] (by omega)
    have keyF := words_loop (d := d) (.p (.sl (pStr ps) ps.length)) i w0 r false 2 [(1, (.box [.p .nils, iv 0, iv 0, iv 0, iv 0, iv 0])), (0, (.box [.p .nils, iv 0, iv 0, iv 0, iv 0, iv 0]))] (by omega)
    simp only [kE, tblW, hp, List.length_cons, Bool.true_and, Bool.false_and, List.cons_append, List.nil_append] at keyT keyF
    have hgk : ∀ q, (pStr ps)[i.toNat]'q = .str w := hg
    clear hg
    rw [f4] at hgk u5
    simp only [envR]
    generalize hPs : pStr ps = Q at *
    generalize hPr : pStr r = R at *
    by_cases c1 : r.length = 1
    · have v1 : (r.length : Int) = 1 := by omega
      by_cases c2 : w0 = wallW
      · subst c2
        have b1 : (wallW == wallW) = true := by simp
        by_cases c3 : r.all digOk = true
        · rw [if_pos ⟨rfl, c1, c3⟩]
          refine ⟨fun x hx => ?_, fun h => absurd h (by simp)⟩
          cases hx
          rw [dvz_map c3, c3] at keyT
          obtain ⟨x0, rfl⟩ : ∃ x0, r = [x0] := by
            match r, c1 with
            | [x0], _ => exact ⟨x0, rfl⟩
          simp only [List.length_cons, List.length_nil, Nat.zero_add, Nat.reduceAdd] at keyT hsp u6

          refine ⟨?_, ?h1, ?h2⟩
          case h1 =>
            simp -implicitDefEqProofs [tblW, loopS_eq, c86L1, strBin, hgk, hsp, hpl, u0, u1, u2, u3, u5, u6, g1, g2, f3, f4]
            rw [keyT]
            simp -implicitDefEqProofs [u4, g0]
            exact rfl
          case h2 => exact loopS_same rfl (by simp [tblW])
        · rw [if_neg (fun h => c3 h.2.2)]
          refine ⟨fun x hx => absurd hx (by simp), fun _ => ?_⟩
          rw [Bool.not_eq_true] at c3
          rw [c3] at keyT
          refine ⟨?_, ?h3, ?h4⟩
          case h3 =>
            simp -implicitDefEqProofs [tblW, loopS_eq, c86L1, strBin, hgk, hsp, hpl, u0, u1, u2, u3, u5, u6, g1, g2, f3, f4, v1]
            rw [keyT]
            simp -implicitDefEqProofs []
            exact rfl
          case h4 => rfl
      · have b1 : (w0 == wallW) = false := by simpa using c2
        rw [if_neg (fun h => c2 h.1)]
        refine ⟨fun x hx => absurd hx (by simp), fun _ => ?_⟩
        refine ⟨?_, ?h5, ?h6⟩
        case h5 =>
          simp -implicitDefEqProofs [tblW, loopS_eq, c86L1, strBin, hgk, hsp, hpl, u0, u1, u2, u3, u5, u6, g1, g2, f3, f4, v1, b1]
          rw [keyF]
          simp -implicitDefEqProofs []
          exact rfl
        case h6 => rfl
    · have v1 : ¬ (r.length : Int) = 1 := by omega
      have v2 : ((r.length : Int) + 1 == 2) = false := by simp; omega
      rw [if_neg (fun h => c1 h.2.1)]
      refine ⟨fun x hx => absurd hx (by simp), fun _ => ?_⟩
      refine ⟨?_, ?h7, ?h8⟩
      case h7 =>
        simp -implicitDefEqProofs [tblW, loopS_eq, c86L1, hgk, hsp, hpl, u0, u1, u2, u3, u5, g1, g2, f3, f4, v2]
        rw [keyF]
        simp -implicitDefEqProofs []
        exact rfl
      case h8 => rfl

theorem round1 {d : Nat} (ps : List (List UInt8)) (a : Int) (i : Int) (w : List UInt8) (hi : i = 1) (hk : i + 1 < ps.length) (hps : ps.length < 90000) (hwl : w.length < 90000) (hg : ∀ q, (pStr ps)[i.toNat]'q = .str w) :
    (∀ x, rdP fricW 2 w = some x → ∃ st1, stp d ⟨envR ps i, [(1, .box [(.p .nils), iv 0, iv 0, iv 0, iv 0, iv a]), (0, (.box [.p .nils, iv 0, iv 0, iv 0, iv 0, iv 0]))]⟩ = .ret (.normal, st1) ∧ stp d st1 = stp d ⟨envR ps (i + 1), [(1, .box [(.p .nils), iv (x.getD 0 0), iv (x.getD 1 0), iv 0, iv 0, iv a]), (0, (.box [.p .nils, iv 0, iv 0, iv 0, iv 0, iv 0]))]⟩) ∧
    (rdP fricW 2 w = none → ∃ S, stp d ⟨envR ps i, [(1, .box [(.p .nils), iv 0, iv 0, iv 0, iv 0, iv a]), (0, (.box [.p .nils, iv 0, iv 0, iv 0, iv 0, iv 0]))]⟩ = .ret (.ret, ⟨retR i, S⟩) ∧ get S 0 = some (.box [.p .nils, iv 0, iv 0, iv 0, iv 0, iv 0])) := by
  have f0 : ¬ i = 0 := by omega
  have f1 : (i = 1) = True := eq_true (by omega)
  have f2 : ¬ i = 2 := by omega
  have g0 : (i == 0) = false := by simp; omega
  have g1 : (i == 1) = true := by simp; omega
  have g2 : (i == 2) = false := by simp; omega
  have f3 : i < 3 := by omega
  have f4 : i.toNat = 1 := by omega
  have hsp : RUN (d + 1) 89 [sv w, .p (.int .u8 32)] = _ := splitR89 (n := d + 1) (by omega) w 32 (by omega)
  have hln := splitS_length 32 w
  have hcl : w.count 32 ≤ w.length := List.count_le_length
  have hpl : (pStr ps).length = ps.length := by simp
  have u0 : (0 : Int) ≤ i := by omega
  have u1 : i < ps.length := by omega
  have u2 := wrap64 (n := (ps.length : Int) - 1) (by omega) (by omega)
  have u3 : ¬ i = (ps.length : Int) - 1 := by omega
  have u4 := wrap64 (n := i + 1) (by omega) (by omega)
  have u5 : i.toNat < ps.length := by omega
  unfold rdP
  cases hs : splitS 32 w with
  | nil => exact absurd hs (splitS_ne 32 w)
  | cons w0 r =>
    rw [hs] at hsp hln
    simp only [List.length_cons] at hln
    have hrl : r.length < 90001 := by omega
    have hp : pStr (w0 :: r) = .str w0 :: pStr r := rfl
    rw [hp] at hsp
    simp only [List.length_cons] at hsp
    have u6 : (pStr r).length = r.length := by simp
    have keyT := words_loop (d := d) (.p (.sl (pStr ps) ps.length)) i w0 r true 2 [(1, .box [(.p .nils), iv 0, iv 0, iv 0, iv 0, iv a]), (0, (.box [.p .nils, iv 0, iv 0, iv 0, iv 0, iv 0]))] (by omega)
    have keyF := words_loop (d := d) (.p (.sl (pStr ps) ps.length)) i w0 r false 2 [(1, .box [(.p .nils), iv 0, iv 0, iv 0, iv 0, iv a]), (0, (.box [.p .nils, iv 0, iv 0, iv 0, iv 0, iv 0]))] (by omega)
    simp only [kE, tblW, hp, List.length_cons, Bool.true_and, Bool.false_and, List.cons_append, List.nil_append] at keyT keyF
    have hgk : ∀ q, (pStr ps)[i.toNat]'q = .str w := hg
    clear hg
    rw [f4] at hgk u5
    simp only [envR]
    generalize hPs : pStr ps = Q at *
    generalize hPr : pStr r = R at *
    by_cases c1 : r.length = 2
    · have v1 : (r.length : Int) = 2 := by omega
      by_cases c2 : w0 = fricW
      · subst c2
        have b1 : (fricW == fricW) = true := by simp
        by_cases c3 : r.all digOk = true
        · rw [if_pos ⟨rfl, c1, c3⟩]
          refine ⟨fun x hx => ?_, fun h => absurd h (by simp)⟩
          cases hx
          rw [dvz_map c3, c3] at keyT
          obtain ⟨x0, x1, rfl⟩ : ∃ x0 x1, r = [x0, x1] := by
            match r, c1 with
            | [x0, x1], _ => exact ⟨x0, x1, rfl⟩
          simp only [List.length_cons, List.length_nil, Nat.zero_add, Nat.reduceAdd] at keyT hsp u6

          refine ⟨?_, ?h1, ?h2⟩
          case h1 =>
            simp -implicitDefEqProofs [tblW, loopS_eq, c86L1, strBin, hgk, hsp, hpl, u0, u1, u2, u3, u5, u6, g1, f3, f4]
            rw [keyT]
            simp -implicitDefEqProofs [u4, g0, g1]
            exact rfl
          case h2 => exact loopS_same rfl (by simp [tblW])
        · rw [if_neg (fun h => c3 h.2.2)]
          refine ⟨fun x hx => absurd hx (by simp), fun _ => ?_⟩
          rw [Bool.not_eq_true] at c3
          rw [c3] at keyT
          refine ⟨?_, ?h3, ?h4⟩
          case h3 =>
            simp -implicitDefEqProofs [tblW, loopS_eq, c86L1, strBin, hgk, hsp, hpl, u0, u1, u2, u3, u5, u6, g1, f3, f4, v1]
            rw [keyT]
            simp -implicitDefEqProofs []
            exact rfl
          case h4 => rfl
      · have b1 : (w0 == fricW) = false := by simpa using c2
        rw [if_neg (fun h => c2 h.1)]
        refine ⟨fun x hx => absurd hx (by simp), fun _ => ?_⟩
        refine ⟨?_, ?h5, ?h6⟩
        case h5 =>
          simp -implicitDefEqProofs [tblW, loopS_eq, c86L1, strBin, hgk, hsp, hpl, u0, u1, u2, u3, u5, u6, g1, f3, f4, v1, b1]
          rw [keyF]
          simp -implicitDefEqProofs []
          exact rfl
        case h6 => rfl
    · have v1 : ¬ (r.length : Int) = 2 := by omega
      have v2 : ((r.length : Int) + 1 == 3) = false := by simp; omega
      rw [if_neg (fun h => c1 h.2.1)]
      refine ⟨fun x hx => absurd hx (by simp), fun _ => ?_⟩
      refine ⟨?_, ?h7, ?h8⟩
      case h7 =>
        simp -implicitDefEqProofs [tblW, loopS_eq, c86L1, hgk, hsp, hpl, u0, u1, u2, u3, u5, g1, f3, f4, v2]
        rw [keyF]
        simp -implicitDefEqProofs []
        exact rfl
      case h8 => rfl

theorem round2 {d : Nat} (ps : List (List UInt8)) (a b c : Int) (i : Int) (w : List UInt8) (hi : i = 2) (hk : i + 1 < ps.length) (hps : ps.length < 90000) (hwl : w.length < 90000) (hg : ∀ q, (pStr ps)[i.toNat]'q = .str w) :
    (∀ x, rdP brakeW 2 w = some x → ∃ st1, stp d ⟨envR ps i, [(1, .box [(.p .nils), iv b, iv c, iv 0, iv 0, iv a]), (0, (.box [.p .nils, iv 0, iv 0, iv 0, iv 0, iv 0]))]⟩ = .ret (.normal, st1) ∧ stp d st1 = stp d ⟨envR ps (i + 1), [(1, .box [(.p .nils), iv b, iv c, iv (x.getD 0 0), iv (x.getD 1 0), iv a]), (0, (.box [.p .nils, iv 0, iv 0, iv 0, iv 0, iv 0]))]⟩) ∧
    (rdP brakeW 2 w = none → ∃ S, stp d ⟨envR ps i, [(1, .box [(.p .nils), iv b, iv c, iv 0, iv 0, iv a]), (0, (.box [.p .nils, iv 0, iv 0, iv 0, iv 0, iv 0]))]⟩ = .ret (.ret, ⟨retR i, S⟩) ∧ get S 0 = some (.box [.p .nils, iv 0, iv 0, iv 0, iv 0, iv 0])) := by
  have f0 : ¬ i = 0 := by omega
  have f1 : ¬ i = 1 := by omega
  have f2 : (i = 2) = True := eq_true (by omega)
  have g0 : (i == 0) = false := by simp; omega
  have g1 : (i == 1) = false := by simp; omega
  have g2 : (i == 2) = true := by simp; omega
  have f3 : i < 3 := by omega
  have f4 : i.toNat = 2 := by omega
  have hsp : RUN (d + 1) 89 [sv w, .p (.int .u8 32)] = _ := splitR89 (n := d + 1) (by omega) w 32 (by omega)
  have hln := splitS_length 32 w
  have hcl : w.count 32 ≤ w.length := List.count_le_length
  have hpl : (pStr ps).length = ps.length := by simp
  have u0 : (0 : Int) ≤ i := by omega
  have u1 : i < ps.length := by omega
  have u2 := wrap64 (n := (ps.length : Int) - 1) (by omega) (by omega)
  have u3 : ¬ i = (ps.length : Int) - 1 := by omega
  have u4 := wrap64 (n := i + 1) (by omega) (by omega)
  have u5 : i.toNat < ps.length := by omega
  unfold rdP
  cases hs : splitS 32 w with
  | nil => exact absurd hs (splitS_ne 32 w)
  | cons w0 r =>
    rw [hs] at hsp hln
    simp only [List.length_cons] at hln
    have hrl : r.length < 90001 := by omega
    have hp : pStr (w0 :: r) = .str w0 :: pStr r := rfl
    rw [hp] at hsp
    simp only [List.length_cons] at hsp
    have u6 : (pStr r).length = r.length := by simp
    have keyT := words_loop (d := d) (.p (.sl (pStr ps) ps.length)) i w0 r true 2 [(1, .box [(.p .nils), iv b, iv c, iv 0, iv 0, iv a]), (0, (.box [.p .nils, iv 0, iv 0, iv 0, iv 0, iv 0]))] (by omega)
    have keyF := words_loop (d := d) (.p (.sl (pStr ps) ps.length)) i w0 r false 2 [(1, .box [(.p .nils), iv b, iv c, iv 0, iv 0, iv a]), (0, (.box [.p .nils, iv 0, iv 0, iv 0, iv 0, iv 0]))] (by omega)
    simp only [kE, tblW, hp, List.length_cons, Bool.true_and, Bool.false_and, List.cons_append, List.nil_append] at keyT keyF
    have hgk : ∀ q, (pStr ps)[i.toNat]'q = .str w := hg
    clear hg
    rw [f4] at hgk u5
    simp only [envR]
    generalize hPs : pStr ps = Q at *
    generalize hPr : pStr r = R at *
    by_cases c1 : r.length = 2
    · have v1 : (r.length : Int) = 2 := by omega
      by_cases c2 : w0 = brakeW
      · subst c2
        have b1 : (brakeW == brakeW) = true := by simp
        by_cases c3 : r.all digOk = true
        · rw [if_pos ⟨rfl, c1, c3⟩]
          refine ⟨fun x hx => ?_, fun h => absurd h (by simp)⟩
          cases hx
          rw [dvz_map c3, c3] at keyT
          obtain ⟨x0, x1, rfl⟩ : ∃ x0 x1, r = [x0, x1] := by
            match r, c1 with
            | [x0, x1], _ => exact ⟨x0, x1, rfl⟩
          simp only [List.length_cons, List.length_nil, Nat.zero_add, Nat.reduceAdd] at keyT hsp u6

          refine ⟨?_, ?h1, ?h2⟩
          case h1 =>
            simp -implicitDefEqProofs [tblW, loopS_eq, c86L1, strBin, hgk, hsp, hpl, u0, u1, u2, u3, u5, u6, g1, g2, f3, f4]
            rw [keyT]
            simp -implicitDefEqProofs [u4, g0, g1, g2]
            exact rfl
          case h2 => exact loopS_same rfl (by simp [tblW])
        · rw [if_neg (fun h => c3 h.2.2)]
          refine ⟨fun x hx => absurd hx (by simp), fun _ => ?_⟩
          rw [Bool.not_eq_true] at c3
          rw [c3] at keyT
          refine ⟨?_, ?h3, ?h4⟩
          case h3 =>
            simp -implicitDefEqProofs [tblW, loopS_eq, c86L1, strBin, hgk, hsp, hpl, u0, u1, u2, u3, u5, u6, g1, g2, f3, f4, v1]
            rw [keyT]
            simp -implicitDefEqProofs []
            exact rfl
          case h4 => rfl
      · have b1 : (w0 == brakeW) = false := by simpa using c2
        rw [if_neg (fun h => c2 h.1)]
        refine ⟨fun x hx => absurd hx (by simp), fun _ => ?_⟩
        refine ⟨?_, ?h5, ?h6⟩
        case h5 =>
          simp -implicitDefEqProofs [tblW, loopS_eq, c86L1, strBin, hgk, hsp, hpl, u0, u1, u2, u3, u5, u6, g1, g2, f3, f4, v1, b1]
          rw [keyF]
          simp -implicitDefEqProofs []
          exact rfl
        case h6 => rfl
    · have v1 : ¬ (r.length : Int) = 2 := by omega
      have v2 : ((r.length : Int) + 1 == 3) = false := by simp; omega
      rw [if_neg (fun h => c1 h.2.1)]
      refine ⟨fun x hx => absurd hx (by simp), fun _ => ?_⟩
      refine ⟨?_, ?h7, ?h8⟩
      case h7 =>
        simp -implicitDefEqProofs [tblW, loopS_eq, c86L1, hgk, hsp, hpl, u0, u1, u2, u3, u5, g1, g2, f3, f4, v2]
        rw [keyF]
        simp -implicitDefEqProofs []
        exact rfl
      case h8 => rfl

theorem round3 {d : Nat} (ps : List (List UInt8)) (a b c e f : Int) (i : Int) (w : List UInt8) (hi : i = 3) (hk : i + 1 < ps.length) (hps : ps.length < 90000) (hwl : w.length < 90000) (hg : ∀ q, (pStr ps)[i.toNat]'q = .str w) :
    (∀ x, rdP pullW 1 w = some x → ∃ st1, stp d ⟨envR ps i, [(1, .box [(.p .nils), iv b, iv c, iv e, iv f, iv a]), (0, (.box [.p .nils, iv 0, iv 0, iv 0, iv 0, iv 0]))]⟩ = .ret (.normal, st1) ∧ stp d st1 = stp d ⟨envR ps (i + 1), [(3, .arr [.int .i64 (x.getD 0 0)] 0 1), (1, .box [(.sl 3 0 0 1), iv b, iv c, iv e, iv f, iv a]), (0, (.box [.p .nils, iv 0, iv 0, iv 0, iv 0, iv 0]))]⟩) ∧
    (rdP pullW 1 w = none → ∃ S, stp d ⟨envR ps i, [(1, .box [(.p .nils), iv b, iv c, iv e, iv f, iv a]), (0, (.box [.p .nils, iv 0, iv 0, iv 0, iv 0, iv 0]))]⟩ = .ret (.ret, ⟨retR i, S⟩) ∧ get S 0 = some (.box [.p .nils, iv 0, iv 0, iv 0, iv 0, iv 0])) := by
  have f0 : ¬ i = 0 := by omega
  have f1 : ¬ i = 1 := by omega
  have f2 : ¬ i = 2 := by omega
  have g0 : (i == 0) = false := by simp; omega
  have g1 : (i == 1) = false := by simp; omega
  have g2 : (i == 2) = false := by simp; omega
  have f3 : ¬ i < 3 := by omega
  have hsp : RUN (d + 1) 89 [sv w, .p (.int .u8 32)] = _ := splitR89 (n := d + 1) (by omega) w 32 (by omega)
  have hln := splitS_length 32 w
  have hcl : w.count 32 ≤ w.length := List.count_le_length
  have hpl : (pStr ps).length = ps.length := by simp
  have u0 : (0 : Int) ≤ i := by omega
  have u1 : i < ps.length := by omega
  have u2 := wrap64 (n := (ps.length : Int) - 1) (by omega) (by omega)
  have u3 : ¬ i = (ps.length : Int) - 1 := by omega
  have u4 := wrap64 (n := i + 1) (by omega) (by omega)
  have u5 : i.toNat < ps.length := by omega
  unfold rdP
  cases hs : splitS 32 w with
  | nil => exact absurd hs (splitS_ne 32 w)
  | cons w0 r =>
    rw [hs] at hsp hln
    simp only [List.length_cons] at hln
    have hrl : r.length < 90001 := by omega
    have hp : pStr (w0 :: r) = .str w0 :: pStr r := rfl
    rw [hp] at hsp
    simp only [List.length_cons] at hsp
    have u6 : (pStr r).length = r.length := by simp
    have keyT := words_loop (d := d) (.p (.sl (pStr ps) ps.length)) i w0 r true 2 [(1, .box [(.p .nils), iv b, iv c, iv e, iv f, iv a]), (0, (.box [.p .nils, iv 0, iv 0, iv 0, iv 0, iv 0]))] (by omega)
    have keyF := words_loop (d := d) (.p (.sl (pStr ps) ps.length)) i w0 r false 2 [(1, .box [(.p .nils), iv b, iv c, iv e, iv f, iv a]), (0, (.box [.p .nils, iv 0, iv 0, iv 0, iv 0, iv 0]))] (by omega)
    simp only [kE, tblW, hp, List.length_cons, Bool.true_and, Bool.false_and, List.cons_append, List.nil_append] at keyT keyF
    have hgk : ∀ q, (pStr ps)[i.toNat]'q = .str w := hg
    clear hg
    simp only [envR]
    generalize hPs : pStr ps = Q at *
    generalize hPr : pStr r = R at *
    by_cases c1 : r.length = 1
    · have v1 : (r.length : Int) = 1 := by omega
      by_cases c2 : w0 = pullW
      · subst c2
        have b1 : (([112, 117, 108, 108] : List UInt8) == ([112, 117, 108, 108] : List UInt8)) = true := by simp
        unfold pullW at keyT hsp
        by_cases c3 : r.all digOk = true
        · rw [if_pos ⟨rfl, c1, c3⟩]
          refine ⟨fun x hx => ?_, fun h => absurd h (by simp)⟩
          cases hx
          rw [dvz_map c3, c3] at keyT
          obtain ⟨x0, rfl⟩ : ∃ x0, r = [x0] := by
            match r, c1 with
            | [x0], _ => exact ⟨x0, rfl⟩
          simp only [List.length_cons, List.length_nil, Nat.zero_add, Nat.reduceAdd] at keyT hsp u6

          refine ⟨?_, ?h1, ?h2⟩
          case h1 =>
            simp -implicitDefEqProofs [tblW, loopS_eq, c86L1, strBin, hgk, hsp, hpl, u0, u1, u2, u3, u5, u6, g1, g2, f3]
            rw [keyT]
            simp -implicitDefEqProofs [u4, g0, g1, g2]
            exact rfl
          case h2 => exact loopS_same rfl (by simp [tblW])
        · rw [if_neg (fun h => c3 h.2.2)]
          refine ⟨fun x hx => absurd hx (by simp), fun _ => ?_⟩
          rw [Bool.not_eq_true] at c3
          rw [c3] at keyT
          refine ⟨?_, ?h3, ?h4⟩
          case h3 =>
            simp -implicitDefEqProofs [tblW, loopS_eq, c86L1, strBin, hgk, hsp, hpl, u0, u1, u2, u3, u5, u6, g1, g2, f3, v1]
            rw [keyT]
            simp -implicitDefEqProofs []
            exact rfl
          case h4 => rfl
      · have b1 : (w0 == ([112, 117, 108, 108] : List UInt8)) = false := by simpa [pullW] using c2
        rw [if_neg (fun h => c2 h.1)]
        refine ⟨fun x hx => absurd hx (by simp), fun _ => ?_⟩
        refine ⟨?_, ?h5, ?h6⟩
        case h5 =>
          simp -implicitDefEqProofs [tblW, loopS_eq, c86L1, strBin, hgk, hsp, hpl, u0, u1, u2, u3, u5, u6, g1, g2, f3, v1, b1]
          rw [keyF]
          simp -implicitDefEqProofs []
          exact rfl
        case h6 => rfl
    · have v1 : ¬ (r.length : Int) = 1 := by omega
      have v2 : ((r.length : Int) + 1 == 2) = false := by simp; omega
      rw [if_neg (fun h => c1 h.2.1)]
      refine ⟨fun x hx => absurd hx (by simp), fun _ => ?_⟩
      refine ⟨?_, ?h7, ?h8⟩
      case h7 =>
        simp -implicitDefEqProofs [tblW, loopS_eq, c86L1, hgk, hsp, hpl, u0, u1, u2, u3, u5, g1, g2, f3, v2]
        rw [keyF]
        simp -implicitDefEqProofs []
        exact rfl
      case h8 => rfl

theorem round4 {d : Nat} (ps : List (List UInt8)) (a b c e f : Int) (q : Nat) (L : List PVal) (hL : L.length = q + 1) (hq : q < 90000) (i : Int) (w : List UInt8) (hi : 3 < i) (hk : i + 1 < ps.length) (hps : ps.length < 90000) (hwl : w.length < 90000) (hg : ∀ q, (pStr ps)[i.toNat]'q = .str w) :
    (∀ x, rdP pullW 1 w = some x → ∃ st1, stp d ⟨envR ps i, [(3, .arr L q 1), (1, .box [(.sl 3 q 0 (q + 1)), iv b, iv c, iv e, iv f, iv a]), (0, (.box [.p .nils, iv 0, iv 0, iv 0, iv 0, iv 0]))]⟩ = .ret (.normal, st1) ∧ stp d st1 = stp d ⟨envR ps (i + 1), [(3, .arr (L ++ [.int .i64 (x.getD 0 0)]) (q + 1) 1), (1, .box [(.sl 3 (q + 1) 0 (q + 2)), iv b, iv c, iv e, iv f, iv a]), (0, (.box [.p .nils, iv 0, iv 0, iv 0, iv 0, iv 0]))]⟩) ∧
    (rdP pullW 1 w = none → ∃ S, stp d ⟨envR ps i, [(3, .arr L q 1), (1, .box [(.sl 3 q 0 (q + 1)), iv b, iv c, iv e, iv f, iv a]), (0, (.box [.p .nils, iv 0, iv 0, iv 0, iv 0, iv 0]))]⟩ = .ret (.ret, ⟨retR i, S⟩) ∧ get S 0 = some (.box [.p .nils, iv 0, iv 0, iv 0, iv 0, iv 0])) := by
  have f0 : ¬ i = 0 := by omega
  have f1 : ¬ i = 1 := by omega
  have f2 : ¬ i = 2 := by omega
  have g0 : (i == 0) = false := by simp; omega
  have g1 : (i == 1) = false := by simp; omega
  have g2 : (i == 2) = false := by simp; omega
  have f3 : ¬ i < 3 := by omega
  have hsp : RUN (d + 1) 89 [sv w, .p (.int .u8 32)] = _ := splitR89 (n := d + 1) (by omega) w 32 (by omega)
  have hln := splitS_length 32 w
  have hcl : w.count 32 ≤ w.length := List.count_le_length
  have hpl : (pStr ps).length = ps.length := by simp
  have u0 : (0 : Int) ≤ i := by omega
  have u1 : i < ps.length := by omega
  have u2 := wrap64 (n := (ps.length : Int) - 1) (by omega) (by omega)
  have u3 : ¬ i = (ps.length : Int) - 1 := by omega
  have u4 := wrap64 (n := i + 1) (by omega) (by omega)
  have u5 : i.toNat < ps.length := by omega
  unfold rdP
  cases hs : splitS 32 w with
  | nil => exact absurd hs (splitS_ne 32 w)
  | cons w0 r =>
    rw [hs] at hsp hln
    simp only [List.length_cons] at hln
    have hrl : r.length < 90001 := by omega
    have hp : pStr (w0 :: r) = .str w0 :: pStr r := rfl
    rw [hp] at hsp
    simp only [List.length_cons] at hsp
    have u6 : (pStr r).length = r.length := by simp
    have keyT := words_loop (d := d) (.p (.sl (pStr ps) ps.length)) i w0 r true 4 [(3, .arr L q 1), (1, .box [(.sl 3 q 0 (q + 1)), iv b, iv c, iv e, iv f, iv a]), (0, (.box [.p .nils, iv 0, iv 0, iv 0, iv 0, iv 0]))] (by omega)
    have keyF := words_loop (d := d) (.p (.sl (pStr ps) ps.length)) i w0 r false 4 [(3, .arr L q 1), (1, .box [(.sl 3 q 0 (q + 1)), iv b, iv c, iv e, iv f, iv a]), (0, (.box [.p .nils, iv 0, iv 0, iv 0, iv 0, iv 0]))] (by omega)
    simp only [kE, tblW, hp, List.length_cons, Bool.true_and, Bool.false_and, List.cons_append, List.nil_append] at keyT keyF
    have hgk : ∀ q, (pStr ps)[i.toNat]'q = .str w := hg
    clear hg
    simp only [envR]
    generalize hPs : pStr ps = Q at *
    generalize hPr : pStr r = R at *
    by_cases c1 : r.length = 1
    · have v1 : (r.length : Int) = 1 := by omega
      by_cases c2 : w0 = pullW
      · subst c2
        have b1 : (([112, 117, 108, 108] : List UInt8) == ([112, 117, 108, 108] : List UInt8)) = true := by simp
        unfold pullW at keyT hsp
        by_cases c3 : r.all digOk = true
        · rw [if_pos ⟨rfl, c1, c3⟩]
          refine ⟨fun x hx => ?_, fun h => absurd h (by simp)⟩
          cases hx
          rw [dvz_map c3, c3] at keyT
          obtain ⟨x0, rfl⟩ : ∃ x0, r = [x0] := by
            match r, c1 with
            | [x0], _ => exact ⟨x0, rfl⟩
          simp only [List.length_cons, List.length_nil, Nat.zero_add, Nat.reduceAdd] at keyT hsp u6
          have hlim : q + 2 ≤ lim := by simp only [lim]; omega

          refine ⟨?_, ?h1, ?h2⟩
          case h1 =>
            simp -implicitDefEqProofs [tblW, loopS_eq, c86L1, strBin, hgk, hsp, hpl, u0, u1, u2, u3, u5, u6, g1, g2, f3]
            rw [keyT]
            simp -implicitDefEqProofs [u4, g0, g1, g2, hL, hlim]
            exact rfl
          case h2 => exact loopS_same rfl (by simp [tblW])
        · rw [if_neg (fun h => c3 h.2.2)]
          refine ⟨fun x hx => absurd hx (by simp), fun _ => ?_⟩
          rw [Bool.not_eq_true] at c3
          rw [c3] at keyT
          refine ⟨?_, ?h3, ?h4⟩
          case h3 =>
            simp -implicitDefEqProofs [tblW, loopS_eq, c86L1, strBin, hgk, hsp, hpl, u0, u1, u2, u3, u5, u6, g1, g2, f3, v1]
            rw [keyT]
            simp -implicitDefEqProofs []
            exact rfl
          case h4 => rfl
      · have b1 : (w0 == ([112, 117, 108, 108] : List UInt8)) = false := by simpa [pullW] using c2
        rw [if_neg (fun h => c2 h.1)]
        refine ⟨fun x hx => absurd hx (by simp), fun _ => ?_⟩
        refine ⟨?_, ?h5, ?h6⟩
        case h5 =>
          simp -implicitDefEqProofs [tblW, loopS_eq, c86L1, strBin, hgk, hsp, hpl, u0, u1, u2, u3, u5, u6, g1, g2, f3, v1, b1]
          rw [keyF]
          simp -implicitDefEqProofs []
          exact rfl
        case h6 => rfl
    · have v1 : ¬ (r.length : Int) = 1 := by omega
      have v2 : ((r.length : Int) + 1 == 2) = false := by simp; omega
      rw [if_neg (fun h => c1 h.2.1)]
      refine ⟨fun x hx => absurd hx (by simp), fun _ => ?_⟩
      refine ⟨?_, ?h7, ?h8⟩
      case h7 =>
        simp -implicitDefEqProofs [tblW, loopS_eq, c86L1, hgk, hsp, hpl, u0, u1, u2, u3, u5, g1, g2, f3, v2]
        rw [keyF]
        simp -implicitDefEqProofs []
        exact rfl
      case h8 => rfl
end Fw
