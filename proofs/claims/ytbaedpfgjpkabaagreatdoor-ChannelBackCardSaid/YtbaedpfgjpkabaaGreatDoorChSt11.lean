/- Several texts in one: each is told at its head. -/
import Derived.Test.YtbaedpfgjpkabaaGreatDoorChSt7
import Derived.Test.YtbaedpfgjpkabaaGreatDoorChKs
import Derived.Test.YtbaedpfgjpkabaaGreatDoorFwC
section
/- Words taken from a line: as they are, and as numbers. -/
set_option maxHeartbeats 8000000
namespace Fw
open Go
attribute [local irreducible] evCode evOps evOpsD evOper evOperD evOp evFn loopN T.All T.bind callPure callOp opsK opsDK restK seqK blockK loopS setK setQ giveK scalK gcK finish finS rfunK yldK yldB loopK

/-- the words that are left; none: all are given up -/
def tkP : Option (List (List UInt8)) → PVal
  | none => .nils
  | some ws => .sl (pStr ws) ws.length
abbrev tkO (T : Option (List (List UInt8))) (w : Bool) : Obj := .box [.p (tkP T), .p (.bool w)]
/-- the next word -/
def wordK (T : Option (List (List UInt8))) (w : Bool) : List UInt8 × Option (List (List UInt8)) × Bool := match T with
  | some (x :: r) => if x = [] then ([], none, true) else (x, some r, w)
  | _ => ([], none, true)

theorem wordK_nil (T : Option (List (List UInt8))) (w : Bool) (h : (wordK T w).1 = []) : (wordK T w).2.2 = true := by
  match T, h with
  | none, _ => rfl
  | some [], _ => rfl
  | some (x :: r), h =>
    by_cases hx : x = []
    · simp [wordK, hx]
    · simp [wordK, hx] at h
theorem wordK_len (T : Option (List (List UInt8))) (w : Bool) (hT : ∀ ws, T = some ws → ∀ x ∈ ws, x.length < 1000000) : (wordK T w).1.length < 1000000 ∧ ∀ ws, (wordK T w).2.1 = some ws → ∀ x ∈ ws, x.length < 1000000 := by
  match T, hT with
  | none, _ => simp [wordK]
  | some [], _ => simp [wordK]
  | some (x :: r), hT =>
    have h := hT (x :: r) rfl
    by_cases hx : x = []
    · simp [wordK, hx]
    · simp only [wordK, if_neg hx]
      refine ⟨h x (by simp), ?_⟩
      rintro ws e y hy
      cases e
      exact h y (by simp [hy])

theorem word168 {d : Nat} (T : Option (List (List UInt8))) (w : Bool) (k : Nat) (Z R : Sto) (hZ : ∀ o, get (Z ++ (k, o) :: R) k = some o) (hP : ∀ o o', put (Z ++ (k, o) :: R) k o' = Z ++ (k, o') :: R) :
    evFn F C0 G0 (d + 1) (.fn 168) [.ptr k 0 0] (Z ++ (k, tkO T w) :: R) = .ret (sv (wordK T w).1, Z ++ (k, tkO (wordK T w).2.1 (wordK T w).2.2) :: R) := by
  rw [evFn_fn fe168]
  match T with
  | none => simp -implicitDefEqProofs [c168, hZ, hP, wordK, tkP]
  | some [] => simp -implicitDefEqProofs [c168, hZ, hP, wordK, tkP]
  | some ([] :: r) =>
    have hp : pStr ([] :: r) = .str [] :: pStr r := rfl
    have b1 : ((r.length : Int) + 1 == 0) = false := by rw [beq_eq_false_iff_ne]; omega
    simp -implicitDefEqProofs [c168, hZ, hP, wordK, tkP, hp, b1, strBin]
  | some ((b :: q) :: r) =>
    have hp : pStr ((b :: q) :: r) = .str (b :: q) :: pStr r := rfl
    have b1 : ((r.length : Int) + 1 == 0) = false := by rw [beq_eq_false_iff_ne]; omega
    have b2 : (1 : Int) ≤ (r.length : Int) + 1 := by omega
    have htl : (pStr r).take r.length = pStr r := List.take_of_length_le (by simp)
    simp -implicitDefEqProofs [c168, hZ, hP, wordK, tkP, hp, b1, b2, htl, strBin]

abbrev nEnd (v : Int) : Env := [(0, .ptr 7 0 0), (4, iv v), (32, .it 9), (33, .tup [.p (.bool false)]), (34, .p (.bool false))]
theorem number_loop {d : Nat} (T : Option (List (List UInt8))) (b : Bool) (x : List UInt8) (X : Obj) (R : Sto) (hx : x.length < 1000000) (hb : b = false → x.length ≤ 9) :
    ∃ v j env', loopN (loopS (evFn F C0 G0 (d + 1)) C0 G0 9 false [0, 4, 32] c169L0) loopFuel ⟨[(0, .ptr 7 0 0), (4, iv 0), (32, .it 9)], (9, .siter x 0) :: (8, X) :: (7, tkO T b) :: R⟩ = .ret (.exit 0, ⟨env', (9, .siter x j) :: (8, X) :: (7, tkO T (b || !x.all digB)) :: R⟩) ∧ (env' = nEnd v ∨ env' = [(4, iv v)]) ∧ (b = false → x.all digB = true → v = digV x) := by
  cases b with
  | true =>
    cases x with
    | nil =>
      refine ⟨0, 0, nEnd 0, ?_, .inl rfl, fun h => by cases h⟩
      refine loopN_end ?_ (by simp) (by simp [loopFuel])
      simp -implicitDefEqProofs [loopS_eq, c169L0]
    | cons c q =>
      generalize hl : c :: q = l
      have hpos : 0 < l.length := by rw [← hl]; simp
      refine ⟨0, 0 + (Utf8.decode ⟨l.toArray⟩ 0).2, [(4, iv 0)], ?_, .inr rfl, fun h => by cases h⟩
      refine loopN_end ?_ (by simp) (by simp [loopFuel])
      generalize hdq : Utf8.decode ⟨l.toArray⟩ 0 = dc
      simp -implicitDefEqProofs [loopS_eq, c169L0, hpos, hdq]
  | false =>
    have h9 := hb rfl
    let inv : Nat → St := fun i => ⟨[(0, .ptr 7 0 0), (4, iv (valW x i)), (32, .it 9)], (9, .siter x i) :: (8, X) :: (7, tkO T false) :: R⟩
    have key := loop_first (step := loopS (evFn F C0 G0 (d + 1)) C0 G0 9 false [0, 4, 32] c169L0) inv (digE x) x.length (.exit 0, ⟨nEnd (valW x x.length), (9, .siter x x.length) :: (8, X) :: (7, tkO T false) :: R⟩) (fun i => (.exit 0, ⟨[(4, iv (valW x i))], (9, .siter x (i + (Utf8.decode ⟨x.toArray⟩ i).2)) :: (8, X) :: (7, tkO T true) :: R⟩))
          (st0 := ⟨[(0, .ptr 7 0 0), (4, iv 0), (32, .it 9)], (9, .siter x 0) :: (8, X) :: (7, tkO T false) :: R⟩) rfl (fun i hi => by
            have hgi : x.getD i 0 = x[i] := by simp [List.getD_eq_getElem?_getD, List.getElem?_eq_getElem hi]
            refine ⟨fun hz => ⟨inv (i + 1), ?_, rfl⟩, fun hz => ?_⟩
            · obtain ⟨b1, b2⟩ := digE_zero hi hz
              have hdc := decode_lo x i hi (by omega)
              have c1 : ¬ (x[i].toNat : Int) < 48 := by omega
              have c2 : ¬ (57 : Int) < x[i].toNat := by omega
              have w8 : IntKind.i32.wrap ((x[i].toNat : Int) - 48) = (x[i].toNat : Int) - 48 := by rw [IntKind.wrap_i32]; omega
              have w6 : IntKind.i64.wrap ((x[i].toNat : Int) - 48) = (x[i].toNat : Int) - 48 := wrap64 (by omega) (by omega)
              have hv : valW x (i + 1) = IntKind.i64.wrap (IntKind.i64.wrap (10 * valW x i) + ((x[i].toNat : Int) - 48)) := by simp only [valW, hgi]
              simp -implicitDefEqProofs [inv, loopS_eq, c169L0, hi, hdc, c1, c2, w8, w6, hv]
            · by_cases ha : x[i].toNat < 128
              · have hdc := decode_lo x i hi ha
                rcases digE_one hi hz with b | b
                · have c1 : (x[i].toNat : Int) < 48 := by omega
                  simp -implicitDefEqProofs [inv, loopS_eq, c169L0, hi, hdc, c1]
                · have c1 : ¬ (x[i].toNat : Int) < 48 := by omega
                  have c2 : (57 : Int) < x[i].toNat := by omega
                  simp -implicitDefEqProofs [inv, loopS_eq, c169L0, hi, hdc, c1, c2]
              · have hdc := decode_hi x i hi (by omega)
                generalize hdq : Utf8.decode ⟨x.toArray⟩ i = dc at *
                have c1 : ¬ (dc.1 : Int) < 48 := by omega
                have c2 : (57 : Int) < dc.1 := by omega
                simp -implicitDefEqProofs [inv, loopS_eq, c169L0, hi, hdq, c1, c2]) (fun i => by simp) (by simp -implicitDefEqProofs [inv, loopS_eq, c169L0]) (by simp) (fuel := loopFuel) (by simp [loopFuel]; omega)
    rcases key with ⟨k1, k2⟩ | ⟨j, hj, k1, k2, k3, _⟩
    · have hall := digE_all k2
      have hvw := valW_eq hall h9 x.length (Nat.le_refl _)
      refine ⟨valW x x.length, x.length, nEnd (valW x x.length), ?_, .inl rfl, fun _ _ => hvw⟩
      rw [k1, hall]; rfl
    · have hall := digE_not hj k3
      refine ⟨valW x j, j + (Utf8.decode ⟨x.toArray⟩ j).2, [(4, iv (valW x j))], ?_, .inr rfl, fun _ h => by rw [hall] at h; cases h⟩
      rw [k1, hall]; rfl

/-- what is wrong before a word's bytes are looked at -/
def preB (x : List UInt8) (w : Bool) : Bool := w || decide (9 < x.length) || (decide (1 < x.length) && x.getD 0 0 == 48)
theorem preB_dig (x : List UInt8) (w : Bool) (h : x = [] → w = true) : (preB x w || !x.all digB) = (w || !digOk x) := by
  cases w with
  | true => simp [preB]
  | false =>
    have h0 : x ≠ [] := fun e => by cases h e
    have hpos : 0 < x.length := List.length_pos_iff.2 h0
    simp only [preB, digOk, leadB, Bool.false_or, h0, ne_eq, not_false_eq_true, decide_true, Bool.true_and]
    generalize x.getD 0 0 = v
    generalize x.all digB = z
    by_cases h9 : 9 < x.length
    · have : ¬ x.length ≤ 9 := by omega
      simp [h9, this]
    · have h9' : x.length ≤ 9 := by omega
      by_cases h1 : 1 < x.length
      · have h1' : ¬ x.length = 1 := by omega
        by_cases h48 : v = 48 <;> cases z <;> simp [h9, h9', h1, h1', h48, bne]
      · have h1' : x.length = 1 := by omega
        cases z <;> simp [h1']

theorem number169 {d : Nat} (T : Option (List (List UInt8))) (w : Bool) (hT : ∀ ws, T = some ws → ∀ x ∈ ws, x.length < 1000000) (X : Obj) (R : Sto) (hR : R.all (fun x => decide (x.1 < 9)) = true) :
    ∃ v j, evFn F C0 G0 (d + 2) (.fn 169) [.ptr 7 0 0] ((8, X) :: (7, tkO T w) :: R) = .ret (iv v, (9, .siter (wordK T w).1 j) :: (8, X) :: (7, tkO (wordK T w).2.1 ((wordK T w).2.2 || !digOk (wordK T w).1)) :: R) ∧ (((wordK T w).2.2 || !digOk (wordK T w).1) = false → v = digV (wordK T w).1) := by
  have h1 := word168 (d := d) T w 7 [(8, X)] R (by simp) (by simp)
  simp only [List.cons_append, List.nil_append] at h1
  have hx0 := wordK_nil T w
  obtain ⟨hxl, _⟩ := wordK_len T w hT
  generalize wordK T w = K at *
  obtain ⟨x, T', w'⟩ := K
  simp only at h1 hx0 hxl
  rw [evFn_fn fe169]
  have hpd := preB_dig x w' hx0
  obtain ⟨v, j, env', k1, k2, k3⟩ := number_loop (d := d) T' (preB x w') x X R hxl (fun h => by simp only [preB, Bool.or_eq_false_iff, decide_eq_false_iff_not] at h; omega)
  rw [hpd] at k1
  simp only
  refine ⟨v, j, ?_, fun h => ?_⟩
  · have hg : ∀ (a : AVal), refs a = [] → gc 9 [(0, a)] ((8, X) :: (7, tkO T' w') :: R) = (8, X) :: (7, tkO T' w') :: R := fun a _ => gc_all (by simp [hR])
    have hg1 := hg (sv x) (by simp)
    cases w' with
    | true =>
      have hpb : preB x true = true := by simp [preB]
      rw [hpb] at k1
      simp -implicitDefEqProofs [c169, h1, hg1, -gc]
      rw [k1]
      rcases k2 with rfl | rfl <;> simp -implicitDefEqProofs
    | false =>
      have h0 : x ≠ [] := fun e => by cases hx0 e
      have hpos : 0 < x.length := List.length_pos_iff.2 h0
      have hg0 : x[0]? = some x[0] := List.getElem?_eq_getElem hpos
      have hgd : x.getD 0 0 = x[0] := by simp [List.getD_eq_getElem?_getD, hg0]
      by_cases h9 : 9 < x.length
      · have h9' : (9 : Int) < x.length := by omega
        have hpb : preB x false = true := by simp [preB, h9]
        rw [hpb] at k1
        simp -implicitDefEqProofs [c169, h1, hg1, h9', -gc]
        rw [k1]
        rcases k2 with rfl | rfl <;> simp -implicitDefEqProofs
      · have h9' : ¬ (9 : Int) < x.length := by omega
        by_cases hl1 : 1 < x.length
        · have hl1' : (1 : Int) < x.length := by omega
          by_cases h48 : x[0] = 48
          · have hpb : preB x false = true := by
              simp only [preB, hgd, h48]; simp [hl1]
            rw [hpb] at k1
            have h48' : ((x[0].toNat : Int) == 48) = true := by rw [h48]; rfl
            simp -implicitDefEqProofs [c169, h1, hg1, h9', hl1', h48', hpos, -gc]
            rw [k1]
            rcases k2 with rfl | rfl <;> simp -implicitDefEqProofs
          · have hpb : preB x false = false := by
              simp only [preB, hgd]; simp [h9, h48]
            rw [hpb] at k1
            have h48' : ((x[0].toNat : Int) == 48) = false := by
              rw [beq_eq_false_iff_ne]
              intro e
              apply h48
              apply UInt8.toNat_inj.1
              have : x[0].toNat = 48 := by omega
              simpa using this
            simp -implicitDefEqProofs [c169, h1, hg1, h9', hl1', h48', hpos, -gc]
            rw [k1]
            rcases k2 with rfl | rfl <;> simp -implicitDefEqProofs
        · have hl1' : ¬ (1 : Int) < x.length := by omega
          have hpb : preB x false = false := by simp [preB, h9, hl1]
          rw [hpb] at k1
          simp -implicitDefEqProofs [c169, h1, hg1, h9', hl1', -gc]
          rw [k1]
          rcases k2 with rfl | rfl <;> simp -implicitDefEqProofs
  · rw [← hpd] at h
    simp only [Bool.or_eq_false_iff, Bool.not_eq_false'] at h
    exact k3 h.1 h.2
end Fw
end

section
/- A line of a text of sensors, read by the chapter. -/
set_option maxHeartbeats 8000000
namespace Fw
open Go
attribute [local irreducible] evCode evOps evOpsD evOper evOperD evOp evFn loopN T.All T.bind callPure callOp opsK opsDK restK seqK blockK loopS setK setQ giveK scalK gcK finish finS rfunK yldK yldB loopK

def senW : List UInt8 := [115, 101, 110, 115, 111, 114]
/-- one line: the sensor that it says -/
def lineP (w : List UInt8) : Option SenI := match splitS 32 w with
  | [w0, w1, w2, w3, w4] => if w0 = senW ∧ w1 ≠ [] ∧ digOk w2 = true ∧ digOk w3 = true ∧ digOk w4 = true then some ⟨w1, digV w2, digV w3, digV w4⟩ else none
  | _ => none

theorem lineP_inv {w : List UInt8} {x : SenI} (h : lineP w = some x) : ∃ w1 w2 w3 w4, splitS 32 w = [senW, w1, w2, w3, w4] ∧ w1 ≠ [] ∧ digOk w2 = true ∧ digOk w3 = true ∧ digOk w4 = true ∧ x = ⟨w1, digV w2, digV w3, digV w4⟩ := by
  unfold lineP at h
  split at h
  · rename_i w0 w1 w2 w3 w4 e
    split at h
    · rename_i hc
      cases h
      exact ⟨w1, w2, w3, w4, by rw [e, hc.1], hc.2.1, hc.2.2.1, hc.2.2.2.1, hc.2.2.2.2, rfl⟩
    · cases h
  · cases h

/-- the next word, as a number: what is left -/
def numK (K : Option (List (List UInt8)) × Bool) : Option (List (List UInt8)) × Bool := ((wordK K.1 K.2).2.1, (wordK K.1 K.2).2.2 || !digOk (wordK K.1 K.2).1)
/-- what is left of the words of a line -/
def leftK (ws : List (List UInt8)) : Option (List (List UInt8)) × Bool := numK (numK (numK (wordK (wordK (some ws) false).2.1 (wordK (some ws) false).2.2).2))

theorem wordK_wrong (T : Option (List (List UInt8))) (w : Bool) (h : (wordK T w).2.2 = false) : ∃ x r, T = some (x :: r) ∧ x ≠ [] ∧ w = false ∧ wordK T w = (x, some r, false) := by
  match T, h with
  | none, h => simp [wordK] at h
  | some [], h => simp [wordK] at h
  | some (x :: r), h =>
    by_cases hx : x = []
    · simp [wordK, hx] at h
    · simp only [wordK, if_neg hx] at h ⊢
      subst h
      exact ⟨x, r, rfl, hx, rfl, rfl⟩
theorem numK_wrong (K : Option (List (List UInt8)) × Bool) (h : (numK K).2 = false) : ∃ x r, K = (some (x :: r), false) ∧ digOk x = true ∧ numK K = (some r, false) := by
  obtain ⟨T, w⟩ := K
  simp only [numK, Bool.or_eq_false_iff, Bool.not_eq_false'] at h
  obtain ⟨x, r, e1, e2, e3, e4⟩ := wordK_wrong T w h.1
  rw [e4] at h
  refine ⟨x, r, by rw [e1, e3], h.2, ?_⟩
  simp only [numK, e4, h.2]; rfl

/-- a line that is right, by what the chapter leaves of it -/
theorem lineP_left {w : List UInt8} (h1 : (wordK (some (splitS 32 w)) false).1 = senW) (h2 : leftK (splitS 32 w) = (some [], false)) : (lineP w).isSome = true := by
  unfold lineP
  generalize splitS 32 w = ws at *
  have n3 : (leftK ws).2 = false := by rw [h2]
  obtain ⟨x4, r4, e4, d4, f4⟩ := numK_wrong _ n3
  rw [leftK] at h2
  rw [h2] at f4
  have : r4 = [] := by simpa using f4.symm
  subst this
  have n2 := congrArg Prod.snd e4
  obtain ⟨x3, r3, e3, d3, f3⟩ := numK_wrong _ n2
  rw [f3] at e4
  have : r3 = [x4] := by simpa using e4
  subst this
  have n1 := congrArg Prod.snd e3
  obtain ⟨x2, r2, e2, d2, f2⟩ := numK_wrong _ n1
  rw [f2] at e3
  have : r2 = [x3, x4] := by simpa using e3
  subst this
  have n0 := congrArg Prod.snd e2
  obtain ⟨x1, r1, e1, d1, g1, f1⟩ := wordK_wrong _ _ n0
  rw [f1] at e2
  have : r1 = [x2, x3, x4] := by simpa using e2
  subst this
  obtain ⟨x0, r0, e0, d0, _, f0⟩ := wordK_wrong _ _ g1
  rw [f0] at e1 h1
  have : r0 = [x1, x2, x3, x4] := by simpa using e1
  subst this
  have : ws = [x0, x1, x2, x3, x4] := by simpa using e0
  subst this
  simp only at h1
  simp [h1, d1, d2, d3, d4]

/-- the loop over the lines, and the store while they are read: the results, the sensors so far, the rest of the text -/
def pLoop (j : Option ACode) (e : Nat) : Obj := .loop [(2, .ptr 0 0 0), (3, .ptr 1 0 0), (4, .ptr 2 0 0), (5, .ptr 4 0 0), (19, .clo 195 [] [.ptr 5 0 0])] [20] c94A0 c94B0 j e
theorem refs_pLoop (j : Option ACode) (e : Nat) : refsO (pLoop j e) = [0, 1, 2, 4, 5] := by simp [pLoop]
theorem pLoop_fold (j : Option ACode) (e : Nat) : Obj.loop [(2, .ptr 0 0 0), (3, .ptr 1 0 0), (4, .ptr 2 0 0), (5, .ptr 4 0 0), (19, .clo 195 [] [.ptr 5 0 0])] [20] c94A0 c94B0 j e = pLoop j e := rfl
def pS0 (out : List SenI) (n : Nat) (rest : List UInt8) : Sto := [(5, .arr [.str rest] 0 1), (4, .box [.sl 3 n 0 n]), (3, .arr (rowC sc out) n 4), (2, .arr [.int .i64 0] 0 1), (1, .arr [.int .i64 0] 0 1), (0, .box [.p .nils])]
def pS9 (out : List SenI) (n : Nat) (rest : List UInt8) : Sto := [(5, .arr [.str rest] 0 1), (4, .box [.sl 3 n 0 n]), (3, .arr (rowC sc out) n 4), (2, .arr [.int .i64 25] 0 1), (1, .arr [.int .i64 n] 0 1), (0, .box [.p .nils])]

theorem gc9 (v : Int) (o : Obj) (cs : List PVal) (tp : PVal) (w : Bool) (j : Option ACode) (e : Nat) (out : List SenI) (n : Nat) (rest : List UInt8) :
    gc 9 [(0, iv v)] ((9, o) :: (8, .arr cs 0 1) :: (7, .box [.p tp, .p (.bool w)]) :: (6, pLoop j e) :: pS0 out n rest) = (8, .arr cs 0 1) :: (7, .box [.p tp, .p (.bool w)]) :: (6, pLoop j e) :: pS0 out n rest := by
  have h := gc_new (lo := 9) (env := [(0, iv v)]) (X := [(9, o)]) (S := (8, .arr cs 0 1) :: (7, .box [.p tp, .p (.bool w)]) :: (6, pLoop j e) :: pS0 out n rest) (by simp) (by simp [pS0]) (by simp) (by simp [pS0, refs_pLoop, refsO_arr, refsO_box, -refsO])
  simpa using h

/-- what a number takes, in the words of a line -/
theorem number_at {d : Nat} (K : Option (List (List UInt8)) × Bool) (hT : ∀ ws, K.1 = some ws → ∀ x ∈ ws, x.length < 1000000) (cs : List PVal) (out : List SenI) (n : Nat) (rest : List UInt8) :
    ∃ v o, evFn F C0 G0 (d + 2) (.fn 169) [.ptr 7 0 0] ((8, .arr cs 0 1) :: (7, tkO K.1 K.2) :: (6, pLoop none 1) :: pS0 out n rest) = .ret (iv v, (9, o) :: (8, .arr cs 0 1) :: (7, tkO (numK K).1 (numK K).2) :: (6, pLoop none 1) :: pS0 out n rest) ∧ ((numK K).2 = false → v = digV (wordK K.1 K.2).1) ∧ (∀ ws, (numK K).1 = some ws → ∀ x ∈ ws, x.length < 1000000) := by
  obtain ⟨v, j, h1, h2⟩ := number169 (d := d) K.1 K.2 hT (.arr cs 0 1) ((6, pLoop none 1) :: pS0 out n rest) (by simp [pS0])
  exact ⟨v, _, h1, h2, (wordK_len K.1 K.2 hT).2⟩

theorem yield_ok {d : Nat} (line rest : List UInt8) (out : List SenI) (hl : line.length < 100000) (hn : out.length < 100000) (h : line.drop (line.length - 1) = [10]) (x : SenI) (hx : lineP (line.take (line.length - 1)) = some x) :
    evFn F C0 G0 (d + 8) (.yld 6) [sv line] ((6, pLoop none 0) :: pS0 out out.length rest) = .ret (.p (.bool true), [(8, .arr (sc x) 0 1), (7, tkO (some []) false), (6, pLoop none 0)] ++ pS0 (out ++ [x]) (out.length + 1) rest) := by
  rw [evFn_yld (by rfl) (by rfl)]
  obtain ⟨w1, w2, w3, w4, e1, e0, e2, e3, e4, rfl⟩ := lineP_inv hx
  have h1 := cut166 (n := d + 7) (by omega) line 10 (by omega)
  rw [if_pos h] at h1
  have h2 := split167 (n := d + 7) (by omega) (line.take (line.length - 1)) 32 (by simp; omega)
  rw [e1] at h2
  have l2 : w2.length < 1000000 := by simp only [digOk, Bool.and_eq_true, decide_eq_true_eq] at e2; omega
  have l3 : w3.length < 1000000 := by simp only [digOk, Bool.and_eq_true, decide_eq_true_eq] at e3; omega
  have l4 : w4.length < 1000000 := by simp only [digOk, Bool.and_eq_true, decide_eq_true_eq] at e4; omega
  have z2 : w2 ≠ [] := fun e => by subst e; cases e2
  have z3 : w3 ≠ [] := fun e => by subst e; cases e3
  have z4 : w4 ≠ [] := fun e => by subst e; cases e4
  have q0 := word168 (d := d + 6) (some [senW, w1, w2, w3, w4]) false 7 [] ((6, pLoop none 1) :: pS0 out out.length rest) (fun o => by simp) (fun o o' => by simp)
  have q1 := word168 (d := d + 6) (some [w1, w2, w3, w4]) false 7 [] ((6, pLoop none 1) :: pS0 out out.length rest) (fun o => by simp) (fun o o' => by simp)
  obtain ⟨v2, o2, n2, m2, -⟩ := number_at (d := d + 5) (some [w2, w3, w4], false) (by simp [l2, l3, l4]) [.str w1, .int .i64 0, .int .i64 0, .int .i64 0] out out.length rest
  have k2 : numK (some [w2, w3, w4], false) = (some [w3, w4], false) := by simp [numK, wordK, z2, e2]
  obtain ⟨v3, o3, n3, m3, -⟩ := number_at (d := d + 5) (some [w3, w4], false) (by simp [l3, l4]) [.str w1, .int .i64 v2, .int .i64 0, .int .i64 0] out out.length rest
  have k3 : numK (some [w3, w4], false) = (some [w4], false) := by simp [numK, wordK, z3, e3]
  obtain ⟨v4, o4, n4, m4, -⟩ := number_at (d := d + 5) (some [w4], false) (by simp [l4]) [.str w1, .int .i64 v2, .int .i64 v3, .int .i64 0] out out.length rest
  have k4 : numK (some [w4], false) = (some [], false) := by simp [numK, wordK, z4, e4]
  rw [k2] at n2 m2
  rw [k3] at n3 m3
  rw [k4] at n4 m4
  have m2 := m2 rfl
  have m3 := m3 rfl
  have m4 := m4 rfl
  simp only [wordK, if_neg z2] at m2
  simp only [wordK, if_neg z3] at m3
  simp only [wordK, if_neg z4] at m4
  have hs : senW ≠ [] := by decide
  simp only [wordK, if_neg hs, if_neg e0, List.nil_append] at q0 q1
  have g9 := fun v o cs tp w => gc9 v o cs tp w none 1 out out.length rest
  have g : senW = [115, 101, 110, 115, 111, 114] := rfl
  have hlim : out.length + 1 ≤ lim := by simp only [lim]; omega
  have hR := sR_len out
  have hr : rowC sc (out ++ [⟨w1, digV w2, digV w3, digV w4⟩]) = rowC sc out ++ [.str w1, .int .i64 (digV w2), .int .i64 (digV w3), .int .i64 (digV w4)] := rowC_snoc ..
  simp only [pS0, hr]
  simp only [pS0, tkO, tkP, pStr, List.map_cons, List.map_nil, List.length_cons, List.length_nil, g, Nat.zero_add, Nat.reduceAdd] at q0 q1 n2 n3 n4 g9 h2
  generalize hA : rowC sc out = A at *
  subst m2 m3 m4
  simp -implicitDefEqProofs [c94A0]
  rw [yldK_eq (by rfl), pLoop_fold]
  simp -implicitDefEqProofs [c94B0, h1, h2, q0, q1, n2, n3, n4, g9, hlim, hR, strBin, gc_all, -gc]
  rw [yldB_normal (by rfl), pLoop_fold]
  simp -implicitDefEqProofs [sc, tkP]
end Fw
end

section
/- A line of a text of sensors that is wrong. -/
set_option maxHeartbeats 8000000
namespace Fw
open Go
attribute [local irreducible] evCode evOps evOpsD evOper evOperD evOp evFn loopN T.All T.bind callPure callOp opsK opsDK restK seqK blockK loopS setK setQ giveK scalK gcK finish finS rfunK yldK yldB loopK

theorem yldB_ret {call : CallF} {C : Nat → List AVal → Option (T AVal)} {G : Nat → Option (List PVal)} {id : Nat} {st : St} {e3 : Env} {p3 : List Nat} {a3 b3 : ACode} {j : Option ACode} {n : Nat} (h : get st.sto id = some (.loop e3 p3 a3 b3 j n)) : yldB call C G id (.ret, st) = .ret (.p (.bool false), put st.sto id (.loop e3 p3 a3 b3 (some .ret) 2)) := by
  unfold yldB
  simp [jumpOf, h]

theorem hidT4 : hidT 4 = [2] := by decide
theorem splitS_small (c : UInt8) : ∀ l : List UInt8, ∀ x ∈ splitS c l, x.length ≤ l.length := by
  intro l
  induction l with
  | nil => intro x hx; simp [splitS] at hx; subst hx; simp
  | cons b r ih =>
    intro x hx
    simp only [splitS] at hx
    split at hx
    · rcases List.mem_cons.1 hx with e | e
      · subst e; simp
      · have := ih x e; simp; omega
    · split at hx
      · simp at hx; subst hx; simp
      · rename_i w q e
        rcases List.mem_cons.1 hx with e2 | e2
        · subst e2
          have := ih w (by rw [e]; simp)
          simp; omega
        · have := ih x (by rw [e]; simp [e2])
          simp; omega

theorem yield_bad {d : Nat} (line rest : List UInt8) (out : List SenI) (hl : line.length < 100000) (hn : out.length < 100000) (h : ¬ (line.drop (line.length - 1) = [10] ∧ (lineP (line.take (line.length - 1))).isSome = true)) :
    ∃ (cs : List PVal) (T : Option (List (List UInt8))) (b : Bool), evFn F C0 G0 (d + 8) (.yld 6) [sv line] ((6, pLoop none 0) :: pS0 out out.length rest) = .ret (.p (.bool false), (8, .arr cs 0 1) :: (7, tkO T b) :: (6, pLoop (some .ret) 2) :: pS9 out out.length rest) := by
  rw [evFn_yld (by rfl) (by rfl)]
  have h1 := cut166 (n := d + 7) (by omega) line 10 (by omega)
  obtain ⟨body, ended, hb, hcut, hbl⟩ : ∃ body ended, (ended = true → line.drop (line.length - 1) = [10] ∧ body = line.take (line.length - 1)) ∧ RUN (d + 7) 166 [sv line, sv [10]] = .ret (.tup [sv body, .p (.bool ended)]) ∧ body.length < 100000 := by
    by_cases hc : line.drop (line.length - 1) = [10]
    · rw [if_pos hc] at h1
      exact ⟨line.take (line.length - 1), true, fun _ => ⟨hc, rfl⟩, h1, by simp; omega⟩
    · rw [if_neg hc] at h1
      exact ⟨line, false, fun e => (by cases e), h1, hl⟩
  have h2 := split167 (n := d + 7) (by omega) body 32 (by omega)
  have hwlen : ∀ ws, some (splitS 32 body) = some ws → ∀ x ∈ ws, x.length < 1000000 := by
    rintro ws e x hx
    cases e
    have := splitS_small 32 body x hx
    omega
  have hbad : ended = false ∨ ¬ ((wordK (some (splitS 32 body)) false).1 = senW ∧ leftK (splitS 32 body) = (some [], false)) := by
    cases he : ended with
    | false => exact .inl rfl
    | true =>
      refine .inr (fun hc => h ?_)
      obtain ⟨q1, q2⟩ := hb he
      refine ⟨q1, ?_⟩
      rw [← q2]
      exact lineP_left hc.1 hc.2
  unfold leftK at hbad
  generalize splitS 32 body = ws at *
  have q0 := word168 (d := d + 6) (some ws) false 7 [] ((6, pLoop none 1) :: pS0 out out.length rest) (fun o => by simp) (fun o o' => by simp)
  have b0 := (wordK_len (some ws) false hwlen).2
  generalize wordK (some ws) false = K0 at *
  obtain ⟨x0, T0, y0⟩ := K0
  simp only at q0 b0 hbad
  have q1 := word168 (d := d + 6) T0 y0 7 [] ((6, pLoop none 1) :: pS0 out out.length rest) (fun o => by simp) (fun o o' => by simp)
  have b1 := (wordK_len T0 y0 b0).2
  generalize wordK T0 y0 = K1 at *
  obtain ⟨x1, T1, y1⟩ := K1
  simp only at q1 b1 hbad
  obtain ⟨v2, o2, n2, -, b2⟩ := number_at (d := d + 5) (T1, y1) b1 [.str x1, .int .i64 0, .int .i64 0, .int .i64 0] out out.length rest
  generalize numK (T1, y1) = K2 at *
  obtain ⟨v3, o3, n3, -, b3⟩ := number_at (d := d + 5) K2 b2 [.str x1, .int .i64 v2, .int .i64 0, .int .i64 0] out out.length rest
  generalize numK K2 = K3 at *
  obtain ⟨v4, o4, n4, -, -⟩ := number_at (d := d + 5) K3 b3 [.str x1, .int .i64 v2, .int .i64 v3, .int .i64 0] out out.length rest
  have hs4 : (numK K3).2 = false → ∃ r, (numK K3).1 = some r := fun e => by
    obtain ⟨x, r, _, _, e2⟩ := numK_wrong K3 e
    exact ⟨r, by rw [e2]⟩
  generalize numK K3 = K4 at *
  obtain ⟨T2, y2⟩ := K2
  obtain ⟨T3, y3⟩ := K3
  obtain ⟨T4, y4⟩ := K4
  simp only [List.nil_append] at q0 q1 n2 n3 n4 hbad
  have g9 := fun v o cs tp w => gc9 v o cs tp w none 1 out out.length rest
  have hlim : out.length + 1 ≤ lim := by simp only [lim]; omega
  refine ⟨[.str x1, .int .i64 v2, .int .i64 v3, .int .i64 v4], T4, y4, ?_⟩
  have goal : ∀ st : St, st = ⟨[], (8, .arr [.str x1, .int .i64 v2, .int .i64 v3, .int .i64 v4] 0 1) :: (7, tkO T4 y4) :: (6, pLoop none 1) :: pS9 out out.length rest⟩ → yldB (evFn F C0 G0 (d + 7)) C0 G0 6 (.ret, st) = .ret (.p (.bool false), (8, .arr [.str x1, .int .i64 v2, .int .i64 v3, .int .i64 v4] 0 1) :: (7, tkO T4 y4) :: (6, pLoop (some .ret) 2) :: pS9 out out.length rest) := by
    rintro st rfl
    rw [yldB_ret (by rfl), pLoop_fold]
    simp [pS9]
  have goal := goal _ rfl
  have hw : tkP (some ws) = .sl (pStr ws) ws.length := rfl
  simp only [pS0, pS9, tkO, hw] at q0 q1 n2 n3 n4 g9 goal
  simp only [pS0, pS9]
  generalize rowC sc out = A at *
  simp -implicitDefEqProofs [c94A0]
  rw [yldK_eq (by rfl), pLoop_fold]
  have hP : ∀ T : Option (List (List UInt8)), nrm (tkP T) = nrm (tkP T) := fun _ => rfl
  cases ended with
  | false =>
    simp -implicitDefEqProofs [c94B0, hcut, h2, q0, q1, n2, n3, n4, g9, gc_all, hide, hidI, hidT4, stOp, plain, goal, -gc]
  | true =>
    cases hw0 : (x0 == senW) with
    | false =>
      simp only [senW] at hw0
      simp -implicitDefEqProofs [c94B0, hcut, h2, q0, q1, n2, n3, n4, g9, strBin, hw0, gc_all, hide, hidI, hidT4, stOp, plain, goal, -gc]
    | true =>
      have hx0 : x0 = senW := by simpa using hw0
      simp only [senW] at hw0
      cases y4 with
      | true => simp -implicitDefEqProofs [c94B0, hcut, h2, q0, q1, n2, n3, n4, g9, strBin, hw0, gc_all, hide, hidI, hidT4, stOp, plain, goal, -gc]
      | false =>
        cases T4 with
        | none =>
          obtain ⟨r, e⟩ := hs4 rfl
          cases e
        | some r =>
          have hne : r ≠ [] := fun e => by
            subst e
            simp [hx0] at hbad
          have hw4 : tkP (some r) = .sl (pStr r) r.length := rfl
          have hgt := List.length_pos_iff.2 hne
          simp only [hw4] at goal
          simp -implicitDefEqProofs [c94B0, hcut, h2, q0, q1, n2, n3, n4, g9, strBin, hw0, hgt, hw4, gc_all, hide, hidI, hidT4, stOp, plain, goal, -gc]
end Fw
end

section
/- The lines of a text of sensors, read one by one. -/
set_option maxHeartbeats 8000000
namespace Fw
open Go
attribute [local irreducible] evCode evOps evOpsD evOper evOperD evOp evFn loopN T.All T.bind callPure callOp opsK opsDK restK seqK blockK loopS setK setQ giveK scalK gcK finish finS rfunK yldK yldB loopK

/-- the sensors that the parts of a text say -/
def goL : List (List UInt8) → List SenI → Bool × List SenI
  | [], out => (true, out)
  | w :: q, out => match q with
    | [] => (decide (w = []), out)
    | _ :: _ => match lineP w with
      | some x => goL q (out ++ [x])
      | none => (false, out)

theorem goL_one (w : List UInt8) (out : List SenI) : goL [w] out = (decide (w = []), out) := rfl
theorem goL_more {w : List UInt8} {q : List (List UInt8)} (hq : q ≠ []) (out : List SenI) : goL (w :: q) out = match lineP w with
    | some x => goL q (out ++ [x])
    | none => (false, out) := by
  cases q with
  | nil => exact absurd rfl hq
  | cons y r => rfl

theorem goL_length : ∀ (ps : List (List UInt8)) (out : List SenI), (goL ps out).2.length ≤ out.length + ps.length := by
  intro ps
  induction ps with
  | nil => intro out; simp [goL]
  | cons w q ih =>
    intro out
    cases q with
    | nil => rw [goL_one]; simp
    | cons y r =>
      rw [goL_more (by simp)]
      cases lineP w with
      | none => simp
      | some x =>
        have := ih (out ++ [x])
        simp at this ⊢
        omega

theorem lineP_name {w : List UInt8} {x : SenI} (h : lineP w = some x) : x.name.length ≤ w.length := by
  obtain ⟨w1, w2, w3, w4, e, _, _, _, _, rfl⟩ := lineP_inv h
  exact splitS_small 32 w w1 (by rw [e]; simp)
theorem goL_names (B : Nat) : ∀ (ps : List (List UInt8)) (out : List SenI), (∀ w ∈ ps, w.length ≤ B) → (∀ x ∈ out, x.name.length ≤ B) → ∀ x ∈ (goL ps out).2, x.name.length ≤ B := by
  intro ps
  induction ps with
  | nil => intro out _ h; exact h
  | cons w q ih =>
    intro out hw h
    cases q with
    | nil => rw [goL_one]; exact h
    | cons y r =>
      rw [goL_more (by simp)]
      cases hp : lineP w with
      | none => exact h
      | some x =>
        refine ih (out ++ [x]) (fun v hv => hw v (by simp [List.mem_cons.1 hv])) ?_
        intro z hz
        rcases List.mem_append.1 hz with e | e
        · exact h z e
        · have : z = x := by simpa using e
          subst this
          have := lineP_name hp
          have := hw w (by simp)
          omega

def lE : Env := [(0, .yld 6), (1, .ptr 5 0 0)]

/-- one line, with the rest -/
theorem lines_round {d : Nat} (rest : List UInt8) (out : List SenI) (hl : rest.length < 90000) (hn : out.length < 90000) (h0 : rest ≠ []) :
    (10 ∈ rest ∧ ∃ x, lineP (ahead 10 rest) = some x ∧ loopS (evFn F C0 G0 (d + 8)) C0 G0 7 true [0, 1] c195L0 ⟨lE, (6, pLoop none 0) :: pS0 out out.length rest⟩ = .ret (.normal, ⟨[(0, .yld 6), (1, .ptr 5 0 0), (24, .p (.bool false))], (6, pLoop none 0) :: pS0 (out ++ [x]) (out ++ [x]).length (rest.drop ((ahead 10 rest).length + 1))⟩)) ∨
    ((10 ∉ rest ∨ lineP (ahead 10 rest) = none) ∧ ∃ env r', loopS (evFn F C0 G0 (d + 8)) C0 G0 7 true [0, 1] c195L0 ⟨lE, (6, pLoop none 0) :: pS0 out out.length rest⟩ = .ret (.ret, ⟨env, (6, pLoop (some .ret) 2) :: pS9 out out.length r'⟩)) := by
  have hpos : 0 < rest.length := List.length_pos_iff.2 h0
  have z0 : (0 : Int) < rest.length := by omega
  have hix : RUN (d + 8) 196 [sv rest, .p (.int .u8 10)] = .ret (iv (Lib.indexByte rest 10)) := ib196 (n := d + 8) (by omega) rest 10
  rw [indexByte_ahead] at hix
  by_cases hm : (10 : UInt8) ∈ rest
  · rw [if_pos hm] at hix
    obtain ⟨e1, e2, e3⟩ := ahead_split hm
    have w1 := wrap64 (n := ((ahead 10 rest).length : Int) + 1) (by omega) (by omega)
    have b1 : ((ahead 10 rest).length : Int) + 1 ≤ rest.length := by omega
    have b2 : (0 : Int) ≤ ((ahead 10 rest).length : Int) + 1 := by omega
    have b3 : (0 : Int) ≤ ((ahead 10 rest).length : Int) := by omega
    have t1 : (((ahead 10 rest).length : Int) + 1).toNat = (ahead 10 rest).length + 1 := by omega
    have htk : rest.take ((ahead 10 rest).length + 1) = ahead 10 rest ++ [10] := by
      have h := congrArg (List.take ((ahead 10 rest).length + 1)) e1
      rw [h, List.take_append]
      simp
      exact List.take_of_length_le (by omega)
    have hd : (ahead 10 rest ++ [10]).drop ((ahead 10 rest ++ [10]).length - 1) = [10] := by simp
    have hk : (ahead 10 rest ++ [10]).take ((ahead 10 rest ++ [10]).length - 1) = ahead 10 rest := by simp
    generalize hA : ahead 10 rest = A at *
    generalize hR : rest.drop (A.length + 1) = R at *
    cases hp : lineP A with
    | some x =>
      refine .inl ⟨hm, x, rfl, ?_⟩
      have hy := yield_ok (d := d) (A ++ [10]) R out (by simp; omega) (by omega) hd x (by rw [hk]; exact hp)
      simp only [pS0, List.cons_append, List.nil_append] at hy
      simp -implicitDefEqProofs [lE, pS0, loopS_eq, c195L0, gc_all, hpos, hix, w1, b1, b2, b3, t1, htk, hR, hy, -gc]
      simp -implicitDefEqProofs [pLoop]
    | none =>
      refine .inr ⟨.inr rfl, ?_⟩
      obtain ⟨cs', T', b', hy⟩ := yield_bad (d := d) (A ++ [10]) R out (by simp; omega) (by omega) (by rw [hk, hp]; simp)
      simp only [pS0, pS9] at hy
      refine ⟨[(0, .yld 6), (1, .ptr 5 0 0), (24, .p (.bool true))], R, ?_⟩
      simp -implicitDefEqProofs [lE, pS0, pS9, loopS_eq, c195L0, gc_all, hpos, hix, w1, b1, b2, b3, t1, htk, hR, hy, -gc]
      simp -implicitDefEqProofs [pLoop]
  · rw [if_neg hm] at hix
    refine .inr ⟨.inl hm, ?_⟩
    have hnd : ¬ (rest.drop (rest.length - 1) = [10] ∧ (lineP (rest.take (rest.length - 1))).isSome = true) := fun h => hm (by
      have : (10 : UInt8) ∈ rest.drop (rest.length - 1) := by rw [h.1]; simp
      exact List.mem_of_mem_drop this)
    obtain ⟨cs', T', b', hy⟩ := yield_bad (d := d) rest [] out (by omega) (by omega) hnd
    simp only [pS0, pS9] at hy
    refine ⟨[(0, .yld 6), (1, .ptr 5 0 0), (24, .p (.bool true))], [], ?_⟩
    simp -implicitDefEqProofs [lE, pS0, pS9, loopS_eq, c195L0, gc_all, hpos, hix, hy, -gc]
    simp -implicitDefEqProofs [pLoop]

theorem lines_same {d : Nat} {env : Env} (he : restrict env [0, 1] = lE) (S : Sto) : loopS (evFn F C0 G0 (d + 8)) C0 G0 7 true [0, 1] c195L0 ⟨env, S⟩ = loopS (evFn F C0 G0 (d + 8)) C0 G0 7 true [0, 1] c195L0 ⟨lE, S⟩ := by
  have : restrict lE [0, 1] = lE := rfl
  simp only [loopS_eq, he, this]
theorem lines_end {d : Nat} (out : List SenI) (n : Nat) : loopS (evFn F C0 G0 (d + 8)) C0 G0 7 true [0, 1] c195L0 ⟨lE, (6, pLoop none 0) :: pS0 out n []⟩ = .ret (.exit 0, ⟨[(0, .yld 6), (1, .ptr 5 0 0), (7, .p (.bool false))], (6, pLoop none 0) :: pS0 out n []⟩) := by
  simp -implicitDefEqProofs [loopS_eq, lE, pS0, c195L0, gc_all, -gc]

theorem lines_loop {d : Nat} : ∀ (k : Nat) (rest : List UInt8) (out : List SenI) (env : Env) (fuel : Nat), rest.length ≤ k → k < 80000 → out.length + k < 90000 → k < fuel → restrict env [0, 1] = lE →
    ∃ e env' r', loopN (loopS (evFn F C0 G0 (d + 8)) C0 G0 7 true [0, 1] c195L0) fuel ⟨env, (6, pLoop none 0) :: pS0 out out.length rest⟩ = .ret (e, ⟨env', if (goL (splitS 10 rest) out).1 = true then (6, pLoop none 0) :: pS0 (goL (splitS 10 rest) out).2 (goL (splitS 10 rest) out).2.length r' else (6, pLoop (some .ret) 2) :: pS9 (goL (splitS 10 rest) out).2 (goL (splitS 10 rest) out).2.length r'⟩) ∧ (e = .exit 0 ∨ e = .ret) := by
  intro k
  induction k with
  | zero =>
    intro rest out env fuel hk _ _ hf he
    have : rest = [] := List.eq_nil_of_length_eq_zero (by omega)
    subst this
    refine ⟨.exit 0, [(0, .yld 6), (1, .ptr 5 0 0), (7, .p (.bool false))], [], ?_, .inl rfl⟩
    have hg : goL (splitS 10 []) out = (true, out) := rfl
    rw [hg]
    exact loopN_end (by rw [lines_same he, lines_end]; rfl) (by simp) (by omega)
  | succ k ih =>
    intro rest out env fuel hk hk2 hn hf he
    by_cases h0 : rest = []
    · subst h0
      refine ⟨.exit 0, [(0, .yld 6), (1, .ptr 5 0 0), (7, .p (.bool false))], [], ?_, .inl rfl⟩
      have hg : goL (splitS 10 []) out = (true, out) := rfl
      rw [hg]
      exact loopN_end (by rw [lines_same he, lines_end]; rfl) (by simp) (by omega)
    · have hst := lines_same (d := d) he ((6, pLoop none 0) :: pS0 out out.length rest)
      rcases lines_round (d := d) rest out (by omega) (by omega) h0 with ⟨hm, x, hx, hr⟩ | ⟨hb, env2, r', hr⟩
      · rw [← hst] at hr
        rw [loopN_on hr (by omega)]
        obtain ⟨e1, e2, e3⟩ := ahead_split hm
        have hs : splitS 10 rest = ahead 10 rest :: splitS 10 (rest.drop ((ahead 10 rest).length + 1)) := by
          conv => lhs; rw [e1]
          exact splitS_at e2
        have hg : goL (splitS 10 rest) out = goL (splitS 10 (rest.drop ((ahead 10 rest).length + 1))) (out ++ [x]) := by
          rw [hs, goL_more (splitS_ne _ _), hx]
        rw [hg]
        exact ih (rest.drop ((ahead 10 rest).length + 1)) (out ++ [x]) _ (fuel - 1) (by rw [List.length_drop]; omega) (by omega) (by simp; omega) (by omega) rfl
      · rw [← hst] at hr
        have hg : goL (splitS 10 rest) out = (false, out) := by
          by_cases hm : (10 : UInt8) ∈ rest
          · have hl : lineP (ahead 10 rest) = none := by
              rcases hb with h | h
              · exact absurd hm h
              · exact h
            obtain ⟨e1, e2, e3⟩ := ahead_split hm
            have hs : splitS 10 rest = ahead 10 rest :: splitS 10 (rest.drop ((ahead 10 rest).length + 1)) := by
              conv => lhs; rw [e1]
              exact splitS_at e2
            rw [hs, goL_more (splitS_ne _ _), hl]
          · rw [splitS_none hm, goL_one]
            simp [h0]
        rw [hg]
        exact ⟨.ret, env2, r', loopN_end hr (by simp) (by omega), .inr rfl⟩

theorem rfunK_ret {lo : Nat} {env : Env} {id : Nat} {a : AVal} {s : Sto} {e1 : Env} {p1 : List Nat} {a1 b1 : ACode} {n : Nat} (h : get s id = some (.loop e1 p1 a1 b1 (some .ret) n)) (hn : n ≠ 1) : rfunK lo env id (a, s) = .ret (.ret, ⟨env, gc lo env (put s id (.loop e1 p1 a1 b1 (some .ret) 3))⟩) := by
  unfold rfunK
  simp [h, hn]

end Fw
end

