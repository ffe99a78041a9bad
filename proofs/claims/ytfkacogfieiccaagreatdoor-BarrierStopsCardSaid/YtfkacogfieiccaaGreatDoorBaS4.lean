/- The lines of a tow's text, read one by one. -/
import Derived.Test.YtfkacogfieiccaaGreatDoorBaS3
set_option maxHeartbeats 8000000
namespace Fw
open Go
attribute [local irreducible] evCode evOps evOpsD evOper evOperD evOp evFn loopN T.All T.bind callPure callOp opsK opsDK restK seqK blockK loopS setK setQ giveK scalK gcK finish finS rfunK yldK yldB loopK

/-- rows of integers, as the cells of a list -/
def cL (ls : List (List Int)) : List PVal := ls.map fun l => .sl (pI l) l.length
@[simp] theorem cL_length (ls : List (List Int)) : (cL ls).length = ls.length := by simp [cL]
theorem cL_snoc (ls : List (List Int)) (x : List Int) : cL ls ++ [.sl (pI x) x.length] = cL (ls ++ [x]) := by simp [cL]

def zT : Obj := .box [.p .nils, iv 0, iv 0, iv 0, iv 0, iv 0]
def pE : Env := [(2, .ptr 0 0 0), (3, .ptr 1 0 0), (4, .ptr 2 0 0), (5, .ptr 4 0 0), (16, .clo 172 [] [.ptr 5 0 0])]
def pLoop (j : Option ACode) (e : Nat) : Obj := .loop pE [17] c84A0 c84B0 j e
theorem refs_pLoop (j : Option ACode) (e : Nat) : refsO (pLoop j e) = [0, 1, 2, 4, 5] := by simp [pLoop, pE]
theorem pLoop_fold (j : Option ACode) (e : Nat) : Obj.loop pE [17] c84A0 c84B0 j e = pLoop j e := rfl
def pS0 (out : List (List Int)) (n : Nat) (rest : List UInt8) : Sto := [(5, .arr [.str rest] 0 1), (4, .box [.sl 3 n 0 n]), (3, .arr (cL out) n 1), (2, .arr [.int .i64 0] 0 1), (1, .arr [.int .i64 0] 0 1), (0, .box [.p .nils, iv 0, iv 0, iv 0, iv 0, iv 0])]
def pS9 (out : List (List Int)) (n : Nat) (rest : List UInt8) : Sto := [(5, .arr [.str rest] 0 1), (4, .box [.sl 3 n 0 n]), (3, .arr (cL out) n 1), (2, .arr [.int .i64 25] 0 1), (1, .arr [.int .i64 n] 0 1), (0, .box [.p .nils, iv 0, iv 0, iv 0, iv 0, iv 0])]

theorem yldB_ret {call : CallF} {C : Nat → List AVal → Option (T AVal)} {G : Nat → Option (List PVal)} {id : Nat} {st : St} {e3 : Env} {p3 : List Nat} {a3 b3 : ACode} {j : Option ACode} {n : Nat} (h : get st.sto id = some (.loop e3 p3 a3 b3 j n)) : yldB call C G id (.ret, st) = .ret (.p (.bool false), put st.sto id (.loop e3 p3 a3 b3 (some .ret) 2)) := by
  unfold yldB
  simp [jumpOf, h]

theorem form_case (n : Nat) : (n = 0 ∧ min (n : Int) 3 = 0) ∨ (n = 1 ∧ min (n : Int) 3 = 1) ∨ (n = 2 ∧ min (n : Int) 3 = 2) ∨ (formW n = pullW ∧ formK n = 1 ∧ min (n : Int) 3 = 3) := by
  match n with
  | 0 => exact .inl ⟨rfl, by decide⟩
  | 1 => exact .inr (.inl ⟨rfl, by decide⟩)
  | 2 => exact .inr (.inr (.inl ⟨rfl, by decide⟩))
  | n + 3 => exact .inr (.inr (.inr ⟨rfl, rfl, by omega⟩))

theorem mi2' (a : Int) : minInt a [iv 3] = some (min a 3) := mi2 a 3

/-- what the form of a line says of it -/
theorem formR {d : Nat} (n : Nat) (line : List UInt8) (hl : line.length < 100000) (h : line.drop (line.length - 1) = [10]) : RUN (d + 6) 149 [.agg [sv (formW n), iv (formK n)], sv line] = .ret (match lineQ n (line.take (line.length - 1)) with
      | some x => .tup [.own (pI x) x.length 1, .p (.bool true)]
      | none => .tup [.p (.sl [] 0), .p (.bool false)]) := read_ok (by omega) _ _ (by unfold formK; split <;> omega) line hl h
theorem formR' {d : Nat} (n : Nat) (line : List UInt8) (hl : line.length < 100000) (h : ¬ line.drop (line.length - 1) = [10]) : RUN (d + 6) 149 [.agg [sv (formW n), iv (formK n)], sv line] = .ret (.tup [.p (.sl [] 0), .p (.bool false)]) := read_bad (by omega) _ _ line hl h

theorem nc1 : ((1 : Nat) : Int) = 1 := rfl
theorem nc2 : ((2 : Nat) : Int) = 2 := rfl
theorem hidT4 : hidT 4 = [2] := by decide

theorem yield_ok {d : Nat} (line rest : List UInt8) (out : List (List Int)) (hl : line.length < 100000) (hn : out.length < 100000) (h : line.drop (line.length - 1) = [10]) (x : List Int) (hx : lineQ out.length (line.take (line.length - 1)) = some x) :
    evFn F C0 G0 (d + 8) (.yld 6) [sv line] ((6, pLoop none 0) :: pS0 out out.length rest) = .ret (.p (.bool true), (6, pLoop none 0) :: pS0 (out ++ [x]) (out.length + 1) rest) := by
  rw [evFn_yld (by rfl) (by rfl)]
  have k := formR (d := d + 1) out.length line hl h
  rw [hx] at k
  simp only at k
  have hlim : out.length + 1 ≤ lim := by simp only [lim]; omega
  have hsn := cL_snoc out x
  simp -implicitDefEqProofs [c84A0, pE]
  rw [yldK_eq (by rfl), pLoop_fold]
  rcases form_case out.length with ⟨e, hm⟩ | ⟨e, hm⟩ | ⟨e, hm⟩ | ⟨e1, e2, hm⟩
  · simp only [e, formW, formK, wallW, nc1] at k
    simp -implicitDefEqProofs [c84B0, pS0, mi2', hm, show G0 1 = some g1 from rfl, g1, k, hlim, hsn, -gc]
    rw [yldB_normal (by rfl), pLoop_fold]
    simp -implicitDefEqProofs
  · simp only [e, formW, formK, fricW, nc2] at k
    simp -implicitDefEqProofs [c84B0, pS0, mi2', hm, show G0 1 = some g1 from rfl, g1, k, hlim, hsn, -gc]
    rw [yldB_normal (by rfl), pLoop_fold]
    simp -implicitDefEqProofs
  · simp only [e, formW, formK, brakeW, nc2] at k
    simp -implicitDefEqProofs [c84B0, pS0, mi2', hm, show G0 1 = some g1 from rfl, g1, k, hlim, hsn, -gc]
    rw [yldB_normal (by rfl), pLoop_fold]
    simp -implicitDefEqProofs
  · simp only [e1, e2, pullW, nc1] at k
    simp -implicitDefEqProofs [c84B0, pS0, mi2', hm, show G0 1 = some g1 from rfl, g1, k, hlim, hsn, -gc]
    rw [yldB_normal (by rfl), pLoop_fold]
    simp -implicitDefEqProofs

theorem yield_bad {d : Nat} (line rest : List UInt8) (out : List (List Int)) (hl : line.length < 100000) (_hn : out.length < 100000) (h : ¬ (line.drop (line.length - 1) = [10] ∧ (lineQ out.length (line.take (line.length - 1))).isSome = true)) :
    evFn F C0 G0 (d + 8) (.yld 6) [sv line] ((6, pLoop none 0) :: pS0 out out.length rest) = .ret (.p (.bool false), (6, pLoop (some .ret) 2) :: pS9 out out.length rest) := by
  rw [evFn_yld (by rfl) (by rfl)]
  have k : RUN (d + 7) 149 [.agg [sv (formW out.length), iv (formK out.length)], sv line] = .ret (.tup [.p (.sl [] 0), .p (.bool false)]) := by
    by_cases hc : line.drop (line.length - 1) = [10]
    · have k := formR (d := d + 1) out.length line hl hc
      cases hq : lineQ out.length (line.take (line.length - 1)) with
      | some x => exact absurd ⟨hc, by rw [hq]; rfl⟩ h
      | none => rw [hq] at k; exact k
    · exact formR' (d := d + 1) out.length line hl hc
  simp -implicitDefEqProofs [c84A0, pE]
  rw [yldK_eq (by rfl), pLoop_fold]
  rcases form_case out.length with ⟨e, hm⟩ | ⟨e, hm⟩ | ⟨e, hm⟩ | ⟨e1, e2, hm⟩
  · simp only [e, formW, formK, wallW, nc1] at k
    simp -implicitDefEqProofs [c84B0, pS0, pS9, mi2', hm, show G0 1 = some g1 from rfl, g1, k, hide, hidI, hidT4, stOp, plain, -gc]
    rw [yldB_ret (by rfl), pLoop_fold]
    simp -implicitDefEqProofs
  · simp only [e, formW, formK, fricW, nc2] at k
    simp -implicitDefEqProofs [c84B0, pS0, pS9, mi2', hm, show G0 1 = some g1 from rfl, g1, k, hide, hidI, hidT4, stOp, plain, -gc]
    rw [yldB_ret (by rfl), pLoop_fold]
    simp -implicitDefEqProofs
  · simp only [e, formW, formK, brakeW, nc2] at k
    simp -implicitDefEqProofs [c84B0, pS0, pS9, mi2', hm, show G0 1 = some g1 from rfl, g1, k, hide, hidI, hidT4, stOp, plain, -gc]
    rw [yldB_ret (by rfl), pLoop_fold]
    simp -implicitDefEqProofs
  · simp only [e1, e2, pullW, nc1] at k
    simp -implicitDefEqProofs [c84B0, pS0, pS9, mi2', hm, show G0 1 = some g1 from rfl, g1, k, hide, hidI, hidT4, stOp, plain, -gc]
    rw [yldB_ret (by rfl), pLoop_fold]
    simp -implicitDefEqProofs
end Fw
