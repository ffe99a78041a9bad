/- Halls: the check of a hall, of three values; both sides. -/
import Derived.Test.YtdjkleaojdeepaaGreatDoorGaH2
set_option maxHeartbeats 16000000
namespace Fw
open Go
attribute [local irreducible] evCode evOps evOpsD evOper evOperD evOp evFn loopN T.All T.bind callPure callOp opsK opsDK restK seqK blockK loopS setK setQ giveK scalK gcK finish finS rfunK yldK yldB loopK

structure HallI where
  doors : Int
  base : Int
  t0 : List (Int × Int)
  t1 : List (Int × Int)
  t2 : List (Int × Int)
abbrev ha (h : HallI) : AVal := .agg [iv h.doors, iv h.base, csl h.t0, csl h.t1, csl h.t2]
def hallE (h : HallI) : Int := firstE [rangeE 1 8 h.doors, rangeE 0 1000000 h.base, tabE h.t0, tabE h.t1, tabE h.t2]
def dcI : List PVal → List (Int × Int)
  | .int _ a :: .int _ b :: r => (a, b) :: dcI r
  | _ => []
theorem dcI_cI (l : List (Int × Int)) : dcI (cI l) = l := by
  induction l with
  | nil => rfl
  | cons x r ih => simp only [cI, dcI, ih]
def tabG : PVal → PVal
  | .sl cs _ => .int .i64 (tabE (dcI cs))
  | c => c
theorem a134 : c134 = mapC (.p (.int .i64 0)) 8 := rfl
theorem fc134 : F 134 = some (mapC (.p (.int .i64 0)) 8) := a134 ▸ fe134
theorem map134 {n : Nat} (hn : 5 ≤ n) (a b c : List (Int × Int)) (ha : a.length < 1000000) (hb : b.length < 1000000) (hc : c.length < 1000000) :
    RUN n 134 [.p (.sl [.sl (cI a) a.length, .sl (cI b) b.length, .sl (cI c) c.length] 3), .p (.clo 135 [] [])] = .ret (.own [.int .i64 (tabE a), .int .i64 (tabE b), .int .i64 (tabE c)] 3 1) := by
  obtain ⟨d, rfl⟩ : ∃ d, n = d + 5 := ⟨n - 5, by omega⟩
  have := map_ok (C := C0) (G := G0) (d := d + 4) fc134 (by decide) (fun _ => rfl) [.sl (cI a) a.length, .sl (cI b) b.length, .sl (cI c) c.length] 135 [] tabG (by simp) (by simp) (by
    intro x hx
    have key : ∀ l : List (Int × Int), l.length < 1000000 → callPure (evFn F C0 G0 (d + 4)) C0 (.fn 135) (.p (nrm (.sl (cI l) l.length)) :: List.map AVal.p []) = .ret (.p (tabG (.sl (cI l) l.length))) ∧ nrm (tabG (.sl (cI l) l.length)) = tabG (.sl (cI l) l.length) := fun l hl => by
      have k := table135 (n := d + 4) (by omega) l hl
      have e : tabG (.sl (cI l) l.length) = .int .i64 (tabE l) := by simp only [tabG, dcI_cI]
      rw [e]
      exact ⟨k, rfl⟩
    simp only [List.mem_cons, List.not_mem_nil, or_false] at hx
    rcases hx with rfl | rfl | rfl
    · exact key a ha
    · exact key b hb
    · exact key c hc)
  simp only [List.map_cons, List.map_nil, tabG, dcI_cI] at this
  exact this
theorem first_app (a b c d e : Int) : firstE [a, b, firstE [c, d, e]] = firstE [a, b, c, d, e] := by
  by_cases h1 : a = 0 <;> by_cases h2 : b = 0 <;> by_cases h3 : c = 0 <;> by_cases h4 : d = 0 <;> by_cases h5 : e = 0 <;> simp [firstE, h1, h2, h3, h4, h5]
theorem hall81 {n : Nat} (hn : 6 ≤ n) (h : HallI) (h0 : h.t0.length < 1000000) (h1 : h.t1.length < 1000000) (h2 : h.t2.length < 1000000) : RUN n 81 [ha h] = .ret (iv (hallE h)) := by
  obtain ⟨d, rfl⟩ : ∃ d, n = d + 6 := ⟨n - 6, by omega⟩
  rw [RUN, call_eq fe81 _ rfl]
  have k := map134 (n := d + 5) (by omega) h.t0 h.t1 h.t2 h0 h1 h2
  have k3 := fun a b c => first91_3 (n := d + 5) (by omega) a b c
  have kr := fun x lo hi => within92 (n := d + 5) (by omega) x lo hi
  have hE : hallE h = _ := (first_app _ _ _ _ _).symm
  rw [hE]
  simp only [ha, csl]
  generalize cI h.t0 = A0 at *
  generalize cI h.t1 = A1 at *
  generalize cI h.t2 = A2 at *
  simp -implicitDefEqProofs [c81, k, k3, kr]
theorem hall65 {n : Nat} (hn : 6 ≤ n) (h : HallI) (h0 : h.t0.length < 1000000) (h1 : h.t1.length < 1000000) (h2 : h.t2.length < 1000000) : RUN n 65 [ha h] = .ret (iv (hallE h)) := by
  obtain ⟨d, rfl⟩ : ∃ d, n = d + 6 := ⟨n - 6, by omega⟩
  rw [RUN, call_eq fe65 _ rfl]
  have ka := table128 (n := d + 5) (by omega) h.t0 h0
  have kb := table128 (n := d + 5) (by omega) h.t1 h1
  have kc := table128 (n := d + 5) (by omega) h.t2 h2
  have k5 : ∀ a b c e f : Int, RUN (d + 5) 23 [.p (.sl [.int .i64 a, .int .i64 b, .int .i64 c, .int .i64 e, .int .i64 f] 5)] = .ret (iv (firstE [a, b, c, e, f])) := fun a b c e f => first23 (by omega) [a, b, c, e, f] (by simp)
  have kr := fun x lo hi => range24 (n := d + 5) (by omega) x lo hi
  unfold hallE
  simp only [ha, csl] at ka kb kc ⊢
  generalize cI h.t0 = A0 at *
  generalize cI h.t1 = A1 at *
  generalize cI h.t2 = A2 at *
  simp -implicitDefEqProofs [c65, ka, kb, kc, k5, kr]
/-- three values -/
abbrev v3 (a b c : Int) : AVal := .agg [iv a, iv b, iv c]
def valE (a b c : Int) : Int := firstE [rangeE 0 100000 a, rangeE 0 100000 b, rangeE 0 100000 c]
theorem val160 {n : Nat} (hn : 3 ≤ n) (x : Int) : RUN n 160 [iv x] = .ret (iv (rangeE 0 100000 x)) := by
  obtain ⟨d, rfl⟩ : ∃ d, n = d + 3 := ⟨n - 3, by omega⟩
  rw [RUN, call_eq fe160 _ rfl]
  have kr := fun x lo hi => within92 (n := d + 2) (by omega) x lo hi
  simp -implicitDefEqProofs [c160, kr]
def ranG : PVal → PVal
  | .int _ n => .int .i64 (rangeE 0 100000 n)
  | c => c
theorem map105v {n : Nat} (hn : 4 ≤ n) (a b c : Int) : RUN n 105 [.p (.sl [.int .i64 a, .int .i64 b, .int .i64 c] 3), .p (.clo 160 [] [])] = .ret (.own [.int .i64 (rangeE 0 100000 a), .int .i64 (rangeE 0 100000 b), .int .i64 (rangeE 0 100000 c)] 3 1) := by
  obtain ⟨d, rfl⟩ : ∃ d, n = d + 4 := ⟨n - 4, by omega⟩
  exact map_ok (C := C0) (G := G0) (d := d + 3) fc105 (by decide) (fun _ => rfl) [.int .i64 a, .int .i64 b, .int .i64 c] 160 [] ranG (by simp) (by simp) (by
    intro x hx
    simp only [List.mem_cons, List.not_mem_nil, or_false] at hx
    rcases hx with rfl | rfl | rfl
    · exact ⟨val160 (by omega) a, rfl⟩
    · exact ⟨val160 (by omega) b, rfl⟩
    · exact ⟨val160 (by omega) c, rfl⟩)
theorem measures131 {n : Nat} (hn : 5 ≤ n) (a b c : Int) : RUN n 131 [v3 a b c] = .ret (iv (valE a b c)) := by
  obtain ⟨d, rfl⟩ : ∃ d, n = d + 5 := ⟨n - 5, by omega⟩
  rw [RUN, call_eq fe131 _ rfl]
  have k := map105v (n := d + 4) (by omega) a b c
  have k3 := fun a b c => first91_3 (n := d + 4) (by omega) a b c
  simp -implicitDefEqProofs [c131, k, k3, valE]
theorem values79 {n : Nat} (hn : 3 ≤ n) (a b c : Int) : RUN n 79 [v3 a b c] = .ret (iv (valE a b c)) := by
  obtain ⟨d, rfl⟩ : ∃ d, n = d + 3 := ⟨n - 3, by omega⟩
  rw [RUN, call_eq fe79 _ rfl]
  have kr := fun x lo hi => range24 (n := d + 2) (by omega) x lo hi
  have k3 := fun a b c => first23_3 (n := d + 2) (by omega) a b c
  simp -implicitDefEqProofs [c79, kr, k3, valE]
end Fw
