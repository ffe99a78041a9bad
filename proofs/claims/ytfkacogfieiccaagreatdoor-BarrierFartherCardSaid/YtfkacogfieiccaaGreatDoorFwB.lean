/- The evaluator and its soundness, a part: what an operation of the language does to values without addresses; no condition. -/
import Derived.Test.YtfkacogfieiccaaGreatDoorFwA
import Derived.Laws.IdiomStrings
import Derived.Laws.IdiomRangeMap
import Derived.Maps.RangeRun
import Derived.Laws.StructEq
import Derived.ChangeKeysEq
section
/-
  Operations, seventh part: make, append, copy, conversions.
-/
namespace Fw
open Go

theorem setA_get (vs : List Value) : ∀ (cur : Array Value) (i j : Nat), i + vs.length ≤ cur.size → (setA cur i vs)[j]? = if i ≤ j ∧ j < i + vs.length then vs[j - i]? else cur[j]? := by
 induction vs with
 | nil => intro cur i j _; simp only [setA, List.length_nil]; rw [if_neg (by omega)]
 | cons v r ih =>
  intro cur i j hl
  simp only [List.length_cons] at hl
  simp only [setA, List.length_cons]
  rw [ih _ _ _ (by simp; omega)]
  by_cases h1 : i + 1 ≤ j ∧ j < i + 1 + r.length
  ·rw [if_pos h1, if_pos (by omega), show j - i = (j - (i + 1)) + 1 by omega]; simp
  ·rw [if_neg h1]
   by_cases h2 : i = j
   ·subst h2
    rw [if_pos (by omega), Array.getElem?_setIfInBounds_self_of_lt (by omega)]; simp
   ·rw [if_neg (by omega), Array.getElem?_setIfInBounds_ne h2]

section
variable {CM : Nat → Code → ACode → Prop} {base : Nat} {Im0 : Nat → Prop} {w : World} {m : Mem} {s : Sto} {P : Program} {ρ : Operand → Value} {ρa : Opd → AVal} {Q : AVal × Sto → Prop} {I : Nat → Prop}

theorem slice_read (h : SRep CM base Im0 w m s) {x : Value} {a : AVal} (hx : ARep w (Im base Im0 m s) m s x a) {es : Nat} {ys : List PVal} {n : Nat} (hs : sliceOf s es a = some (ys, n)) :
  ys.length = n * es ∧ ∃ news : List Value, news.length = ys.length ∧ (∀ (j : Nat) u c, news[j]? = some u → ys[j]? = some c → PRep w (Im base Im0 m s) u c) ∧ (∀ W, (Builtin.lenOf x).run P W = .ok n W) ∧
   (∀ (W : World) k, W.heap = w.heap → k ≤ n → (Builtin.firstCells es k x).run P W = .ok (news.take (k * es)).toArray W) ∧ (∀ u ∈ news, u.oneCell' = true) := by
 have row : ∀ (b off : Nat) (cap : Nat) (cur : Array Value) (e : Nat) (fr : Nat × Nat) (cs : List PVal), x = .slice (some ⟨b, off, none⟩) n cap → w.heap[b]? = some (.cells cur e fr) → cs.length = n * es → off + cs.length ≤ cur.size →
   (∀ (j : Nat) u c, cur[off + j]? = some u → cs[j]? = some c → PRep w (Im base Im0 m s) u c) →
   ∃ news : List Value, news.length = cs.length ∧ (∀ (j : Nat) u c, news[j]? = some u → cs[j]? = some c → PRep w (Im base Im0 m s) u c) ∧ (∀ W, (Builtin.lenOf x).run P W = .ok n W) ∧
   (∀ (W : World) k, W.heap = w.heap → k ≤ n → (Builtin.firstCells es k x).run P W = .ok (news.take (k * es)).toArray W) ∧ (∀ u ∈ news, u.oneCell' = true) := by
  intro b off cap cur e fr cs hxe hb hl hle hc
  have hget : ∀ (j : Nat), ((cur.toList.drop off).take cs.length)[j]? = if j < cs.length then cur[off + j]? else none := fun j => by
   rw [List.getElem?_take]; split <;> simp
  refine ⟨(cur.toList.drop off).take cs.length, by simp; omega, fun j u c hu hcc => ?_, fun W => by rw [hxe]; rfl, fun W k hW hk => ?_, fun u hu => ?_⟩
  ·rw [hget] at hu
   split at hu
   ·exact hc j u c hu hcc
   ·cases hu
  ·rw [hxe]
   have hkm : k * es ≤ n * es := Nat.mul_le_mul_right _ hk
   simp only [Builtin.firstCells]
   rw [run_loads (w := W) (by rw [hW]; exact hb) off (k * es) (by omega)]
   congr 1
   apply Array.ext'
   simp only [Array.toList_extract, List.extract_eq_take_drop, List.take_take]
   rw [show off + k * es - off = min (k * es) cs.length by omega]
  ·obtain ⟨j, hj⟩ := List.getElem?_of_mem hu
   rw [hget] at hj
   split at hj
   ·rename_i hlt
    obtain ⟨c, hcc⟩ := getElem?_of_lt cs j hlt
    exact (hc j u c hj hcc).one'
   ·cases hj
 have empty : ∀ a cap, x = .slice a 0 cap → n = 0 → ys = [] → ys.length = n * es ∧ ∃ news : List Value, news.length = ys.length ∧ (∀ (j : Nat) u c, news[j]? = some u → ys[j]? = some c → PRep w (Im base Im0 m s) u c) ∧ (∀ W, (Builtin.lenOf x).run P W = .ok n W) ∧
   (∀ (W : World) k, W.heap = w.heap → k ≤ n → (Builtin.firstCells es k x).run P W = .ok (news.take (k * es)).toArray W) ∧ (∀ u ∈ news, u.oneCell' = true) := by
  intro a cap hxe hn hy
  subst hn hy
  refine ⟨by simp, [], rfl, fun j u c hu => by simp at hu, fun W => by rw [hxe]; rfl, fun W k _ hk => ?_, fun u hu => by cases hu⟩
  have : k = 0 := by omega
  subst this
  rw [hxe]
  cases a <;> simp [Builtin.firstCells, loadCells, loadCellsFrom]
 unfold sliceOf at hs
 split at hs
 ·rename_i cs n'
  split at hs
  ·rename_i hl
   cases hs
   rcases inv_psl (inv_p hx) with ⟨a, cap, e1, rfl, rfl⟩ | ⟨b, off, cap, cur, e, fr, e1, k1, k2, k3, k4, k5⟩
   ·exact empty a cap e1 rfl rfl
   ·exact ⟨hl.symm, row b off cap cur e fr ys e1 k2 hl.symm k3 k5⟩
  ·cases hs
 ·cases hs
  obtain ⟨a, e1⟩ := inv_nils (inv_p hx)
  exact empty a 0 e1 rfl rfl
 ·rename_i l
  split at hs
  ·rename_i he
   subst he
   cases hs
   obtain ⟨st, e1, rfl⟩ := inv_str hx
   refine ⟨by simp, st.data.toList.map (fun b => Value.int .u8 (b.toNat : Int)), by simp, fun j u c hu hc => ?_, fun W => ?_, fun W k _ hk => ?_, fun u hu => ?_⟩
   ·rw [List.getElem?_map] at hu hc
    cases hb : st.data.toList[j]? with
    | none => rw [hb] at hu; cases hu
    | some b => rw [hb] at hu hc; cases hu; cases hc; exact .int ..
   ·rw [e1, str_len]; rfl
   ·rw [e1]
    simp only [Builtin.firstCells, Sem.run_pure, Nat.mul_one]
    congr 1
    apply Array.ext'
    simp [ByteArray.data_extract]
   ·obtain ⟨b, _, rfl⟩ := List.mem_map.1 hu; rfl
  ·cases hs
 ·rename_i id ver off len
  split at hs
  ·rename_i cs v e' hg
   split at hs
   ·rename_i hc
    obtain ⟨rfl, hbd⟩ := hc
    obtain ⟨o', hg', hrow, hvo, hsl⟩ := inv_sl hx (by unfold okv; rw [hg]; simp [verO])
    rw [hg] at hg'; cases hg'
    have hys : ys = (cs.drop off).take (len * es) ∧ n = len := by
     split at hs
     ·rename_i hf; cases hs; exact ⟨by rw [hf.1, hf.2]; simp, rfl⟩
     ·cases hs; exact ⟨rfl, rfl⟩
    obtain ⟨rfl, rfl⟩ := hys
    have hyl : ((cs.drop off).take (n * es)).length = n * es := by simp; omega
    rcases hsl with ⟨rfl, a, e1⟩ | ⟨b, z, cap, hm, e1, l1, l2⟩
    ·exact empty a 0 e1 rfl (by simp)
    ·rcases h.obj id _ hg with q1 | ⟨b', z', cur, e2, fr, q1, q2, q3, q4, q5, q6⟩
     ·rw [hm] at q1; cases q1.1
     ·rw [hm] at q1; cases q1
      refine ⟨hyl, row b off cap cur e2 fr _ e1 q2 hyl (by omega) (fun j u c hu hc => ?_)⟩
      rw [List.getElem?_take] at hc
      split at hc
      ·rw [List.getElem?_drop] at hc; exact q6 _ u c hu hc
      ·cases hc
   ·cases hs
  ·rename_i cs v e' hg
   split at hs
   ·rename_i hc
    obtain ⟨rfl, hbd⟩ := hc
    obtain ⟨o', hg', hrow, hvo, hsl⟩ := inv_sl hx (by unfold okv; rw [hg]; simp [verO])
    rw [hg] at hg'; cases hg'
    have hys : ys = (cs.drop off).take (len * es) ∧ n = len := by
     split at hs
     ·rename_i hf; cases hs; exact ⟨by rw [hf.1, hf.2]; simp, rfl⟩
     ·cases hs; exact ⟨rfl, rfl⟩
    obtain ⟨rfl, rfl⟩ := hys
    have hyl : ((cs.drop off).take (n * es)).length = n * es := by simp; omega
    rcases hsl with ⟨rfl, a, e1⟩ | ⟨b, z, cap, hm, e1, l1, l2⟩
    ·exact empty a 0 e1 rfl (by simp)
    ·rcases h.obj id _ hg with q1 | ⟨b', z', cur, e2, fr, q1, q2, q3, q4, q5, q6⟩
     ·rw [hm] at q1; cases q1.1
     ·rw [hm] at q1; cases q1
      refine ⟨hyl, row b off cap cur e2 fr _ e1 q2 hyl (by omega) (fun j u c hu hc => ?_)⟩
      rw [List.getElem?_take] at hc
      split at hc
      ·rw [List.getElem?_drop] at hc; exact q6 _ u c hu hc
      ·cases hc
   ·cases hs
  ·cases hs
 ·cases hs

/-! append -/

def mApp (P : Program) (o : Op) (es bytes : Nat) (y z : Opd) : Bool := match o with
 | .call { callee := .builtin .append, args, argTypes } => (match args.toList, argTypes[0]? with
  | [x, v], some t => mOpd x y && mOpd v z && (match P.underlying t with
   | some (.slice e) => (match P.info? e with | some i => i.size == es && i.bytes == bytes && (match i.zero with | some zv => zv.cells.size == es | none => false) | none => false)
   | _ => false) && (match argTypes[1]? with | some t' => (match P.underlying t' with | some (.int _) => false | some _ => true | none => false) | none => true)
  | _, _ => false)
 | _ => false

theorem append_run {t e : Nat} {i : TypeInfo} {zv : Value} {argTypes : Array TypeId} {base' : Option Addr} {sLen sCap n : Nat} {x : Value} {news : List Value} (ht0 : argTypes[0]? = some t) (hu : P.underlying t = some (.slice e)) (hi : P.info? e = some i) (hz : i.zero = some zv) (hzs : zv.cells.size = i.size)
  (ht1 : (match argTypes[1]? with | some t' => (match P.underlying t' with | some (.int _) => false | some _ => true | none => false) | none => true) = true)
  (hlen : ∀ W, (Builtin.lenOf x).run P W = .ok n W) (hf : ∀ W : World, W.heap = w.heap → (Builtin.firstCells i.size n x).run P W = .ok news.toArray W) :
  (sLen + n ≤ sCap → ∀ w', (match base' with | some a => storeCells (a.add (sLen * i.size)) news | none => pure ()).run P w = .ok () w' → ∀ ty, (Builtin.append_ argTypes ty #[.slice base' sLen sCap, x]).run P w = .ok (.slice base' (sLen + n) sCap) w') ∧
  (sLen + n ≤ lim → i.bytes ≤ 1024 → sCap < sLen + n → ∀ olds : List Value, (∀ W : World, W.heap = w.heap → (Builtin.firstCells i.size sLen (.slice base' sLen sCap)).run P W = .ok olds.toArray W) →
   ∃ cap cur, sLen + n ≤ cap ∧ cur.size = olds.length + news.length + (cap - (sLen + n)) * i.size ∧ (∀ j, j < olds.length + news.length → cur[j]? = (olds ++ news)[j]?) ∧
    ∀ ty, (Builtin.append_ argTypes ty #[.slice base' sLen sCap, x]).run P w = .ok (.slice (some ⟨w.heap.size, 0, none⟩) (sLen + n) cap) (w.drew.alloc (.cells cur e))) := by
 have h1 : argTypes[1]? = none ∨ ∃ t' d, argTypes[1]? = some t' ∧ P.underlying t' = some d ∧ ∀ k, d ≠ .int k := by
  cases h1 : argTypes[1]? with
  | none => exact .inl rfl
  | some t' =>
   rw [h1] at ht1
   simp only at ht1
   cases h2 : P.underlying t' with
   | none => rw [h2] at ht1; cases ht1
   | some d =>
    rw [h2] at ht1
    exact .inr ⟨t', d, rfl, h2, fun k e => by subst e; cases ht1⟩
 constructor
 ·intro hle w' hst ty
  have hf0 := hf w rfl
  rcases h1 with h1 | ⟨t', d, h1, h2, h3⟩
  ·simp only [Builtin.append_, List.getElem?_toArray, List.getElem?_cons_zero, List.getElem?_cons_succ, ht0, h1, Sem.run_bind, run_underlying hu, run_size hi, Result.andThen_ok, Sem.run_pure, Bool.false_eq_true, if_false, hlen, Bool.not_false, if_true, hle, hf0]
   cases base' with
   | none => simp at hst; simp [hst]
   | some a => simp only at hst; simp [hst]
  ·simp only [Builtin.append_, List.getElem?_toArray, List.getElem?_cons_zero, List.getElem?_cons_succ, ht0, h1, Sem.run_bind, run_underlying hu, run_underlying h2, run_size hi, Result.andThen_ok, Sem.run_pure]
   cases d with
   | int k => exact absurd rfl (h3 k)
   | _ =>
    simp only [Bool.false_eq_true, if_false, Sem.run_bind, hlen, Result.andThen_ok, Bool.not_false, if_true, hle, hf0]
    cases base' with
    | none => simp at hst; simp [hst]
    | some a => simp only at hst; simp [hst]
 ·intro hlim hby hgt olds hold
  have h63 : ¬ (((sLen + n : Nat) : Int) > IntKind.i64.max) := by
   have : IntKind.i64.max = 9223372036854775807 := by decide
   simp only [lim] at hlim
   omega
  have hnle : ¬ (sLen + n ≤ sCap) := by omega
  have hfit := growslice_fits (bytes := i.bytes) hgt (by
   have : (sLen + n) * i.bytes ≤ lim * 1024 := Nat.mul_le_mul hlim hby
   simp only [lim] at this
   omega)
  have h48 : ¬ (Builtin.nextslicecap (sLen + n) sCap * i.bytes > 2 ^ 48) := by simp; omega
  have h63' : ∀ p : Prop, ¬ (((sLen + n : Nat) : Int) > IntKind.i64.max ∧ p) := fun p h => h63 h.1
  refine ⟨grownCap w (sLen + n) sCap e, olds.toArray ++ news.toArray ++ Builtin.zeroCells zv.cells (grownCap w (sLen + n) sCap e - (sLen + n)), by simp [grownCap, Question.cut], by simp [Builtin.zeroCells, hzs], fun j hj => ?_, fun ty => ?_⟩
  ·rw [Array.getElem?_append_left (by simpa using hj)]
   simp
  ·have ho0 := hold w.drew rfl
   have hf0 := hf w.drew rfl
   have fin : (do
     let newCap ← choose (.appendCap (sLen + n) sCap e)
     askRoom (newCap * (← typeInfo e).bytes)
     let old ← Builtin.firstCells i.size sLen (.slice base' sLen sCap)
     let new ← Builtin.firstCells i.size n x
     let rest := Builtin.zeroCells (← zeroValue e).cells (newCap - (sLen + n))
     pure (.slice (some (← newRow e (old ++ new ++ rest))) (sLen + n) newCap) : Sem Value).run P w = .ok (.slice (some ⟨w.heap.size, 0, none⟩) (sLen + n) (grownCap w (sLen + n) sCap e)) (w.drew.alloc (.cells (olds.toArray ++ news.toArray ++ Builtin.zeroCells zv.cells (grownCap w (sLen + n) sCap e - (sLen + n))) e)) := by
    simp [Question.forced, typeInfo, zeroValue, hi, hz, ho0, hf0, newRow, grownCap]
    congr 2
    apply Array.ext'
    simp
   rcases h1 with h1 | ⟨t', d, h1, h2, h3⟩
   ·simp only [Builtin.append_, List.getElem?_toArray, List.getElem?_cons_zero, List.getElem?_cons_succ, ht0, h1, Sem.run_bind, run_underlying hu, run_size hi, run_info hi, Result.andThen_ok, Sem.run_pure, Bool.false_eq_true, if_false, hlen, Bool.not_false, if_true, hnle, h63', h48]
    simpa only [Sem.run_bind, Sem.run_pure, run_info hi, Result.andThen_ok] using fin
   ·simp only [Builtin.append_, List.getElem?_toArray, List.getElem?_cons_zero, List.getElem?_cons_succ, ht0, h1, Sem.run_bind, run_underlying hu, run_underlying h2, run_size hi, Result.andThen_ok, Sem.run_pure]
    cases d with
    | int k => exact absurd rfl (h3 k)
    | _ =>
     simp only [Bool.false_eq_true, if_false, Sem.run_bind, hlen, Result.andThen_ok, Bool.not_false, if_true, hnle, h63', run_info hi, h48]
     simpa only [Sem.run_bind, Sem.run_pure, run_info hi, Result.andThen_ok] using fin

theorem cat_rel {α β : Type} (R : α → β → Prop) {a b : List α} {c d : List β} (hl : a.length = c.length) (h1 : ∀ (j : Nat) u x, a[j]? = some u → c[j]? = some x → R u x) (h2 : ∀ (j : Nat) u x, b[j]? = some u → d[j]? = some x → R u x) :
  ∀ (j : Nat) u x, (a ++ b)[j]? = some u → (c ++ d)[j]? = some x → R u x := by
 intro j u x hu hx
 by_cases hj : j < a.length
 ·rw [List.getElem?_append_left hj] at hu
  rw [List.getElem?_append_left (by omega)] at hx
  exact h1 j u x hu hx
 ·rw [List.getElem?_append_right (by omega)] at hu
  rw [List.getElem?_append_right (by omega)] at hx
  rw [← hl] at hx
  exact h2 _ u x hu hx

theorem mApp_spec {o : Op} {es bytes : Nat} {y z : Opd} (hm : mApp P o es bytes y z = true) : ∃ x v argTypes t e i zv, o = .call { callee := .builtin .append, args := #[x, v], argTypes } ∧ mOpd x y = true ∧ mOpd v z = true ∧ argTypes[0]? = some t ∧ P.underlying t = some (.slice e) ∧
  P.info? e = some i ∧ i.zero = some zv ∧ zv.cells.size = i.size ∧ i.size = es ∧ i.bytes = bytes ∧ (match argTypes[1]? with | some t' => (match P.underlying t' with | some (.int _) => false | some _ => true | none => false) | none => true) = true := by
 unfold mApp at hm
 split at hm
 ·rename_i args argTypes
  split at hm
  ·rename_i x v t hargs ht
   have ha : args = #[x, v] := by apply Array.ext'; simpa using hargs
   subst ha
   simp only [Bool.and_eq_true] at hm
   obtain ⟨⟨⟨h1, h2⟩, h3⟩, h4⟩ := hm
   split at h3
   ·rename_i e hu
    split at h3
    ·rename_i i hi
     simp only [Bool.and_eq_true, beq_iff_eq] at h3
     obtain ⟨⟨h5, h6⟩, h7⟩ := h3
     split at h7
     ·rename_i zv hz
      exact ⟨x, v, argTypes, t, e, i, zv, rfl, h1, h2, ht, hu, hi, hz, by rw [h5]; simpa using h7, h5, h6, h4⟩
     ·cases h7
    ·cases h3
   ·cases h3
  ·cases hm
 ·cases hm

theorem ok_app {o : Oper} {es bytes : Nat} {zero : List AVal} {y z : Opd} (hm : mApp P o.op es bytes y z = true) (h : SRep CM base Im0 w m s) (hb : base ≤ w.heap.size) (hρ : OpdOk w (Im base Im0 m s) m s ρ ρa) (hq : (opFn ρa s (.app es bytes zero y z)).All Q) : Post CM base Im0 w m s Q ((execOp ρ o).run P w) := by
 obtain ⟨x, v, argTypes, t, e, i, zv, hx, h1, h2, ht, hu, hi, hz, hzs, he, hby, h4⟩ := mApp_spec hm
 subst he hby
 have run : ∀ r w', (∀ ty, (Builtin.append_ argTypes ty #[ρ x, ρ v]).run P w = .ok r w') → (execOp ρ o).run P w = .ok (.value r) w' := fun r w' hn => by
  simp [execOp, hx, resolve, invoke, builtin, hn]
 have hrx := hρ x y h1
 have hrv := hρ v z h2
 simp only [opFn] at hq
 split at hq
 ·rename_i ys mm hs
  obtain ⟨hyl, news, hnl, hnr, hlen, hfirst, hone⟩ := slice_read (P := P) h hrv hs
  have hfirst' : ∀ W : World, W.heap = w.heap → (Builtin.firstCells i.size mm (ρ v)).run P W = .ok news.toArray W := fun W hW => by
   have := hfirst W mm hW (Nat.le_refl _)
   rw [List.take_of_length_le (by omega)] at this
   exact this
  have hn0 : mm = 0 → news = [] := fun e => List.eq_nil_of_length_eq_zero (by rw [hnl, hyl, e]; simp)
  have old0 : ∀ (a : Option Addr), ∀ W : World, W.heap = w.heap → (Builtin.firstCells i.size 0 (.slice a 0 0)).run P W = .ok ([] : List Value).toArray W := fun a W _ => by
   cases a <;> simp [Builtin.firstCells, loadCells, loadCellsFrom]
  have app : ∀ {base' : Option Addr} {sLen sCap : Nat}, _ := fun {base'} {sLen} {sCap} => append_run (w := w) (base' := base') (sLen := sLen) (sCap := sCap) ht hu hi hz hzs h4 hlen hfirst'
  split at hq
  ·rename_i hy
   rw [hy] at hrx
   obtain ⟨a, e1⟩ := inv_nils (inv_p hrx)
   split at hq
   ·rename_i hm0
    subst hm0
    have hnn := hn0 rfl
    subst hnn
    exact Post.same h hq (.p _ _ (.nils a)) (run _ _ (fun ty => by rw [e1]; exact app.1 (by omega) w (by cases a <;> rfl) ty))
   ·rename_i hm0
    split at hq
    ·rename_i hc
     obtain ⟨c1, c2, c3⟩ := hc
     obtain ⟨cap, cur, g1, g2, g3, g4⟩ := (app (base' := a) (sLen := 0) (sCap := 0)).2 (by omega) c2 (by omega) [] (old0 a)
     simp only [Nat.zero_add, List.length_nil, List.nil_append] at g1 g2 g3 g4
     have hs0 := h.ext (Ext.drew w)
     have hcc : CellsP w.drew (Im base Im0 m s) cur ys := fun j u c hu hc => by
      have hj := lt_of_some hc
      rw [g3 j (by omega)] at hu
      exact (hnr j u c hu hc).mono ((Ext.drew w).evo 0 m s).keeps
     obtain ⟨hs1, ev1⟩ := new_arr hs0 (by simpa using hb) cur e (0, 0) (nofrz0 _) ys 0 i.size (by omega) hcc
     refine ⟨_, _, _, _, _, hq, hs1, fun lo => ((Ext.drew w).evo lo m s).trans (ev1 lo), ?_, .inl (run _ _ (fun ty => by rw [e1]; exact g4 ty))⟩
     refine .sl _ _ _ _ _ _ (by rw [get_new, if_pos rfl]) rfl (Nat.le_refl _) (fun _ => .inr ⟨w.heap.size, cur.size, cap, upd_same _ _ _, rfl, g1, ?_⟩) rfl
     have : cap * i.size = mm * i.size + (cap - mm) * i.size := by rw [← Nat.add_mul]; congr 1; omega
     simp only [esO]; omega
    ·exact hq.elim
  ·rename_i id ver off n hy
   rw [hy] at hrx
   split at hq
   ·rename_i cs vr es' hg
    split at hq
    ·rename_i hc
     obtain ⟨rfl, rfl, rfl, c4, c5, c6, c7⟩ := hc
     obtain ⟨o', hg', hrow, hvo, hsl⟩ := inv_sl hrx (by unfold okv; rw [hg]; simp [verO])
     rw [hg] at hg'; cases hg'
     simp only [esO] at hsl
     have grow : ∀ (a : Option Addr) (cap0 : Nat) (olds : List Value), mm ≠ 0 → ρ x = .slice a n cap0 → cap0 < n + mm → olds.length = cs.length → (∀ (j : Nat) u c, olds[j]? = some u → cs[j]? = some c → PRep w (Im base Im0 m s) u c) →
       (∀ W : World, W.heap = w.heap → (Builtin.firstCells i.size n (.slice a n cap0)).run P W = .ok olds.toArray W) → Post CM base Im0 w m s Q ((execOp ρ o).run P w) := by
      intro a cap0 olds hm0 e1 hlt holl horel hold
      rw [if_neg hm0] at hq
      obtain ⟨cap, cur, g1, g2, g3, g4⟩ := (app (base' := a) (sLen := n) (sCap := cap0)).2 c5 c6 hlt olds hold
      have hs0 := h.ext (Ext.drew w)
      have hcc : CellsP w (Im base Im0 m s) cur (cs ++ ys) := fun j u c hu hc => by
       have hj := lt_of_some hc
       rw [List.length_append] at hj
       rw [g3 j (by omega)] at hu
       exact cat_rel _ holl horel hnr j u c hu hc
      obtain ⟨hs1, ev1⟩ := hs0.put (w' := w.drew.alloc (.cells cur e)) (o' := .arr (cs ++ ys) (vr + 1) i.size) hg (some (w.heap.size, cur.size)) rfl rfl rfl (by simp)
       (fun b hb' _ => (Ext.alloc w.drew _).same b hb')
       (fun b z lp _ hl => ⟨lp, (Ext.alloc w.drew _).heap hl⟩)
       (fun b z hx => by cases hx; exact .inr ⟨by simp, by simp, by simpa using hb⟩) rfl rfl (by simp [verO]) (fun e => by simp [verO] at e) (fun _ => rfl)
       (fun I' hk hko _ => .inr ⟨w.heap.size, cur.size, cur, e, (0, 0), upd_same _ _ _, alloc_new w.drew _, nofrz0 _, rfl, by rw [List.length_append]; omega, hcc.mono (((Ext.drew w).evo 0 m s).keeps.trans hk)⟩)
      refine ⟨_, _, _, _, _, hq, hs1, fun lo => ((Ext.drew w).evo lo m s).trans (ev1 lo), ?_, .inl (run _ _ (fun ty => by rw [e1]; exact g4 ty))⟩
      refine .sl _ _ _ _ _ (.arr (cs ++ ys) (vr + 1) i.size) (by rw [get_put, if_pos rfl, hg]; rfl) rfl (Nat.le_refl _) (fun _ => .inr ⟨w.heap.size, cur.size, cap, upd_same _ _ _, rfl, g1, ?_⟩) rfl
      have : cap * i.size = n * i.size + mm * i.size + (cap - (n + mm)) * i.size := by rw [← Nat.add_mul, ← Nat.add_mul]; congr 1; omega
      simp only [esO]; omega
     rcases hsl with ⟨rfl, a, e1⟩ | ⟨b, z, cap0, hm', e1, l1, l2⟩
     ·by_cases hm0 : mm = 0
      ·subst hm0
       rw [if_pos rfl] at hq
       have hnn := hn0 rfl
       subst hnn
       exact Post.same h hq (.sl _ _ _ _ _ _ hg rfl (Nat.le_refl _) (fun _ => .inl ⟨rfl, a, rfl⟩) rfl) (run _ _ (fun ty => by rw [e1]; exact app.1 (by omega) w (by cases a <;> rfl) ty))
      ·have : cs = [] := List.eq_nil_of_length_eq_zero (by simpa using c4.symm)
       subst this
       exact grow a 0 [] hm0 e1 (by omega) rfl (fun j u c hu => by simp at hu) (old0 a)
     ·rcases h.obj id _ hg with q1 | ⟨b', z', cur, e2, fr, q1, q2, q3, q4, q5, q6⟩
      ·rw [hm'] at q1; cases q1.1
      ·rw [hm'] at q1; cases q1
       by_cases hm0 : mm = 0
       ·subst hm0
        rw [if_pos rfl] at hq
        have hnn := hn0 rfl
        subst hnn
        exact Post.same h hq (.sl _ _ _ _ _ _ hg rfl (Nat.le_refl _) (fun _ => .inr ⟨b, z, cap0, hm', rfl, l1, l2⟩) rfl) (run _ _ (fun ty => by rw [e1]; exact app.1 (by omega) w rfl ty))
       ·by_cases hfit : n + mm ≤ cap0
        ·rw [if_neg hm0] at hq
         have hbig : n * i.size + mm * i.size ≤ cap0 * i.size := by rw [← Nat.add_mul]; exact Nat.mul_le_mul_right _ hfit
         have hst := run_stores (P := P) news cur w (n * i.size) 0 q2 (by rw [q4]; exact q3) (by omega) hone
         have hst' : (storeCells ((⟨b, 0, none⟩ : Addr).add (n * i.size)) news).run P w = .ok () (setB w b (.cells (setA cur (n * i.size) news) e2 fr)) := by
          rw [addr_add]; simpa using hst
         have hcc : CellsP w (Im base Im0 m s) (setA cur (n * i.size) news) (cs ++ ys) := fun j u c hu hc => by
          rw [setA_get _ _ _ _ (by omega)] at hu
          by_cases hj : j < cs.length
          ·rw [if_neg (by omega)] at hu
           rw [List.getElem?_append_left hj] at hc
           exact q6 j u c hu hc
          ·have := lt_of_some hc
           rw [List.length_append] at this
           rw [if_pos (by omega)] at hu
           rw [List.getElem?_append_right (by omega)] at hc
           exact hnr _ u c (by rw [← c4]; exact hu) hc
         obtain ⟨hs1, ev1⟩ := h.put (w' := setB w b (.cells (setA cur (n * i.size) news) e2 fr)) (o' := .arr (cs ++ ys) (vr + 1) i.size) hg (m id) rfl rfl rfl (by rw [setB_size]; exact Nat.le_refl _)
          (fun b' hb' hz' => setB_ne w _ (fun e => by subst e; have := hz' z hm'; cases this))
          (fun b' z' lp hm'' hl' => by rw [hm'] at hm''; cases hm''; rw [q2] at hl'; cases hl')
          (fun b' z' hx => .inl ⟨z', hx⟩) rfl rfl (by simp [verO]) (fun e => by simp [verO] at e) (fun _ => rfl)
          (fun I' hk hko _ => .inr ⟨b, z, _, e2, fr, by rw [upd_same]; exact hm', setB_same w _ (heap_lt q2), q3, by rw [setA_size]; exact q4, by rw [List.length_append]; omega, hcc.mono hk⟩)
         refine ⟨_, _, _, _, _, hq, hs1, ev1, ?_, .inl (run _ _ (fun ty => by rw [e1]; exact (app (base' := some ⟨b, 0, none⟩)).1 hfit _ hst' ty))⟩
         refine .sl _ _ _ _ _ (.arr (cs ++ ys) (vr + 1) i.size) (by rw [get_put, if_pos rfl, hg]; rfl) rfl (Nat.le_refl _) (fun _ => .inr ⟨b, z, cap0, by rw [upd_same]; exact hm', rfl, hfit, l2⟩) rfl
        ·refine grow (some ⟨b, 0, none⟩) cap0 (cur.toList.take (n * i.size)) hm0 e1 (by omega) (by simp; omega) (fun j u c hu hc => ?_) (fun W hW => ?_)
         ·rw [List.getElem?_take] at hu
          split at hu
          ·exact q6 j u c (by simpa using hu) hc
          ·cases hu
         ·simp only [Builtin.firstCells]
          rw [run_loads (w := W) (by rw [hW]; exact q2) 0 (n * i.size) (by omega)]
          congr 1
          apply Array.ext'
          simp [List.extract_eq_take_drop]
    ·exact hq.elim
   ·exact hq.elim
  ·exact hq.elim
 ·exact hq.elim

end
end Fw
end

section
/-
  Operations, eighth part: copy, make, conversions.
-/
namespace Fw
open Go

theorem put_self {s : Sto} {i : Nat} {o : Obj} (h : get s i = some o) : put s i o = s := by
 induction s with
 | nil => rfl
 | cons x r ih =>
  obtain ⟨k, p⟩ := x
  simp only [get] at h
  simp only [put]
  split
  ·rename_i e; rw [if_pos e] at h; cases h; rfl
  ·rename_i e; rw [if_neg e] at h; rw [ih h]

section
variable {CM : Nat → Code → ACode → Prop} {base : Nat} {Im0 : Nat → Prop} {w : World} {m : Mem} {s : Sto} {P : Program} {ρ : Operand → Value} {ρa : Opd → AVal} {Q : AVal × Sto → Prop} {I : Nat → Prop}

/-! copy -/

def mCopy (P : Program) (o : Op) (es : Nat) (y z : Opd) : Bool := match o with
 | .call { callee := .builtin .copy, args, argTypes } => (match args.toList, argTypes[0]? with
  | [x, v], some t => mOpd x y && mOpd v z && (match P.underlying t with
   | some (.slice e) => (match P.info? e with | some i => i.size == es | none => false)
   | _ => false)
  | _, _ => false)
 | _ => false

theorem ok_copy {o : Oper} {es : Nat} {y z : Opd} (hm : mCopy P o.op es y z = true) (h : SRep CM base Im0 w m s) (hρ : OpdOk w (Im base Im0 m s) m s ρ ρa) (hq : (opFn ρa s (.copy es y z)).All Q) : Post CM base Im0 w m s Q ((execOp ρ o).run P w) := by
 unfold mCopy at hm
 split at hm
 ·rename_i args argTypes hx
  split at hm
  ·rename_i x v t hargs ht
   have ha : args = #[x, v] := by apply Array.ext'; simpa using hargs
   subst ha
   simp only [Bool.and_eq_true] at hm
   obtain ⟨⟨h1, h2⟩, h3⟩ := hm
   split at h3
   ·rename_i e hu
    split at h3
    ·rename_i i hi
     have hsz : i.size = es := by simpa using h3
     subst hsz
     have hrx := hρ x y h1
     have hrv := hρ v z h2
     simp only [opFn] at hq
     split at hq
     ·rename_i ys mm id ver off n hs hy
      rw [hy] at hrx
      obtain ⟨hyl, news, hnl, hnr, hlen, hfirst, hone⟩ := slice_read (P := P) h hrv hs
      split at hq
      ·rename_i cs vr e' hg
       split at hq
       ·rename_i hc
        obtain ⟨rfl, rfl, c3, c4⟩ := hc
        obtain ⟨o', hg', hrow, hvo, hsl⟩ := inv_sl hrx (by unfold okv; rw [hg]; simp [verO])
        rw [hg] at hg'; cases hg'
        simp only [esO] at hsl
        have hk : Nat.min mm n ≤ mm := Nat.min_le_left _ _
        have run : ∀ ad cap w', ρ x = .slice ad n cap → (match ad with | some a => storeCells a (news.take (Nat.min mm n * i.size)) | none => pure ()).run P w = .ok () w' → (execOp ρ o).run P w = .ok (.value (.int .i64 ((Nat.min mm n : Nat) : Int))) w' := fun ad cap w' e1 hst => by
         have : ∀ ty, (Builtin.copy_ argTypes ty #[ρ x, ρ v]).run P w = .ok (.int .i64 ((Nat.min mm n : Nat) : Int)) w' := fun ty => by
          simp only [Builtin.copy_, ht, List.getElem?_toArray, List.getElem?_cons_zero, List.getElem?_cons_succ, Sem.run_bind, run_underlying hu, e1, Result.andThen_ok, hlen, run_size hi, hfirst w _ rfl hk]
          cases ad with
          | none => simp at hst; simp [hst, goInt]
          | some a => simp only at hst; simp [hst, goInt]
         simp [execOp, hx, resolve, invoke, builtin, this]
        rcases hsl with ⟨rfl, a, e1⟩ | ⟨b, z', cap, hm', e1, l1, l2⟩
        ·have h0 : Nat.min mm 0 = 0 := Nat.min_zero _
         have hst := run a 0 w e1 (by rw [h0]; cases a <;> simp [storeCells])
         rw [h0] at hq hst
         simp only [Nat.zero_mul, List.take_zero, setCells] at hq
         rw [put_self hg] at hq
         exact Post.same h hq (rep_int _ _ _) hst
        ·rcases h.obj id _ hg with q1 | ⟨b2, z2, cur, e2, fr, q1, q2, q3, q4, q5, q6⟩
         ·rw [hm'] at q1; cases q1.1
         ·rw [hm'] at q1; cases q1
          have hkn : Nat.min mm n * i.size ≤ n * i.size := Nat.mul_le_mul_right _ (Nat.min_le_right _ _)
          have hkm : Nat.min mm n * i.size ≤ mm * i.size := Nat.mul_le_mul_right _ hk
          have htl : (news.take (Nat.min mm n * i.size)).length = Nat.min mm n * i.size := by rw [List.length_take, hnl, hyl]; omega
          have htl2 : (ys.take (Nat.min mm n * i.size)).length = Nat.min mm n * i.size := by rw [List.length_take, hyl]; omega
          have hst := run_stores (P := P) (news.take (Nat.min mm n * i.size)) cur w off 0 q2 (by rw [q4]; exact q3) (by rw [htl]; omega) (fun u hu => hone u (List.mem_of_mem_take hu))
          have hst' := run _ _ (setB w b (.cells (setA cur off (news.take (Nat.min mm n * i.size))) e2 fr)) e1 (by simpa [storeCells] using hst)
          obtain ⟨hs1, ev1⟩ := write_arr h hg hm' q2 q3 q4 _ (setA cur off (news.take (Nat.min mm n * i.size))) (by rw [setA_size]; exact q4) (by rw [setCells_length]; exact q5)
           (setA_rel (PRep w (Im base Im0 m s)) _ (ys.take (Nat.min mm n * i.size)) cur cs off (by rw [htl, htl2]) q6 (fun j u c hu hcc => by
            rw [List.getElem?_take] at hu hcc
            split at hu
            ·rename_i hj
             rw [if_pos hj] at hcc
             exact hnr j u c hu hcc
            ·cases hu) (by omega) (by omega))
          exact ⟨_, _, _, _, _, hq, hs1, ev1, rep_int _ _ _, .inl hst'⟩
       ·exact hq.elim
      ·exact hq.elim
     ·exact hq.elim
    ·cases h3
   ·cases h3
  ·cases hm
 ·cases hm

/-! make -/

def mMkslice (P : Program) (o : Op) (es : Nat) (zero : List AVal) (y z : Opd) : Bool := match o with
 | .makeSlice t l c => mOpd l y && mOpd c z && (match P.underlying t with
  | some (.slice e) => mZero P e zero && (match P.info? e with | some i => i.size == es && zero.length == es && decide (i.bytes ≤ 1024) | none => false)
  | _ => false)
 | _ => false

theorem ok_mkslice {o : Oper} {es : Nat} {zero : List AVal} {y z : Opd} (hm : mMkslice P o.op es zero y z = true) (h : SRep CM base Im0 w m s) (hb : base ≤ w.heap.size) (hρ : OpdOk w (Im base Im0 m s) m s ρ ρa) (hq : (opFn ρa s (.mkslice es zero y z)).All Q) : Post CM base Im0 w m s Q ((execOp ρ o).run P w) := by
 unfold mMkslice at hm
 split at hm
 ·rename_i t lo co hx
  simp only [Bool.and_eq_true] at hm
  obtain ⟨⟨h1, h2⟩, h3⟩ := hm
  split at h3
  ·rename_i e hu
   simp only [Bool.and_eq_true] at h3
   obtain ⟨h3, h4⟩ := h3
   obtain ⟨i, zv, hi, hz, hcz⟩ := mZero_spec h3
   rw [hi] at h4
   simp only [Bool.and_eq_true, beq_iff_eq, decide_eq_true_eq] at h4
   obtain ⟨⟨rfl, h5⟩, h6⟩ := h4
   simp only [opFn] at hq
   split at hq
   ·rename_i l c hl hc
    obtain ⟨k1, e1⟩ := toInt64_spec (hρ lo y h1) hl
    obtain ⟨k2, e2⟩ := toInt64_spec (hρ co z h2) hc
    split at hq
    ·rename_i hcond
     obtain ⟨c1, c2, c3⟩ := hcond
     split at hq
     ·rename_i ps hps
      obtain ⟨hzl, hzc⟩ := cellsP_of_const (w := w) hcz hps (Im base Im0 m s)
      obtain ⟨l, rfl⟩ : ∃ k : Nat, l = (k : Int) := ⟨l.toNat, by omega⟩
      obtain ⟨c, rfl⟩ : ∃ k : Nat, c = (k : Int) := ⟨c.toNat, by omega⟩
      have hlim : lim = 1073741824 := rfl
      have w1 := i64_in (l : Int) (by omega) (by omega)
      have w2 := i64_in (c : Int) (by omega) (by omega)
      have hbc : i.bytes * c ≤ 1024 * 1073741824 := Nat.mul_le_mul h6 (by omega)
      have hbl : i.bytes * l ≤ 1024 * 1073741824 := Nat.mul_le_mul h6 (by omega)
      have n1 : ¬ (281474976710656 < (i.bytes : Int) * (c : Int)) := by
       have : ((i.bytes * c : Nat) : Int) = (i.bytes : Int) * (c : Int) := by simp
       omega
      have n2 : ¬ ((c : Int) < 0) := by omega
      have n3 : ¬ ((l : Int) < 0) := by omega
      have n4 : ¬ ((c : Int) < (l : Int)) := by omega
      have as1 : ∀ (k : IntKind) (n : Int) (W : World), (asInt (.int k n)).run P W = .ok n W := fun _ _ _ => rfl
      have hps' : ps.length = zv.cells.size := by rw [← hzl]; simp
      have hzs : zv.cells.size = zero.length := by
       obtain ⟨a, _⟩ := constC_rep hcz w (fun _ => True)
       simpa using a
      have key : ∃ cur : Array Value, cur.size = c * i.size ∧ CellsP w (Im base Im0 m s) cur (List.replicate l ps).flatten ∧ (execOp ρ o).run P w = .ok (.value (.slice (some ⟨w.heap.size, 0, none⟩) l c)) (w.alloc (.cells cur e)) := by
       by_cases h0 : c * i.size = 0
       ·refine ⟨(Array.range (c * i.size)).map ((#[] : Array Value)[· % (#[] : Array Value).size]!), by simp, fun j u cc hu => by rw [h0] at hu; simp at hu, ?_⟩
        simp [execOp, hx, Instr.makeSlice, run_underlying hu, e1, e2, as1, run_info hi, w1, w2, n1, n2, n3, n4, run_size hi, h0, run_newRow]
       ·refine ⟨(Array.range (c * i.size)).map (zv.cells[· % zv.cells.size]!), by simp, fun j u cc hu hcc => ?_, ?_⟩
        ·have hpos : 0 < zv.cells.size := by
          rw [hzs, h5]
          rcases Nat.eq_zero_or_pos i.size with h | h
          ·rw [h] at h0; simp at h0
          ·exact h
         obtain ⟨a1, a2⟩ := zeros_eq zv.cells _ hpos j u hu
         rw [flatten_rep] at hcc
         split at hcc
         ·rw [hps'] at hcc
          exact hzc _ u cc (by simpa using a2) hcc
         ·cases hcc
        ·simp [execOp, hx, Instr.makeSlice, run_underlying hu, e1, e2, as1, run_info hi, w1, w2, n1, n2, n3, n4, run_size hi, h0, run_newRow, run_zero hi hz]
      obtain ⟨cur, k1, k2, k3⟩ := key
      have hfl : (List.replicate l ps).flatten.length = l * i.size := by
       rw [List.length_flatten]; simp; rw [hps', hzs, h5]
      have hlc : l * i.size ≤ c * i.size := Nat.mul_le_mul_right _ (by omega)
      obtain ⟨hs', hev⟩ := new_arr h hb cur e (0, 0) (nofrz0 _) (List.replicate l ps).flatten 0 i.size (by omega) k2
      refine ⟨_, _, _, _, _, hq, hs', hev, ?_, .inl k3⟩
      refine .sl _ _ _ _ _ _ (by rw [get_new, if_pos rfl]) rfl (Nat.le_refl _) (fun _ => .inr ⟨w.heap.size, cur.size, c, upd_same _ _ _, rfl, by omega, by simp only [esO]; omega⟩) rfl
     ·exact hq.elim
    ·exact hq.elim
   ·exact hq.elim
  ·cases h3
 ·cases hm

/-! clear, of a slice -/

def mClr (P : Program) (o : Op) (es : Nat) (zero : List AVal) (y : Opd) : Bool := match o with
 | .call { callee := .builtin .clear, args, argTypes } => (match args.toList, argTypes[0]? with
  | [x], some t => mOpd x y && (match P.underlying t with
   | some (.slice e) => mZero P e zero && (match P.info? e with | some i => i.size == es | none => false)
   | _ => false)
  | _, _ => false)
 | _ => false

theorem zeroCells_rel {w : World} {zv : Array Value} {ps : List PVal} (hl : ps.length = zv.size) (hc : ∀ (j : Nat) u c, zv[j]? = some u → ps[j]? = some c → PRep w I u c) (n : Nat) :
  (Builtin.zeroCells zv n).toList.length = n * zv.size ∧ ∀ (j : Nat) u c, (Builtin.zeroCells zv n).toList[j]? = some u → (List.replicate n ps).flatten[j]? = some c → PRep w I u c := by
 refine ⟨by simp [Builtin.zeroCells], fun j u c hu hcc => ?_⟩
 rw [flatten_rep] at hcc
 split at hcc
 ·have hz : (Builtin.zeroCells zv n)[j]? = some u := by simpa using hu
  have hpos : 0 < zv.size := by
   rcases Nat.eq_zero_or_pos zv.size with h | h
   ·have : ps = [] := List.eq_nil_of_length_eq_zero (by omega)
    subst this; simp at hcc
   ·exact h
  obtain ⟨a1, a2⟩ := zeros_eq zv _ hpos j u hz
  rw [hl] at hcc
  exact hc _ u c (by simpa using a2) hcc
 ·cases hcc

theorem ok_clr {o : Oper} {es : Nat} {zero : List AVal} {y : Opd} (hm : mClr P o.op es zero y = true) (h : SRep CM base Im0 w m s) (hρ : OpdOk w (Im base Im0 m s) m s ρ ρa) (hq : (opFn ρa s (.clr es zero y)).All Q) : Post CM base Im0 w m s Q ((execOp ρ o).run P w) := by
 unfold mClr at hm
 split at hm
 ·rename_i args argTypes hx
  split at hm
  ·rename_i x t hargs ht
   have ha : args = #[x] := by apply Array.ext'; simpa using hargs
   subst ha
   simp only [Bool.and_eq_true] at hm
   obtain ⟨h1, h3⟩ := hm
   split at h3
   ·rename_i e hu
    simp only [Bool.and_eq_true] at h3
    obtain ⟨h3, h4⟩ := h3
    obtain ⟨i, zv, hi, hz, hcz⟩ := mZero_spec h3
    rw [hi] at h4
    have hsz : i.size = es := by simpa using h4
    subst hsz
    have hrx := hρ x y h1
    simp only [opFn] at hq
    split at hq
    ·rename_i ps id ver off n hps hy
     rw [hy] at hrx
     obtain ⟨hzl, hzc⟩ := cellsP_of_const (w := w) hcz hps (Im base Im0 m s)
     have hzl' : ps.length = zv.cells.size := by rw [← hzl]; simp
     split at hq
     ·rename_i cs vr e' hg
      split at hq
      ·rename_i hc
       obtain ⟨rfl, rfl, c3, c4⟩ := hc
       obtain ⟨o', hg', hrow, hvo, hsl⟩ := inv_sl hrx (by unfold okv; rw [hg]; simp [verO])
       rw [hg] at hg'; cases hg'
       simp only [esO] at hsl
       obtain ⟨zl, zr⟩ := zeroCells_rel (w := w) (I := Im base Im0 m s) hzl' (fun j u c hu hcc => hzc j u c (by simpa using hu) hcc) n
       have run : ∀ ad cap w', ρ x = .slice ad n cap → (match ad with | some a => (if n = 0 then pure () else storeCells a (Builtin.zeroCells zv.cells n).toList) | none => pure ()).run P w = .ok () w' → (execOp ρ o).run P w = .ok (.value (.tuple #[])) w' := fun ad cap w' e1 hst => by
        have : ∀ ty, (Builtin.clear_ argTypes ty #[ρ x]).run P w = .ok (.tuple #[]) w' := fun ty => by
         cases ad with
         | none => simp at hst; simp [Builtin.clear_, ht, run_underlying hu, e1, hst]
         | some a =>
          cases n with
          | zero => simp at hst; simp [Builtin.clear_, ht, run_underlying hu, e1, hst]
          | succ k =>
           simp at hst
           simp [Builtin.clear_, ht, run_underlying hu, e1, run_zero hi hz, hst]
        simp [execOp, hx, resolve, invoke, builtin, this]
       have rt : ∀ w' m' s', ARep w' (Im base Im0 m' s') m' s' (.tuple #[]) (.tup []) := fun w' m' s' => .tup _ _ rfl (fun j u c hu => by simp at hu)
       by_cases h0 : n = 0
       ·subst h0
        have hst : ∃ ad cap, ρ x = .slice ad 0 cap := by
         rcases hsl with ⟨_, a, e1⟩ | ⟨b, z', cap, hm', e1, l1, l2⟩
         ·exact ⟨a, 0, e1⟩
         ·exact ⟨_, cap, e1⟩
        obtain ⟨ad, cap, e1⟩ := hst
        have hst := run ad cap w e1 (by cases ad <;> simp)
        simp only [List.replicate_zero, List.flatten_nil, setCells] at hq
        rw [put_self hg] at hq
        exact Post.same h hq (rt _ _ _) hst
       ·rcases hsl with ⟨rfl, a, e1⟩ | ⟨b, z', cap, hm', e1, l1, l2⟩
        ·exact absurd rfl h0
        ·rcases h.obj id _ hg with q1 | ⟨b2, z2, cur, e2, fr, q1, q2, q3, q4, q5, q6⟩
         ·rw [hm'] at q1; cases q1.1
         ·rw [hm'] at q1; cases q1
          have zl2 : (List.replicate n ps).flatten.length = n * i.size := by
           rw [List.length_flatten]; simp; rw [c4]
          have zl3 : (Builtin.zeroCells zv.cells n).toList.length = n * i.size := by rw [zl, ← hzl', c4]
          have hst := run_stores (P := P) (Builtin.zeroCells zv.cells n).toList cur w off 0 q2 (by rw [q4]; exact q3) (by rw [zl3]; omega) (fun u hu => by
           obtain ⟨j, hj, rfl⟩ := List.getElem_of_mem hu
           have hj2 : j < (List.replicate n ps).flatten.length := by rw [zl2, ← zl3]; exact hj
           exact (zr j _ _ (List.getElem?_eq_getElem hj) (List.getElem?_eq_getElem hj2)).one')
          have hst' := run _ _ (setB w b (.cells (setA cur off (Builtin.zeroCells zv.cells n).toList) e2 fr)) e1 (by simp only [h0, if_false]; simpa [storeCells] using hst)
          obtain ⟨hs1, ev1⟩ := write_arr h hg hm' q2 q3 q4 _ (setA cur off (Builtin.zeroCells zv.cells n).toList) (by rw [setA_size]; exact q4) (by rw [setCells_length]; exact q5)
           (setA_rel (PRep w (Im base Im0 m s)) _ (List.replicate n ps).flatten cur cs off (by rw [zl3, zl2]) q6 zr (by omega) (by omega))
          exact ⟨_, _, _, _, _, hq, hs1, ev1, rt _ _ _, .inl hst'⟩
      ·exact hq.elim
     ·exact hq.elim
    ·exact hq.elim
   ·cases h3
  ·cases hm
 ·cases hm

/-! conversions -/

def mConv (P : Program) (o : Op) (k : Cnv) (y : Opd) : Bool := match o with
 | .convert sr d x => mOpd x y && (match k, P.underlying sr, P.underlying d with
  | .int k, some _, some (.int k') => decide (k = k')
  | .flt k, some _, some (.float k') => decide (k = k')
  | .sid, some .string, some .string => true
  | .i2s, some (.int _), some .string => true
  | .b2s, some (.slice e), some .string => (match P.underlying e with | some (.int .u8) => true | _ => false)
  | .s2b, some .string, some (.slice e) => (match P.underlying e with | some (.int .u8) => true | _ => false)
  | _, _, _ => false)
 | _ => false

theorem bytes_news {cs : List PVal} : ∀ {news : List Value} {l : List UInt8}, bytesOf cs = some l → news.length = cs.length → (∀ (j : Nat) u c, news[j]? = some u → cs[j]? = some c → PRep w I u c) →
  ∃ ns : List Int, news = ns.map (Value.int .u8) ∧ ns.map (fun n => UInt8.ofNat n.toNat) = l := by
 induction cs with
 | nil => intro news l h hl _; simp [bytesOf] at h; subst h; cases news with
  | nil => exact ⟨[], rfl, rfl⟩
  | cons => simp at hl
 | cons c r ih =>
  intro news l h hl hc
  cases news with
  | nil => simp at hl
  | cons v q =>
   have hv := hc 0 v c rfl rfl
   unfold bytesOf at h
   split at h
   ·rename_i e; cases e
   ·rename_i n r' e
    cases e
    cases hv
    cases hb : bytesOf r with
    | none => rw [hb] at h; cases h
    | some l' =>
     rw [hb] at h; cases h
     obtain ⟨ns, rfl, rfl⟩ := ih hb (by simpa using hl) (fun j u c hu hcc => hc (j + 1) u c (by simpa using hu) (by simpa using hcc))
     exact ⟨n :: ns, rfl, rfl⟩
   ·cases h

theorem foldl_push (ns : List Int) : ∀ (r : ByteArray), ns.foldl (fun r n => r.push (UInt8.ofNat n.toNat)) r = ⟨r.data ++ (ns.map (fun n => UInt8.ofNat n.toNat)).toArray⟩ := by
 induction ns with
 | nil => intro r; simp
 | cons n t ih => intro r; simp only [List.foldl_cons]; rw [ih]; simp [ByteArray.push]

theorem slice_form {x : Value} {a : AVal} (hx : ARep w I m s x a) {es : Nat} {ys : List PVal} {n : Nat} (hs : sliceOf s es a = some (ys, n)) (hn : ∀ l, a ≠ .p (.str l)) : ∃ ad cap, x = .slice ad n cap := by
 unfold sliceOf at hs
 split at hs
 ·split at hs
  ·cases hs
   rcases inv_psl (inv_p hx) with ⟨a, cap, e1, rfl, rfl⟩ | ⟨b, off, cap, cur, e, fr, e1, _⟩
   ·exact ⟨_, _, e1⟩
   ·exact ⟨_, _, e1⟩
  ·cases hs
 ·cases hs
  obtain ⟨a, e1⟩ := inv_nils (inv_p hx)
  exact ⟨_, _, e1⟩
 ·exact absurd rfl (hn _)
 ·rename_i id ver off len
  split at hs
  ·rename_i cs v e' hg
   split at hs
   ·rename_i hc
    obtain ⟨rfl, hbd⟩ := hc
    obtain ⟨o', hg', hrow, hvo, hsl⟩ := inv_sl hx (by unfold okv; rw [hg]; simp [verO])
    have : n = len := by split at hs <;> cases hs <;> rfl
    subst this
    obtain ⟨a, cap, e1, _⟩ := hsl.isSlice
    exact ⟨_, _, e1⟩
   ·cases hs
  ·rename_i cs v e' hg
   split at hs
   ·rename_i hc
    obtain ⟨rfl, hbd⟩ := hc
    obtain ⟨o', hg', hrow, hvo, hsl⟩ := inv_sl hx (by unfold okv; rw [hg]; simp [verO])
    have : n = len := by split at hs <;> cases hs <;> rfl
    subst this
    obtain ⟨a, cap, e1, _⟩ := hsl.isSlice
    exact ⟨_, _, e1⟩
   ·cases hs
  ·cases hs
 ·cases hs

theorem ok_conv {o : Oper} {k : Cnv} {y : Opd} (hm : mConv P o.op k y = true) (h : SRep CM base Im0 w m s) (hb : base ≤ w.heap.size) (hρ : OpdOk w (Im base Im0 m s) m s ρ ρa) (hq : (opFn ρa s (.conv k y)).All Q) : Post CM base Im0 w m s Q ((execOp ρ o).run P w) := by
 unfold mConv at hm
 split at hm
 ·rename_i sr d x hx
  simp only [Bool.and_eq_true] at hm
  obtain ⟨h1, h2⟩ := hm
  have hr := hρ x y h1
  have run : ∀ r w', (convert sr d (ρ x)).run P w = .ok r w' → (execOp ρ o).run P w = .ok (.value r) w' := fun r w' hc => by simp [execOp, hx, hc]
  have fin : ∀ a, convA s k (ρa y) = some a → (opFn ρa s (.conv k y)) = some1 a s → (∃ v, (convert sr d (ρ x)).run P w = .ok v w ∧ ARep w (Im base Im0 m s) m s v a) → Post CM base Im0 w m s Q ((execOp ρ o).run P w) := by
   intro a ha he hv
   rw [he] at hq
   obtain ⟨v, hv1, hv2⟩ := hv
   exact Post.same h hq hv2 (run v w hv1)
  have nan_case : ∀ {k0 src b}, convA s k (ρa y) = none → nanC k (ρa y) = some k0 → k = .flt k0 → ρa y = .p (.flt src b) → (P.underlying sr = some (.float src) ∨ ∃ u, P.underlying sr = some u) → P.underlying d = some (.float k0) → Post CM base Im0 w m s Q ((execOp ρ o).run P w) := by
   intro k0 src b ha hk hkk hy hsr hd
   subst hkk
   have hu := inv_flt (hy ▸ hr)
   rw [hy] at hk
   simp only [nanC] at hk
   split at hk
   ·cases hk
   ·rename_i hne
    split at hk
    ·rename_i sg tt hdec
     obtain ⟨i, hi, hrn⟩ := run_nanConv (P := P) (w := w) k0 b
     have he : opFn ρa s (.conv (.flt k0) y) = .pick (nanN k0) fun i => some1 (.p (.flt k0 (nanB k0 i))) s := by
      simp only [opFn, hy] at ha ⊢
      simp only [ha, optN, nanC, if_neg hne, hdec]
     rw [he] at hq
     obtain ⟨u, hsr⟩ : ∃ u, P.underlying sr = some u := by rcases hsr with h | h; exact ⟨_, h⟩; exact h
     have hconv : (convert sr d (ρ x)).run P w = .ok (.float k0 (nanB k0 i)) w.drew := by
      rw [hu]
      simp [convert, run_underlying hsr, run_underlying hd, Conv.floatToFloat, hne, hdec, hrn, Result.andThen]
     exact Post.drew h (hq.2 i hi) (fun w I m s => .p _ _ (.flt ..)) (run _ _ hconv)
    ·cases hk
  have pure_case : (∀ l, ¬ (k = .s2b ∧ ρa y = .p (.str l))) → (∀ a, convA s k (ρa y) = some a → ∃ v, (convert sr d (ρ x)).run P w = .ok v w ∧ ARep w (Im base Im0 m s) m s v a) → (convA s k (ρa y) = none → nanC k (ρa y) ≠ none → Post CM base Im0 w m s Q ((execOp ρ o).run P w)) → Post CM base Im0 w m s Q ((execOp ρ o).run P w) := by
   intro hn hv hnan
   have he : opFn ρa s (.conv k y) = optN (convA s k (ρa y)) (nanC k (ρa y)) s := by
    simp only [opFn]
    split
    ·rename_i l hl; exact absurd ⟨rfl, hl⟩ (hn l)
    ·rfl
   cases ha : convA s k (ρa y) with
   | none =>
    cases hk : nanC k (ρa y) with
    | none => rw [he, ha, hk] at hq; exact hq.elim
    | some k0 => exact hnan ha (by rw [hk]; simp)
   | some a =>
    exact fin a ha (by rw [he, ha]; rfl) (hv a ha)
  split at h2
  ·rename_i k0 us k' hs hd
   have : k0 = k' := by simpa using h2
   subst this
   refine pure_case (fun l hl => by cases hl.1) (fun a ha => ?_) (fun _ hk => absurd rfl hk)
   generalize hy : ρa y = ya at ha hr
   cases ya with
   | p v =>
    cases v with
    | int k1 n =>
     simp only [convA, Option.some.injEq] at ha
     subst ha
     have := inv_int hr
     exact ⟨_, by rw [this]; simp [convert, run_underlying hs, run_underlying hd, Conv.intToInt], rep_int _ _ _⟩
    | flt src b =>
     simp only [convA] at ha
     split at ha
     ·rename_i n hn
      split at ha
      ·rename_i hmm
       cases ha
       have := inv_flt hr
       exact ⟨_, by rw [this]; simp [convert, run_underlying hs, run_underlying hd, Conv.floatToInt, hn, hmm], rep_int _ _ _⟩
      ·cases ha
     ·cases ha
    | _ => simp [convA] at ha
   | _ => simp [convA] at ha
  ·rename_i k0 us k' hs hd
   have : k0 = k' := by simpa using h2
   subst this
   refine pure_case (fun l hl => by cases hl.1) (fun a ha => ?_) (fun ha hk => by
    cases hy : ρa y with
    | p v =>
     cases v with
     | flt src b =>
      cases hkk : nanC (.flt k0) (ρa y) with
      | none => exact absurd hkk hk
      | some k1 =>
       have : k1 = k0 := by
        rw [hy] at hkk
        simp only [nanC] at hkk
        split at hkk
        ·cases hkk
        ·split at hkk <;> cases hkk; rfl
       subst this
       exact nan_case ha hkk rfl hy (.inr ⟨_, hs⟩) hd
     | _ => rw [hy] at hk; exact absurd rfl hk
    | _ => rw [hy] at hk; exact absurd rfl hk)
   generalize hy : ρa y = ya at ha hr
   cases ya with
   | p v =>
    cases v with
    | int k1 n =>
     simp only [convA, Option.some.injEq] at ha
     subst ha
     have := inv_int hr
     exact ⟨_, by rw [this]; simp [convert, run_underlying hs, run_underlying hd, Conv.intToFloat], .p _ _ (.flt ..)⟩
    | flt src b =>
     simp only [convA] at ha
     have := inv_flt hr
     have hc : (convert sr d (ρ x)).run P w = (Conv.floatToFloat src b k0).run P w := by rw [this]; simp [convert, run_underlying hs, run_underlying hd]
     split at ha
     ·rename_i he
      cases ha
      exact ⟨.float k0 b, by rw [hc]; simp [Conv.floatToFloat, he], .p _ _ (.flt ..)⟩
     ·rename_i he
      split at ha
      ·rename_i sg mt ex hdec
       split at ha
       ·cases ha
       ·rename_i hinf
        cases ha
        exact ⟨_, by rw [hc]; simp only [Conv.floatToFloat, if_neg he, hdec]; rw [if_neg hinf]; rfl, .p _ _ (.flt ..)⟩
      ·rename_i sg hdec
       cases ha
       exact ⟨_, by rw [hc]; simp only [Conv.floatToFloat, if_neg he, hdec]; rfl, .p _ _ (.flt ..)⟩
      ·cases ha
    | _ => simp [convA] at ha
   | _ => simp [convA] at ha
  ·rename_i hs hd
   refine pure_case (fun l hl => by cases hl.1) (fun a ha => ?_) (fun _ hk => absurd rfl hk)
   generalize hy : ρa y = ya at ha hr
   cases ya with
   | p v =>
    cases v with
    | str l =>
     simp only [convA, Option.some.injEq] at ha
     subst ha
     obtain ⟨st, e1, rfl⟩ := inv_str hr
     exact ⟨_, by rw [e1]; simp [convert, run_underlying hs, run_underlying hd], rep_str _ _⟩
    | _ => simp [convA] at ha
   | _ => simp [convA] at ha
  ·rename_i ki hs hd
   refine pure_case (fun l hl => by cases hl.1) (fun a ha => ?_) (fun _ hk => absurd rfl hk)
   generalize hy : ρa y = ya at ha hr
   cases ya with
   | p v =>
    cases v with
    | int k1 n =>
     simp only [convA, Option.some.injEq] at ha
     subst ha
     have := inv_int hr
     exact ⟨_, by rw [this]; simp [convert, run_underlying hs, run_underlying hd, Conv.intToString], rep_str _ _⟩
    | _ => simp [convA] at ha
   | _ => simp [convA] at ha
  ·rename_i e hs hd
   split at h2
   ·rename_i hue
    refine pure_case (fun l hl => by cases hl.1) (fun a ha => ?_) (fun _ hk => absurd rfl hk)
    have hns : ∀ l, ρa y ≠ .p (.str l) := fun l hl => by rw [hl] at ha; simp [convA] at ha
    have ha' : (match sliceOf s 1 (ρa y) with | some (cs, _) => (bytesOf cs).map fun l => AVal.p (.str l) | none => none) = some a := by
     rw [← ha]
     generalize hy : ρa y = ya at hns ⊢
     cases ya with
     | p v =>
      cases v with
      | str l => exact absurd rfl (hns l)
      | _ => rfl
     | _ => rfl
    cases hsl : sliceOf s 1 (ρa y) with
    | none => rw [hsl] at ha'; cases ha'
    | some z =>
     obtain ⟨cs, n⟩ := z
     rw [hsl] at ha'
     simp only at ha'
     cases hbo : bytesOf cs with
     | none => rw [hbo] at ha'; cases ha'
     | some l =>
      rw [hbo] at ha'
      simp only [Option.map_some, Option.some.injEq] at ha'
      subst ha'
      obtain ⟨hyl, news, hnl, hnr, hlen, hfirst, hone⟩ := slice_read (P := P) h hr hsl
      obtain ⟨ns, rfl, hnsl⟩ := bytes_news hbo hnl hnr
      obtain ⟨ad, cap, e1⟩ := slice_form hr hsl hns
      refine ⟨.string ⟨l.toArray⟩, ?_, by simpa using rep_str (w := w) (m := m) (s := s) (Im base Im0 m s) ⟨l.toArray⟩⟩
      rw [e1, run_convert_bytes_string w sr d e ad n cap hs hue hd]
      have hf := hfirst w n rfl (Nat.le_refl _)
      rw [e1, List.take_of_length_le (by omega)] at hf
      cases ad with
      | none =>
       simp only [Builtin.firstCells, Sem.run_pure, Result.ok.injEq, and_true] at hf
       have : ns = [] := by
        cases ns with
        | nil => rfl
        | cons => have := congrArg Array.size hf; simp at this
       subst this
       simp at hnsl
       subst hnsl
       simp [Conv.bytesToString]
       rfl
      | some ad =>
       simp only [Builtin.firstCells, Nat.mul_one] at hf
       rw [run_bytesToString w ad n cap ns hf, foldl_push, hnsl]
       have : ByteArray.empty.data = #[] := rfl
       rw [this]; simp
   ·cases h2
  ·rename_i e hs hd
   split at h2
   ·rename_i hue
    simp only [opFn] at hq
    split at hq
    ·rename_i l hk hy
     rw [hy] at hr
     obtain ⟨st, e1, rfl⟩ := inv_str hr
     have hc := run_bytes_of_string (P := P) w sr d e st hs hd hue
     rw [← e1] at hc
     have hsz : (bytesRow st (grownCap w st.size 0 e)).size = st.size + (grownCap w st.size 0 e - st.size) := by simp [bytesRow]
     have hge : st.size ≤ grownCap w st.size 0 e := by simp [grownCap, Question.cut]
     have hs0 := h.ext (Ext.drew w)
     obtain ⟨hs', hev⟩ := new_arr hs0 (by simpa using hb) (bytesRow st (grownCap w st.size 0 e)) e ((bytesRow st (grownCap w st.size 0 e)).size, (bytesRow st (grownCap w st.size 0 e)).size + 1) (fun j hj => by simp; omega)
      (st.data.toList.map fun b => PVal.int .u8 (b.toNat : Int)) 0 1 (by simp [hsz]) (fun j u c hu hcc => by
       rw [List.getElem?_map] at hcc
       cases hb : st.data.toList[j]? with
       | none => rw [hb] at hcc; cases hcc
       | some b =>
        rw [hb] at hcc; cases hcc
        have hj := lt_of_some hb
        unfold bytesRow at hu
        rw [Array.getElem?_append_left (by simpa using hj), Array.getElem?_map] at hu
        rw [Array.getElem?_toList] at hb
        rw [hb] at hu; cases hu
        exact .int ..)
     refine ⟨_, _, _, _, _, hq, hs', fun lo => ((Ext.drew w).evo lo m s).trans (hev lo), ?_, .inl (run _ _ hc)⟩
     have hl2 : st.data.toList.length = st.size := by simp
     refine .sl _ _ _ _ _ _ (by rw [get_new, if_pos rfl]) rfl (Nat.le_refl _) (fun _ => .inr ⟨_, _, grownCap w st.size 0 e, upd_same _ _ _, by rw [hl2]; rfl, by rw [hl2]; exact hge, by simp only [esO]; rw [hsz]; omega⟩) rfl
    ·rename_i hn
     have : convA s .s2b (ρa y) = none := by
      generalize hy : ρa y = ya at hn ⊢
      cases ya <;> rfl
     rw [this] at hq
     exact hq.elim
   ·cases h2
  ·cases h2
 ·cases hm

end
end Fw
end

section
/-
  Operations, ninth part: maps, ranges over strings and maps.
-/
namespace Fw
open Go

def isRow : Go.Obj → Bool
 | .cells .. => true
 | _ => false
theorem run_getObj' {P : Program} {w : World} {r : Nat} {o : Go.Obj} (h : w.heap[r]? = some o) (hn : isRow o = false) : (getObj r).run P w = .ok o w := by
 cases o <;> first | (cases hn; done) | simp [getObj, Sem.run, h]
theorem run_setObj' {P : Program} {w : World} {r : Nat} {o : Go.Obj} (o' : Go.Obj) (h : w.heap[r]? = some o) (hn : isRow o = false) : (setObj r o').run P w = .ok () (setB w r o') := by
 cases o <;> first | (cases hn; done) | simp [setObj, Sem.run, h, setB]

def kindOk (kk : Nat) (d : TypeDesc) : Bool := match kk, d with
 | 0, .int _ | 1, .string | 2, .bool => true
 | _, _ => false

section
variable {CM : Nat → Code → ACode → Prop} {base : Nat} {Im0 : Nat → Prop} {w : World} {m : Mem} {s : Sto} {P : Program} {ρ : Operand → Value} {ρa : Opd → AVal} {Q : AVal × Sto → Prop} {I : Nat → Prop}

theorem sameNow_spec {kk : Nat} {d : TypeDesc} (hd : kindOk kk d = true) {k x : PVal} (hk : keyOk kk k = true) {kv xv : Value} (h1 : PRep w I kv k) (h2 : PRep w I xv x) {b : Bool} (he : eqP k x = some b) : Instr.sameNow d kv xv = some b := by
 unfold keyOk at hk
 split at hk
 ·cases h1
  unfold eqP at he
  split at he
  ·rename_i e; cases e; cases h2
   cases d <;> first | (cases hd; done) | simpa [Instr.sameNow] using he
  ·rename_i e; cases e
  ·rename_i e; cases e
  ·cases he
 ·cases h1
  unfold eqP at he
  split at he
  ·rename_i e; cases e
  ·rename_i e; cases e; cases h2
   rename_i sx sy
   cases d <;> first | (cases hd; done) | (simp only [Instr.sameNow, ← ByteArray.toList_eq] at he ⊢; rw [← he, beq_toListBytes])
  ·rename_i e; cases e
  ·cases he
 ·cases h1
  unfold eqP at he
  split at he
  ·rename_i e; cases e
  ·rename_i e; cases e
  ·rename_i e; cases e; cases h2
   cases d <;> first | (cases hd; done) | simpa [Instr.sameNow] using he
  ·cases he
 ·cases hk

theorem eqP_eq {k x : PVal} (h : eqP k x = some true) {kv xv : Value} (h1 : PRep w I kv k) (h2 : PRep w I xv x) : kv = xv ∧ Instr.sameBits 10000 xv kv = true ∧ k = x := by
 unfold eqP at h
 split at h
 ·cases h1; cases h2
  split at h
  ·rename_i e; subst e; simp at h; subst h; exact ⟨rfl, by simp [Instr.sameBits], rfl⟩
  ·cases h
 ·cases h1; cases h2
  rename_i sx sy
  simp at h
  have : sx = sy := by cases sx; cases sy; simpa using h
  subst this
  exact ⟨rfl, by simp only [Instr.sameBits, beq_toListBytes]; simp, rfl⟩
 ·cases h1; cases h2
  simp at h; subst h; exact ⟨rfl, by simp [Instr.sameBits], rfl⟩
 ·cases h

theorem find_spec {kk : Nat} {d : TypeDesc} (hd : kindOk kk d = true) {k : PVal} (hk : keyOk kk k = true) {kv : Value} (h1 : PRep w I kv k) : ∀ {l : List MapEntry} {ks vs : List PVal} (i0 : Nat) {r : Option PVal},
  EntriesRep w I l ks vs → mapFind k ks vs = some r → match r with
   | none => Instr.findNow d kv l i0 = some none
   | some v => ∃ i e, Instr.findNow d kv l i0 = some (some (i0 + i, e.val)) ∧ l[i]? = some e ∧ vs[i]? = some v ∧ ks[i]? = some k ∧ e.key = kv ∧ Instr.sameBits 10000 e.key kv = true ∧ (∀ pv, mapSet k pv ks vs = vs.set i pv) := by
 intro l
 induction l with
 | nil =>
  intro ks vs i0 r he hf
  obtain ⟨a1, a2, _⟩ := he
  cases ks with
  | cons => simp at a1
  | nil =>
   cases vs with
   | cons => simp at a2
   | nil => simp [mapFind] at hf; subst hf; simp [Instr.findNow]
 | cons e t ih =>
  intro ks vs i0 r he hf
  obtain ⟨a1, a2, a3, a4⟩ := he
  cases ks with
  | nil => simp at a1
  | cons x q =>
   cases vs with
   | nil => simp at a2
   | cons y z =>
    have ht : EntriesRep w I t q z := ⟨by simpa using a1, by simpa using a2, fun j e k b c => a3 (j + 1) e k (by simpa using b) (by simpa using c), fun j e k b c => a4 (j + 1) e k (by simpa using b) (by simpa using c)⟩
    have hx := a3 0 e x rfl rfl
    simp only [mapFind, keyEq] at hf
    split at hf
    ·rename_i hh
     cases hf
     obtain ⟨b1, b2, b3⟩ := eqP_eq hh h1 hx
     refine ⟨0, e, ?_, rfl, rfl, by simp [b3], b1.symm, b2, fun pv => ?_⟩
     ·simp only [Instr.findNow, sameNow_spec hd hk h1 hx hh]; rfl
     ·simp only [mapSet, keyEq, hh, if_true, List.set_cons_zero]
    ·rename_i hh
     have := ih (i0 + 1) ht hf
     have hn : Instr.findNow d kv (e :: t) i0 = Instr.findNow d kv t (i0 + 1) := by simp only [Instr.findNow, sameNow_spec hd hk h1 hx hh]
     cases r with
     | none => simp only at this ⊢; rw [hn]; exact this
     | some v =>
      obtain ⟨i, e', c1, c2, c3, c4, c5, c6, c7⟩ := this
      refine ⟨i + 1, e', by rw [hn, c1, show i0 + (i + 1) = i0 + 1 + i by omega], by simpa using c2, by simpa using c3, by simpa using c4, c5, c6, fun pv => ?_⟩
      simp only [mapSet, keyEq, hh]
      rw [if_neg (by simp), c7]; rfl
    ·cases hf

theorem MapRep.entries {es : Array MapEntry} {clock : Nat} {ks vs : List PVal} (h : MapRep w I es clock ks vs) : EntriesRep w I es.toList ks vs :=
 ⟨by simpa using h.1, by simpa using h.2.1, fun j e k b c => h.2.2.1 j e k (by simpa using b) c, fun j e k b c => h.2.2.2.1 j e k (by simpa using b) c⟩

theorem run_checkKey (empty : Bool) {kk : Nat} {d : TypeDesc} (hd : kindOk kk d = true) {t : Nat} (hu : P.underlying t = some d) (v : Value) : (Instr.checkKey empty 10000 t v).run P w = .ok () w := by
 rw [show (10000 : Nat) = 9999 + 1 from rfl, Instr.checkKey]
 simp only [Sem.run_bind, run_underlying hu, Result.andThen_ok]
 cases d <;> first | (unfold kindOk at hd; split at hd <;> first | (rename_i e; cases e; done) | (cases hd; done)) | rfl

theorem map_read (h : SRep CM base Im0 w m s) {x : Value} {a : AVal} (hx : ARep w (Im base Im0 m s) m s x a) {ks vs : List PVal} (hm : mapOf s a = some (ks, vs)) :
  (x = .map none ∧ ks = [] ∧ vs = []) ∨ ∃ r es clock, x = .map (some r) ∧ w.heap[r]? = some (.map es clock) ∧ MapRep w (Im base Im0 m s) es clock ks vs := by
 unfold mapOf at hm
 split at hm
 ·cases hm
  have hp := inv_p hx
  cases hp with
  | map r es clock _ _ k1 k2 k3 k4 k5 k6 k7 k8 => exact .inr ⟨r, es, clock, rfl, k2, k3, k4, k5, k6, k7, k8⟩
 ·cases hm
  have hp := inv_p hx
  cases hp
  exact .inl ⟨rfl, rfl, rfl⟩
 ·cases hx with
  | mp i b z o' hg hmap hm' =>
  split at hm
  ·rename_i ks' vs' hg'
   cases hm
   obtain ⟨b', z', es, clock, q1, q2, q3⟩ := h.obj _ _ hg'
   rw [hm'] at q1; cases q1
   exact .inr ⟨b, es, clock, rfl, q2, q3⟩
  ·rename_i ks' vs' hg'
   cases hm
   obtain ⟨b', z', es, clock, q1, q2, _, q3⟩ := h.obj _ _ hg'
   rw [hm'] at q1; cases q1
   exact .inr ⟨b, es, clock, rfl, q2, q3⟩
  ·cases hm
 ·cases hm

def mLkup (P : Program) (o : Op) (kk : Nat) (zero : AVal) (y z : Opd) (ok : Bool) : Bool := match o with
 | .lookup t mo k ok' => mOpd mo y && mOpd k z && (ok == ok') && (match P.underlying t with
  | some (.map kt et) => (match P.underlying kt with | some d => kindOk kk d | none => false) && (match P.info? et with | some i => (match i.zero with | some zv => constA zv zero | none => false) | none => false)
  | _ => false)
 | _ => false

theorem ok_lkup {o : Oper} {kk : Nat} {zero : AVal} {y z : Opd} {ok : Bool} (hm : mLkup P o.op kk zero y z ok = true) (h : SRep CM base Im0 w m s) (hρ : OpdOk w (Im base Im0 m s) m s ρ ρa) (hq : (opFn ρa s (.lkup kk zero y z ok)).All Q) : Post CM base Im0 w m s Q ((execOp ρ o).run P w) := by
 unfold mLkup at hm
 split at hm
 ·rename_i t mo k ok' hx
  simp only [Bool.and_eq_true, beq_iff_eq] at hm
  obtain ⟨⟨⟨h1, h2⟩, rfl⟩, h4⟩ := hm
  split at h4
  ·rename_i kt et hu
   simp only [Bool.and_eq_true] at h4
   obtain ⟨h4, h5⟩ := h4
   split at h4
   ·rename_i d hd
    split at h5
    ·rename_i i hi
     split at h5
     ·rename_i zv hz
      have hrm := hρ mo y h1
      have hrk := hρ k z h2
      simp only [opFn] at hq
      split at hq
      ·rename_i ks vs kp hmap hkp
       rw [hkp] at hrk
       have hkr := inv_p hrk
       split at hq
       ·rename_i hko
        have key : ∀ (es : Array MapEntry), EntriesRep w (Im base Im0 m s) es.toList ks vs → (∀ fr, (Instr.checkKey es.isEmpty 10000 kt (ρ k)).run P w = .ok () w → (Instr.findKey kt (ρ k) es.toList).run P w = .ok fr w →
          (Instr.lookup t (ρ mo) (ρ k) ok).run P w = .ok (match fr with | some (_, v) => (if ok then .tuple #[v, .bool true] else v) | none => (if ok then .tuple #[zv, .bool false] else zv)) w) → Post CM base Im0 w m s Q ((execOp ρ o).run P w) := by
         intro es he hrun
         have hck : (Instr.checkKey es.isEmpty 10000 kt (ρ k)).run P w = .ok () w := run_checkKey _ h4 hd _
         split at hq
         ·rename_i v hf
          obtain ⟨i', e, c1, c2, c3, c4, c5, c6, c7⟩ := find_spec h4 hko hkr 0 he hf
          have hev := he.2.2.2 i' e v c2 c3
          have hfk : (Instr.findKey kt (ρ k) es.toList).run P w = .ok (some (0 + i', e.val)) w := by simp [Instr.findKey, run_underlying hd, c1]
          have := hrun _ hck hfk
          refine Post.same h hq (v := if ok then .tuple #[e.val, .bool true] else e.val) ?_ (by simp [execOp, hx, this])
          cases ok
          ·exact .p _ _ hev
          ·refine .tup _ _ rfl (fun j u c hu hc => ?_)
           match j with
           | 0 => simp at hu hc; subst hu hc; exact .p _ _ hev
           | 1 => simp at hu hc; subst hu hc; exact rep_bool _ _
           | j + 2 => simp at hc
         ·rename_i hf
          have c1 := find_spec h4 hko hkr 0 he hf
          simp only at c1
          have hfk : (Instr.findKey kt (ρ k) es.toList).run P w = .ok none w := by simp [Instr.findKey, run_underlying hd, c1]
          have hzr := constA_rep h5 w (Im base Im0 m s) m s
          have := hrun _ hck hfk
          refine Post.same h hq (v := if ok then .tuple #[zv, .bool false] else zv) ?_ (by simp [execOp, hx, this])
          cases ok
          ·exact hzr
          ·refine .tup _ _ rfl (fun j u c hu hc => ?_)
           match j with
           | 0 => simp at hu hc; subst hu hc; exact hzr
           | 1 => simp at hu hc; subst hu hc; exact rep_bool _ _
           | j + 2 => simp at hc
         ·exact hq.elim
        rcases map_read h hrm hmap with ⟨e1, rfl, rfl⟩ | ⟨r, es, clock, e1, q2, q3⟩
        ·refine key #[] ⟨rfl, rfl, fun j e k he => by simp at he, fun j e k he => by simp at he⟩ (fun fr hck hfk => ?_)
         have hck' : (Instr.checkKey true 10000 kt (ρ k)).run P w = .ok () w := hck
         have hfk' : (Instr.findKey kt (ρ k) []).run P w = .ok fr w := hfk
         cases fr <;> simp [Instr.lookup, run_underlying hu, e1, hck', hfk', run_zero hi hz]
        ·refine key es q3.entries (fun fr hck hfk => ?_)
         have hg := run_getObj' (P := P) q2 rfl
         simp only [Instr.lookup, Sem.run_bind, run_underlying hu, e1, hg, Result.andThen_ok, Sem.run_pure, hck, hfk]
         cases fr <;> simp [run_zero hi hz]
       ·exact hq.elim
      ·exact hq.elim
     ·cases h5
    ·cases h5
   ·cases h4
  ·cases h4
 ·cases hm

def mMupd (P : Program) (o : Op) (kk : Nat) (y z v : Opd) : Bool := match o with
 | .mapUpdate t mo k x | .insert t mo k x => mOpd mo y && mOpd k z && mOpd x v && (match P.underlying t with
  | some (.map kt _) => (match P.underlying kt with | some d => kindOk kk d | none => false)
  | _ => false)
 | _ => false

theorem mapRep_set {es : Array MapEntry} {clock : Nat} {ks vs : List PVal} (h : MapRep w I es clock ks vs) {i : Nat} {k pv : PVal} {kv x : Value} (hk : ks[i]? = some k) (h1 : PRep w I kv k) (h2 : PRep w I x pv) :
  MapRep w I (es.modify i fun e => { e with key := kv, val := x }) clock ks (vs.set i pv) := by
 obtain ⟨a1, a2, a3, a4, a5, a6⟩ := h
 have hget : ∀ (j : Nat), (es.modify i fun e => { e with key := kv, val := x })[j]? = if i = j then (es[j]?).map (fun e => { e with key := kv, val := x }) else es[j]? := fun j => by
  rw [Array.getElem?_modify]
 refine ⟨by simpa using a1, by simpa using a2, fun j e kp he hkp => ?_, fun j e v he hv => ?_, fun j e he => ?_, ?_⟩
 ·rw [hget] at he
  split at he
  ·rename_i hij; subst hij
   rw [hk] at hkp; cases hkp
   cases hx : es[i]? with
   | none => rw [hx] at he; cases he
   | some e' => rw [hx] at he; cases he; exact h1
  ·exact a3 j e kp he hkp
 ·rw [hget] at he
  split at he
  ·rename_i hij; subst hij
   cases hx : es[i]? with
   | none => rw [hx] at he; cases he
   | some e' =>
    rw [hx] at he; cases he
    rw [List.getElem?_set] at hv
    simp at hv
    obtain ⟨_, rfl⟩ := hv
    exact h2
  ·rename_i hij
   rw [List.getElem?_set_ne hij] at hv
   exact a4 j e v he hv
 ·rw [hget] at he
  split at he
  ·cases hx : es[j]? with
   | none => rw [hx] at he; cases he
   | some e' => rw [hx] at he; cases he; exact a5 j e' hx
  ·exact a5 j e he
 ·have : ((es.modify i fun e => { e with key := kv, val := x }).toList.map (·.born)) = es.toList.map (·.born) := by
   apply List.ext_getElem?
   intro j
   rw [List.getElem?_map, List.getElem?_map, Array.getElem?_toList, Array.getElem?_toList, hget]
   split
   ·cases es[j]? <;> rfl
   ·rfl
  rw [this]; exact a6

theorem mapRep_push {es : Array MapEntry} {clock : Nat} {ks vs : List PVal} (h : MapRep w I es clock ks vs) {k pv : PVal} {kv x : Value} (h1 : PRep w I kv k) (h2 : PRep w I x pv) :
  MapRep w I (es.push { key := kv, val := x, born := clock }) (clock + 1) (ks ++ [k]) (vs ++ [pv]) := by
 obtain ⟨a1, a2, a3, a4, a5, a6⟩ := h
 refine ⟨by simpa using a1, by simpa using a2, fun j e kp he hkp => ?_, fun j e v he hv => ?_, fun j e he => ?_, ?_⟩
 ·rw [Array.getElem?_push] at he
  split at he
  ·rename_i hj; cases he; rw [hj, a1] at hkp; simp at hkp; subst hkp; exact h1
  ·have := alt_of_some he
   rw [List.getElem?_append_left (by omega)] at hkp
   exact a3 j e kp he hkp
 ·rw [Array.getElem?_push] at he
  split at he
  ·rename_i hj; cases he; rw [hj, a2] at hv; simp at hv; subst hv; exact h2
  ·have := alt_of_some he
   rw [List.getElem?_append_left (by omega)] at hv
   exact a4 j e v he hv
 ·rw [Array.getElem?_push] at he
  split at he
  ·cases he; exact Nat.lt_succ_self _
  ·exact Nat.lt_succ_of_lt (a5 j e he)
 ·rw [Array.toList_push, List.map_append]
  refine List.nodup_append.2 ⟨a6, by simp, fun a ha b hb => ?_⟩
  simp at hb
  obtain ⟨e, he, rfl⟩ := List.mem_map.1 ha
  obtain ⟨j, hj⟩ := List.getElem?_of_mem he
  have := a5 j e (by simpa using hj)
  omega

theorem ok_mupd {o : Oper} {kk : Nat} {y z v : Opd} (hm : mMupd P o.op kk y z v = true) (h : SRep CM base Im0 w m s) (hρ : OpdOk w (Im base Im0 m s) m s ρ ρa) (hq : (opFn ρa s (.mupd kk y z v)).All Q) : Post CM base Im0 w m s Q ((execOp ρ o).run P w) := by
 have key : ∀ t mo k x, (∀ W, (Instr.mapUpdate t (ρ mo) (ρ k) (ρ x)).run P w = .ok () W → (execOp ρ o).run P w = .ok .skip W) → (mOpd mo y && mOpd k z && mOpd x v && (match P.underlying t with
  | some (.map kt _) => (match P.underlying kt with | some d => kindOk kk d | none => false)
  | _ => false)) = true → Post CM base Im0 w m s Q ((execOp ρ o).run P w) := by
  intro t mo k x hrun hm
  simp only [Bool.and_eq_true] at hm
  obtain ⟨⟨⟨h1, h2⟩, h3⟩, h4⟩ := hm
  split at h4
  ·rename_i kt et hu
   split at h4
   ·rename_i d hd
    have hrm := hρ mo y h1
    have hrk := hρ k z h2
    have hrv := hρ x v h3
    simp only [opFn] at hq
    split at hq
    ·rename_i id kp hmp hkp
     rw [hkp] at hrk
     rw [hmp] at hrm
     have hkr := inv_p hrk
     split at hq
     ·rename_i ks vs hg
      split at hq
      ·rename_i hko
       generalize hmv : ρ mo = mv at hrm
       cases hrm with
       | mp i b zz o' hg' hmap hm' =>
       obtain ⟨b', z', es, clock, q1, q2, q3⟩ := h.obj _ _ hg
       rw [hm'] at q1; cases q1
       have hget := run_getObj' (P := P) q2 rfl
       have hck := run_checkKey (P := P) (w := w) false h4 hd (ρ k)
       have fin : ∀ es' clock' ks' vs', MapRep w (Im base Im0 m s) es' clock' ks' vs' → (Instr.mapUpdate t (ρ mo) (ρ k) (ρ x)).run P w = .ok () (setB w b (.map es' clock')) → Q (undefA, put s id (.map ks' vs')) → Post CM base Im0 w m s Q ((execOp ρ o).run P w) := by
        intro es' clock' ks' vs' hr hru hq
        obtain ⟨hs1, ev1⟩ := h.put (w' := setB w b (.map es' clock')) (o' := .map ks' vs') hg (m id) rfl rfl rfl (by rw [setB_size]; exact Nat.le_refl _)
         (fun b' hb' hz' => setB_ne w _ (fun e => by subst e; have := hz' zz hm'; cases this))
         (fun b' z' lp hm'' hl' => by rw [hm'] at hm''; cases hm''; rw [q2] at hl'; cases hl')
         (fun b' z' hx => .inl ⟨z', hx⟩) rfl rfl (Nat.le_refl _) (fun _ => ⟨rfl, rfl⟩) (fun _ => rfl)
         (fun I' hk hko _ => ⟨b, zz, es', clock', by rw [upd_same]; exact hm', setB_same w _ (heap_lt q2), hr.mono hk⟩)
        rw [upd_self] at hs1 ev1
        exact ⟨_, _, _, _, undef, hq, hs1, ev1, rep_undef _, .inr ⟨hrun _ hru, rfl⟩⟩
       split at hq
       ·rename_i pv v' hpv hf
        rw [hpv] at hrv
        have hvr := inv_p hrv
        obtain ⟨i', e, c1, c2, c3, c4, c5, c6, c7⟩ := find_spec h4 hko hkr 0 q3.entries hf
        have hfk : (Instr.findKey kt (ρ k) es.toList).run P w = .ok (some (0 + i', e.val)) w := by simp [Instr.findKey, run_underlying hd, c1]
        rw [Nat.zero_add] at hfk
        have hes : es[i']? = some e := by simpa using c2
        have hkts : (Instr.keyThatStays (((es[i']?).map (·.key)).getD (ρ k)) (ρ k)).run P w = .ok (ρ k) w := by
         rw [hes]; simp [Instr.keyThatStays, c6]
        refine fin (es.modify i' fun e => { e with key := ρ k, val := ρ x }) clock ks _ (mapRep_set q3 c4 hkr hvr) ?_ (by rw [c7 pv] at hq; exact hq)
        simp only [Instr.mapUpdate, Sem.run_bind, run_underlying hu, hmv, hget, Result.andThen_ok, hck, hfk, hkts]
        exact run_setObj' _ q2 rfl
       ·rename_i pv hpv hf
        rw [hpv] at hrv
        have hvr := inv_p hrv
        have c1 := find_spec h4 hko hkr 0 q3.entries hf
        simp only at c1
        have hfk : (Instr.findKey kt (ρ k) es.toList).run P w = .ok none w := by simp [Instr.findKey, run_underlying hd, c1]
        refine fin (es.push { key := ρ k, val := ρ x, born := clock }) (clock + 1) _ _ (mapRep_push q3 hkr hvr) ?_ hq
        simp only [Instr.mapUpdate, Sem.run_bind, run_underlying hu, hmv, hget, Result.andThen_ok, hck, hfk]
        exact run_setObj' _ q2 rfl
       ·exact hq.elim
      ·exact hq.elim
     ·exact hq.elim
    ·exact hq.elim
   ·cases h4
  ·cases h4
 unfold mMupd at hm
 split at hm
 ·rename_i t mo k x hx; exact key t mo k x (fun W hW => by simp [execOp, hx, hW]) hm
 ·rename_i t mo k x hx; exact key t mo k x (fun W hW => by simp [execOp, hx, hW]) hm
 ·cases hm

end
end Fw
end

section
/-
  Operations, tenth part: ranges over strings and maps.
-/
namespace Fw
open Go

theorem left_nil (es : Array MapEntry) : left es #[] = es.toList := by
 simp [left]

theorem filter_erase : ∀ (l : List MapEntry) (j : Nat) (e : MapEntry), (l.map (·.born)).Nodup → l[j]? = some e → l.filter (fun x => !(x.born == e.born)) = l.eraseIdx j := by
 intro l
 induction l with
 | nil => intro j e _ h; simp at h
 | cons x t ih =>
  intro j e hn hj
  have hn' : x.born ∉ t.map (·.born) ∧ (t.map (·.born)).Nodup := List.nodup_cons.1 hn
  cases j with
  | zero =>
   simp at hj; subst hj
   rw [List.filter_cons]
   simp only [beq_self_eq_true, Bool.not_true, Bool.false_eq_true, if_false, List.eraseIdx_cons_zero]
   refine List.filter_eq_self.2 (fun y hy => ?_)
   simp
   intro h
   exact hn'.1 (by rw [← h]; exact List.mem_map.2 ⟨y, hy, rfl⟩)
  | succ j =>
   have hj' : t[j]? = some e := by simpa using hj
   rw [List.filter_cons, List.eraseIdx_cons_succ, ih j e hn'.2 hj']
   have : x.born ≠ e.born := fun h => hn'.1 (by rw [h]; exact List.mem_map.2 ⟨e, List.mem_of_getElem? hj', rfl⟩)
   simp [this]

theorem left_push {es : Array MapEntry} (hn : (es.toList.map (·.born)).Nodup) {seen : Array Nat} {j : Nat} {e : MapEntry} (hj : (left es seen)[j]? = some e) : left es (seen.push e.born) = (left es seen).eraseIdx j := by
 have hsub : ((left es seen).map (·.born)).Nodup := by
  unfold left
  rw [Array.toList_filter]
  exact (List.Sublist.map _ List.filter_sublist).nodup hn
 rw [← filter_erase _ j e hsub hj]
 unfold left
 rw [Array.toList_filter, Array.toList_filter, List.filter_filter]
 congr 1
 funext x
 rw [Array.contains_push]
 cases seen.contains x.born <;> simp

section
variable {CM : Nat → Code → ACode → Prop} {base : Nat} {Im0 : Nat → Prop} {w : World} {m : Mem} {s : Sto} {P : Program} {ρ : Operand → Value} {ρa : Opd → AVal} {Q : AVal × Sto → Prop} {I : Nat → Prop}

theorem EntriesRep.erase {l : List MapEntry} {ks vs : List PVal} (h : EntriesRep w I l ks vs) (j : Nat) : EntriesRep w I (l.eraseIdx j) (ks.eraseIdx j) (vs.eraseIdx j) := by
 obtain ⟨a1, a2, a3, a4⟩ := h
 refine ⟨by rw [List.length_eraseIdx, List.length_eraseIdx, a1], by rw [List.length_eraseIdx, List.length_eraseIdx, a2], fun i e k he hk => ?_, fun i e v he hv => ?_⟩
 ·rw [List.getElem?_eraseIdx] at he hk
  split at he
  ·rename_i hlt; rw [if_pos hlt] at hk; exact a3 i e k he hk
  ·rename_i hlt; rw [if_neg hlt] at hk; exact a3 _ e k he hk
 ·rw [List.getElem?_eraseIdx] at he hv
  split at he
  ·rename_i hlt; rw [if_pos hlt] at hv; exact a4 i e v he hv
  ·rename_i hlt; rw [if_neg hlt] at hv; exact a4 _ e v he hv

theorem next_run {it bm clock : Nat} {seen : Array Nat} {es : Array MapEntry} (h1 : w.heap[it]? = some (.mapIter (some bm) clock seen clock)) (h2 : w.heap[bm]? = some (.map es clock)) (hb : ∀ (j : Nat) e, es[j]? = some e → e.born < clock) (ty : Nat) :
  (left es seen = [] ∧ (Instr.next (.pointer (some ⟨it, 0, none⟩)) false ty).run P w = .ok (.tuple #[.bool false]) w) ∨
  ∃ (j : Nat) (e : MapEntry) (w1 : World), (left es seen)[j]? = some e ∧ (w1 = w ∨ w1 = w.drew) ∧ (Instr.next (.pointer (some ⟨it, 0, none⟩)) false ty).run P w = .ok (.tuple #[.bool true, e.key, e.val]) (setB w1 it (.mapIter (some bm) clock (seen.push e.born) clock)) := by
 have hold : ∀ x ∈ es.toList, x.born < clock := fun x hx => by
  obtain ⟨j, hj⟩ := List.getElem?_of_mem hx
  exact hb j x (by simpa using hj)
 have g1 := run_getObj' (P := P) h1 rfl
 have g2 := run_getObj' (P := P) h2 rfl
 simp only [Instr.next, Sem.run_bind, g1, g2, Result.andThen_ok, next_test_false seen es clock clock hold (Nat.le_refl _), Bool.false_eq_true, if_false]
 unfold left
 have hmem : ∀ x ∈ (Array.filter (fun e => !seen.contains e.born) es).toList, x.born < clock := fun x hx => hold x (by simp at hx ⊢; exact hx.1)
 generalize Array.filter (fun e => !seen.contains e.born) es = L at hmem ⊢
 have e1 : L.filter (fun x => decide (x.born < clock)) = L := Array.filter_eq_self.2 (fun x hx => by simpa using hmem x (by simpa using hx))
 have e2 : L.filter (fun x => decide (x.born ≥ clock)) = #[] := by
  rw [Array.filter_eq_empty_iff]
  intro x hx
  have := hmem x (by simpa using hx)
  simp
  omega
 simp only [e1, e2, Array.append_empty]
 by_cases h0 : L.size = 0
 ·left
  have : L = #[] := Array.eq_empty_of_size_eq_zero h0
  subst this
  refine ⟨rfl, ?_⟩
  simp [choose, Sem.run, Question.forced]
 ·right
  have hne : L.isEmpty = false := by simp [Array.isEmpty, h0]
  simp only [hne, Bool.false_eq_true, if_false, Array.empty_append, Array.size_map]
  have hch : ∃ (j : Nat) (w1 : World), j < L.size ∧ (w1 = w ∨ w1 = w.drew) ∧ (choose (Question.mapNext L.size)).run P w = .ok j w1 := by
   by_cases hf : L.size ≤ 1
   ·exact ⟨0, w, by omega, .inl rfl, by simp [choose, Sem.run, Question.forced, hf]⟩
   ·exact ⟨_, w.drew, Nat.mod_lt _ (by omega), .inr rfl, by
     simp only [choose, Sem.run, Question.forced, decide_eq_true_eq, hf, if_false, Question.cut]
     rfl⟩
  obtain ⟨j, w1, hj, hal, hrun⟩ := hch
  refine ⟨j, L[j], w1, by simp [hj], hal, ?_⟩
  have h1' : w1.heap[it]? = some (.mapIter (some bm) clock seen clock) := by rcases hal with rfl | rfl <;> exact h1
  have hset := run_setObj' (P := P) (.mapIter (some bm) clock (seen.push L[j].born) clock) h1' rfl
  simp only [hrun, Array.getElem?_map, Array.getElem?_eq_getElem hj, Option.map_some, Sem.run_bind, hset, Result.andThen_ok]
  rfl

theorem new_iter (h : SRep CM base Im0 w m s) (hb : base ≤ w.heap.size) (ob : Go.Obj) (o : Obj) (hr : rowO o = false) (hmp : mapO o = false)
  (ho : ∀ I' m' s', Keeps w (Im base Im0 m s) (w.alloc ob) I' → m' (nextId s) = some (w.heap.size, 0) → ORep CM (w.alloc ob) I' m' s' (nextId s) o) :
  SRep CM base Im0 (w.alloc ob) (upd m (nextId s) (some (w.heap.size, 0))) ((nextId s, o) :: s) ∧ (∀ lo, Evo lo w m s (w.alloc ob) (upd m (nextId s) (some (w.heap.size, 0))) ((nextId s, o) :: s)) ∧
   ARep (w.alloc ob) (Im base Im0 (upd m (nextId s) (some (w.heap.size, 0))) ((nextId s, o) :: s)) (upd m (nextId s) (some (w.heap.size, 0))) ((nextId s, o) :: s) (.pointer (some ⟨w.heap.size, 0, none⟩)) (.it (nextId s)) := by
 obtain ⟨hs', hev⟩ := h.new (Ext.alloc w ob) hb o (some (w.heap.size, 0)) (fun b z hx => by cases hx; simp) (fun I' m' s' hk _ hg hm _ => ho I' m' s' hk hm)
 exact ⟨hs', hev, .it _ _ 0 _ (by rw [get_new, if_pos rfl]) hr hmp (upd_same _ _ _)⟩

def mRngs (P : Program) (o : Op) (y : Opd) : Bool := match o with
 | .range t x => mOpd x y && (match P.underlying t with | some .string => true | _ => false)
 | _ => false

theorem ok_rngs {o : Oper} {y : Opd} (hm : mRngs P o.op y = true) (h : SRep CM base Im0 w m s) (hb : base ≤ w.heap.size) (hρ : OpdOk w (Im base Im0 m s) m s ρ ρa) (hq : (opFn ρa s (.rngs y)).All Q) : Post CM base Im0 w m s Q ((execOp ρ o).run P w) := by
 unfold mRngs at hm
 split at hm
 ·rename_i t x hx
  simp only [Bool.and_eq_true] at hm
  obtain ⟨h1, h2⟩ := hm
  split at h2
  ·rename_i hu
   have hr := hρ x y h1
   simp only [opFn] at hq
   split at hq
   ·rename_i l hy
    rw [hy] at hr
    obtain ⟨st, e1, rfl⟩ := inv_str hr
    obtain ⟨hs', hev, ha⟩ := new_iter h hb (.stringIter st 0) (.siter st.data.toList 0) rfl rfl (fun I' m' s' _ hm => ⟨w.heap.size, 0, st, hm, alloc_new w _, rfl⟩)
    exact ⟨_, _, _, _, _, hq, hs', hev, ha, .inl (by simp [execOp, hx, Instr.range, run_underlying hu, e1])⟩
   ·exact hq.elim
  ·cases h2
 ·cases hm

def mRngm (P : Program) (o : Op) (y : Opd) : Bool := match o with
 | .range t x => mOpd x y && (match P.underlying t with | some (.map _ _) => true | _ => false)
 | _ => false

theorem ok_rngm {o : Oper} {y : Opd} (hm : mRngm P o.op y = true) (h : SRep CM base Im0 w m s) (hb : base ≤ w.heap.size) (hρ : OpdOk w (Im base Im0 m s) m s ρ ρa) (hq : (opFn ρa s (.rngm y)).All Q) : Post CM base Im0 w m s Q ((execOp ρ o).run P w) := by
 unfold mRngm at hm
 split at hm
 ·rename_i t x hx
  simp only [Bool.and_eq_true] at hm
  obtain ⟨h1, h2⟩ := hm
  split at h2
  ·rename_i kt et hu
   have hr := hρ x y h1
   have run : ∀ r es clock, ρ x = .map (some r) → w.heap[r]? = some (.map es clock) → (execOp ρ o).run P w = .ok (.value (.pointer (some ⟨w.heap.size, 0, none⟩))) (w.alloc (.mapIter (some r) clock #[] clock)) := fun r es clock e1 hb => by
    simp [execOp, hx, Instr.range, run_underlying hu, e1, run_getObj' hb rfl]
   have iter : ∀ (I' : Nat → Prop) (w' : World) r es clock ks vs, I' r → w'.heap[r]? = some (.map es clock) → MapRep w' I' es clock ks vs → IterRep w' I' (.mapIter (some r) clock #[] clock) ks vs none := fun I' w' r es clock ks vs i1 i2 i3 =>
    .inr ⟨r, es, clock, #[], rfl, i1, i2, i3.2.2.2.2.1, i3.2.2.2.2.2, by rw [left_nil]; exact i3.entries, .inl rfl⟩
   simp only [opFn] at hq
   split at hq
   ·rename_i ks vs hy
    rw [hy] at hr
    have hp := inv_p hr
    generalize hrx : ρ x = rx at hp
    cases hp with
    | map r es clock _ _ k1 k2 k3 k4 k5 k6 k7 k8 =>
     obtain ⟨hs', hev, ha⟩ := new_iter h hb (.mapIter (some r) clock #[] clock) (.miter ks vs none) rfl rfl (fun I' m' s' hk hm => ⟨w.heap.size, 0, _, hm, alloc_new w _,
      (iter (Im base Im0 m s) w r es clock ks vs k1 k2 ⟨k3, k4, k5, k6, k7, k8⟩).mono hk⟩)
     exact ⟨_, _, _, _, _, hq, hs', hev, ha, .inl (run r es clock hrx k2)⟩
   ·rename_i hy
    rw [hy] at hr
    have hp := inv_p hr
    generalize hrx : ρ x = rx at hp
    cases hp
    obtain ⟨hs', hev, ha⟩ := new_iter h hb (.mapIter none 0 #[] 0) (.miter [] [] none) rfl rfl (fun I' m' s' hk hm => ⟨w.heap.size, 0, _, hm, alloc_new w _, .inl ⟨_, _, _, rfl, rfl, rfl, rfl⟩⟩)
    exact ⟨_, _, _, _, _, hq, hs', hev, ha, .inl (by simp [execOp, hx, Instr.range, run_underlying hu, hrx])⟩
   ·rename_i id hy
    rw [hy] at hr
    generalize hrx : ρ x = rx at hr
    cases hr with
    | mp i b z o' hg hmap hm' =>
    split at hq
    ·rename_i ks vs hg'
     rw [hg] at hg'; cases hg'
     obtain ⟨b', z', es, clock, q1, q2, q3⟩ := h.obj _ _ hg
     rw [hm'] at q1; cases q1
     obtain ⟨hs1, ev1⟩ := h.put (w' := w) (o' := .fmap ks vs) hg (m id) rfl rfl rfl (Nat.le_refl _)
      (fun b' hb' hz' => rfl) (fun b' z' lp _ hl' => ⟨lp, hl'⟩)
      (fun b' z' hx => .inl ⟨z', hx⟩) rfl rfl (Nat.le_refl _) (fun _ => ⟨rfl, rfl⟩) (fun e => by cases e)
      (fun I' hk hko hI => ⟨b, z, es, clock, by rw [upd_same]; exact hm', q2, hI b z hm' rfl, q3.mono hk⟩)
     rw [upd_self] at hs1 ev1
     obtain ⟨b2, z2, es2, clock2, p1, p2, p3, p4⟩ := hs1.obj id (.fmap ks vs) (by rw [get_put, if_pos rfl, hg]; rfl)
     rw [hm'] at p1; cases p1
     rw [q2] at p2; cases p2
     have hn : nextId (put s id (.fmap ks vs)) = nextId s := nextId_put _ _ _
     obtain ⟨hs', hev, ha⟩ := new_iter hs1 hb (.mapIter (some b) clock #[] clock) (.miter ks vs none) rfl rfl (fun I' m' s' hk hm => ⟨w.heap.size, 0, _, hm, alloc_new w _,
      (iter _ w b es clock ks vs p3 q2 p4).mono hk⟩)
     exact ⟨_, _, _, _, _, hq, hs', fun lo => (ev1 lo).trans (hev lo), ha, .inl (run b es clock hrx q2)⟩
    ·rename_i ks vs hg'
     rw [hg] at hg'; cases hg'
     obtain ⟨b', z', es, clock, q1, q2, q3, q4⟩ := h.obj _ _ hg
     rw [hm'] at q1; cases q1
     obtain ⟨hs', hev, ha⟩ := new_iter h hb (.mapIter (some b) clock #[] clock) (.miter ks vs none) rfl rfl (fun I' m' s' hk hm => ⟨w.heap.size, 0, _, hm, alloc_new w _,
      (iter _ w b es clock ks vs q3 q2 q4).mono hk⟩)
     exact ⟨_, _, _, _, _, hq, hs', hev, ha, .inl (run b es clock hrx q2)⟩
    ·exact hq.elim
   ·exact hq.elim
  ·cases h2
 ·cases hm

def mNxt (o : Op) (y : Opd) (isS : Bool) : Bool := match o with
 | .next x b => mOpd x y && (b == isS)
 | _ => false

theorem tup1 {b : Bool} (I : Nat → Prop) : ARep w I m s (.tuple #[.bool b]) (.tup [.p (.bool b)]) := .tup _ _ rfl (fun j u c hu hc => by
 match j with
 | 0 => simp at hu hc; subst hu hc; exact rep_bool _ _
 | j + 1 => simp at hc)

theorem tup3 {I : Nat → Prop} {a b c : Value} {x y z : PVal} (h1 : PRep w I a x) (h2 : PRep w I b y) (h3 : PRep w I c z) : ARep w I m s (.tuple #[a, b, c]) (.tup [.p x, .p y, .p z]) := .tup _ _ rfl (fun j u c hu hc => by
 match j with
 | 0 => simp at hu hc; subst hu hc; exact .p _ _ h1
 | 1 => simp at hu hc; subst hu hc; exact .p _ _ h2
 | 2 => simp at hu hc; subst hu hc; exact .p _ _ h3
 | j + 3 => simp at hc)

theorem step_iter (h : SRep CM base Im0 w m s) {i b z : Nat} {o o' : Obj} {ob ob' : Go.Obj} {w1 : World} (hw : w1 = w ∨ w1 = w.drew) (hg : get s i = some o) (hm : m i = some (b, z)) (hb : w.heap[b]? = some ob) (hnl : ∀ lp, ob ≠ .loop lp) (hmu : mutO o = true)
  (hr : rowO o' = rowO o) (hmp : mapO o' = mapO o) (hv : verO o' = verO o) (he : esO o' = esO o)
  (ho : ∀ I', Keeps w (Im base Im0 m s) (setB w1 b ob') I' → ORep CM (setB w1 b ob') I' m (Fw.put s i o') i o') :
  SRep CM base Im0 (setB w1 b ob') m (Fw.put s i o') ∧ (∀ lo, Evo lo w m s (setB w1 b ob') m (Fw.put s i o')) := by
 have hh : w1.heap = w.heap := by rcases hw with rfl | rfl <;> rfl
 have hne : ∀ c, c ≠ b → (setB w1 b ob').heap[c]? = w.heap[c]? := fun c hc => by rw [setB_ne w1 _ hc, hh]
 have := h.put (w' := setB w1 b ob') (o' := o') hg (m i) (by rcases hw with rfl | rfl <;> rfl) (by rcases hw with rfl | rfl <;> rfl) (by rcases hw with rfl | rfl <;> rfl) (by rw [setB_size, hh]; exact Nat.le_refl _)
  (fun b' hb' hz' => hne b' (fun e => by subst e; have := hz' z hm; rw [hmu] at this; cases this))
  (fun b' z' lp hm'' hl' => by rw [hm] at hm''; cases hm''; rw [hb] at hl'; cases hl'; exact absurd rfl (hnl _))
  (fun b' z' hx => .inl ⟨z', hx⟩) hr hmp (Nat.le_of_eq hv.symm) (fun _ => ⟨rfl, he⟩) (fun _ => hmu)
  (fun I' hk hko _ => by rw [upd_self]; exact ho I' hk)
 rwa [upd_self] at this

theorem ok_nxt {o : Oper} {y : Opd} {isS : Bool} (hm : mNxt o.op y isS = true) (h : SRep CM base Im0 w m s) (hρ : OpdOk w (Im base Im0 m s) m s ρ ρa) (hq : (opFn ρa s (.nxt y isS)).All Q) : Post CM base Im0 w m s Q ((execOp ρ o).run P w) := by
 unfold mNxt at hm
 split at hm
 ·rename_i x b hx
  simp only [Bool.and_eq_true, beq_iff_eq] at hm
  obtain ⟨h1, rfl⟩ := hm
  have hr := hρ x y h1
  simp only [opFn] at hq
  split at hq
  ·rename_i id hy
   rw [hy] at hr
   generalize hrx : ρ x = rx at hr
   cases hr with
   | it i bk z o' hg hrow hmap hm' =>
   have run : ∀ r W, (Instr.next (.pointer (some ⟨bk, 0, none⟩)) b o.type).run P w = .ok r W → (execOp ρ o).run P w = .ok (.value r) W := fun r W hW => by simp [execOp, hx, hrx, hW]
   split at hq
   ·rename_i l pos hg'
    rw [hg] at hg'; cases hg'
    obtain ⟨b', z', st, q1, q2, q3⟩ := h.obj _ _ hg
    rw [hm'] at q1; cases q1
    have hst : st = ⟨l.toArray⟩ := by cases st; simp at q3; rw [← q3]
    have hsz : st.size = l.length := by rw [hst]; simp [ByteArray.size]
    have hget := run_getObj' (P := P) q2 rfl
    split at hq
    ·rename_i hlt
     obtain ⟨hs1, ev1⟩ := step_iter h (.inl rfl) hg hm' q2 (fun lp e => by cases e) rfl (o' := .siter l (pos + (Utf8.decode ⟨l.toArray⟩ pos).2)) (ob' := .stringIter st (pos + (Utf8.decode ⟨l.toArray⟩ pos).2)) rfl rfl rfl rfl
      (fun I' _ => ⟨bk, z, st, hm', setB_same w _ (heap_lt q2), q3⟩)
     refine ⟨_, _, _, _, .tuple #[.bool true, goInt pos, .int .i32 (Utf8.decode ⟨l.toArray⟩ pos).1], hq, hs1, ev1, ?_, .inl (run _ _ ?_)⟩
     ·exact tup3 (.bool _) (.int ..) (.int ..)
     ·have hset := run_setObj' (P := P) (.stringIter st (pos + (Utf8.decode ⟨l.toArray⟩ pos).2)) q2 rfl
      have hlt' : pos < st.size := by omega
      simp only [Instr.next, Sem.run_bind, hget, Result.andThen_ok, hlt', if_true]
      rw [hst] at hset ⊢
      simp only [hset, Result.andThen_ok]
      rfl
    ·rename_i hlt
     refine Post.same h hq (tup1 _) (run _ _ ?_)
     have hlt' : ¬ (pos < st.size) := by omega
     simp only [Instr.next, Sem.run_bind, hget, Result.andThen_ok, hlt', if_false]
     rfl
   ·rename_i ks vs cur hg'
    rw [hg] at hg'; cases hg'
    obtain ⟨b', z', ob, q1, q2, q3⟩ := h.obj _ _ hg
    rw [hm'] at q1; cases q1
    rcases q3 with ⟨a1, s1, c1, rfl, rfl, rfl, rfl⟩ | ⟨r, es, clock, seen, rfl, i1, i2, i3, i4, i5, i6⟩
    ·refine Post.same h hq (tup1 _) (run _ _ ?_)
     have hget := run_getObj' (P := P) q2 rfl
     simp only [Instr.next, Sem.run_bind, hget, Result.andThen_ok]
     rfl
    ·have hE := i5
     obtain ⟨l1, l2, _⟩ := i5
     rcases next_run (P := P) q2 i2 i3 o.type with ⟨hnil, hrun⟩ | ⟨j, e, w1, hj, hw1, hrun⟩
     ·have k1 : ks = [] := List.eq_nil_of_length_eq_zero (by rw [← l1, hnil]; rfl)
      have k2 : vs = [] := List.eq_nil_of_length_eq_zero (by rw [← l2, hnil]; rfl)
      subst k1 k2
      exact Post.same h hq (tup1 _) (run _ _ hrun)
     ·have hjl := lt_of_some hj
      obtain ⟨k, hk⟩ := getElem?_of_lt ks j (by omega)
      obtain ⟨v, hv⟩ := getElem?_of_lt vs j (by omega)
      split at hq
      ·simp at hk
      ·rw [if_pos (by omega)] at hq
       have hq' := hq.2 j (by omega)
       simp only [hk, hv] at hq'
       have hEj := hE.2.2
       have hme : e ∈ es.toList := by
        have := List.mem_of_getElem? hj
        unfold left at this
        rw [Array.toList_filter] at this
        exact (List.mem_filter.1 this).1
       obtain ⟨hs1, ev1⟩ := step_iter h hw1 hg hm' q2 (fun lp e => by cases e) rfl (o' := .miter (ks.eraseIdx j) (vs.eraseIdx j) (some (k, v))) (ob' := .mapIter (some r) clock (seen.push e.born) clock) rfl rfl rfl rfl
        (fun I' hk' => by
         have hh : (setB w1 bk (.mapIter (some r) clock (seen.push e.born) clock)).heap[bk]? = some (.mapIter (some r) clock (seen.push e.born) clock) := setB_same w1 _ (by rcases hw1 with rfl | rfl <;> exact heap_lt q2)
         refine ⟨bk, z, _, hm', hh, .inr ⟨r, es, clock, _, rfl, (hk' r _ i1 i2 trivial).1, (hk' r _ i1 i2 trivial).2, i3, i4, ?_, .inr ⟨e, k, v, rfl, hme, by simp, (hEj.1 j e k hj hk).mono hk', (hEj.2 j e v hj hv).mono hk'⟩⟩⟩
         rw [left_push i4 hj]
         exact (hE.erase j).mono hk')
       refine ⟨_, _, _, _, .tuple #[.bool true, e.key, e.val], hq', hs1, ev1, ?_, .inl (run _ _ hrun)⟩
       exact tup3 (.bool _) ((hEj.1 j e k hj hk).mono (ev1 0).keeps) ((hEj.2 j e v hj hv).mono (ev1 0).keeps)
   ·exact hq.elim
  ·exact hq.elim
 ·cases hm

def mEntry (o : Op) (y : Opd) : Bool := match o with
 | .entry x => mOpd x y
 | _ => false

theorem ok_entry {o : Oper} {y : Opd} (hm : mEntry o.op y = true) (h : SRep CM base Im0 w m s) (hρ : OpdOk w (Im base Im0 m s) m s ρ ρa) (hq : (opFn ρa s (.entry y)).All Q) : Post CM base Im0 w m s Q ((execOp ρ o).run P w) := by
 unfold mEntry at hm
 split at hm
 ·rename_i x hx
  have hr := hρ x y hm
  simp only [opFn] at hq
  split at hq
  ·rename_i id hy
   rw [hy] at hr
   generalize hrx : ρ x = rx at hr
   cases hr with
   | it i bk z o' hg hrow hmap hm' =>
   split at hq
   ·rename_i ks vs k v hg'
    rw [hg] at hg'; cases hg'
    obtain ⟨b', z', ob, q1, q2, q3⟩ := h.obj _ _ hg
    rw [hm'] at q1; cases q1
    rcases q3 with ⟨a1, s1, c1, rfl, rfl, rfl, e⟩ | ⟨r, es, clock, seen, rfl, i1, i2, i3, i4, i5, i6⟩
    ·cases e
    ·rcases i6 with e | ⟨e, k', v', e1, e2, e3, e4, e5⟩
     ·cases e
     ·cases e1
      have g1 := run_getObj' (P := P) q2 rfl
      have g2 := run_getObj' (P := P) i2 rfl
      have hf : es.find? (·.born == e.born) = some e := by rw [← Array.find?_toList]; exact find_born e es.toList i4 e2
      refine Post.same h hq (v := .tuple #[e.key, e.val]) (.tup _ _ rfl (fun j u c hu hc => ?_)) ?_
      ·match j with
       | 0 => simp at hu hc; subst hu hc; exact .p _ _ e4
       | 1 => simp at hu hc; subst hu hc; exact .p _ _ e5
       | j + 2 => simp at hc
      ·have : (Instr.entry (.pointer (some ⟨bk, 0, none⟩))).run P w = .ok (.tuple #[e.key, e.val]) w := by
        simp only [Instr.entry, Sem.run_bind, g1, g2, Result.andThen_ok, e3, bne_self_eq_false, Bool.false_eq_true, if_false, hf]
        rfl
       simp [execOp, hx, hrx, this]
   ·exact hq.elim
  ·exact hq.elim
 ·cases hm

end
end Fw
end

section
/-
  Operations, last part: comparisons of structs and arrays, cell by cell.
-/
namespace Fw
open Go

def flatF (g : Nat → Option (List Nat)) : Nat → List Field → Option (List Nat)
 | _, [] => some []
 | off, f :: r => if f.name ≠ "_" ∧ f.offset = off then (match g f.type with
  | some c => match flatF g (off + c.length) r with
   | some q => some (c ++ q)
   | none => none
  | none => none) else none

def flatT (P : Program) : Nat → TypeId → Option (List Nat)
 | 0, _ => none
 | d + 1, t => match P.info? t with
  | none => none
  | some i => match P.underlying t with
   | some .bool => if i.size = 1 then some [2] else none
   | some .string => if i.size = 1 then some [1] else none
   | some (.int _) => if i.size = 1 then some [0] else none
   | some (.struct fs) => if P.stoodInHeld t = false then (match flatF (flatT P d) 0 fs.toList with
    | some ks => if i.size = ks.length then some ks else none
    | none => none) else none
   | some (.array n e) => match flatT P d e with
    | some c => if i.size = n * c.length ∧ P.cellsOf e = c.length then some (List.replicate n c).flatten else none
    | none => none
   | _ => none

section
variable {CM : Nat → Code → ACode → Prop} {base : Nat} {Im0 : Nat → Prop} {w : World} {m : Mem} {s : Sto} {P : Program} {ρ : Operand → Value} {ρa : Opd → AVal} {Q : AVal × Sto → Prop} {I : Nat → Prop}

theorem eqK_append : ∀ {r : Bool} {j k : List Nat} {l l' : List AVal}, eqK (j ++ k) l l' = some r → ∃ x y, eqK j (l.take j.length) (l'.take j.length) = some x ∧ eqK k (l.drop j.length) (l'.drop j.length) = some y ∧ r = (x && y)
 | r, [], k, l, l', h => ⟨true, r, by simp [eqK], by simpa using h, by simp⟩
 | r, i :: j, k, l, l', h => by
  match l, l' with
  | [], _ => simp [eqK] at h
  | _ :: _, [] => cases ‹AVal› <;> simp [eqK] at h
  | a :: as, b :: bs =>
   cases a <;> cases b <;> simp only [List.cons_append, eqK, reduceCtorEq] at h
   split at h
   ·rename_i hk
    split at h
    ·rename_i x hx
     split at h
     ·rename_i y hy
      cases h
      obtain ⟨x', y', e1, e2, e3⟩ := eqK_append hy
      exact ⟨x && x', y', by simp [eqK, hk, hx, e1], by simpa using e2, by rw [e3, Bool.and_assoc]⟩
     ·cases h
    ·cases h
   ·cases h

theorem eqK_len : ∀ {r : Bool} {j : List Nat} {l l' : List AVal}, eqK j l l' = some r → l.length = j.length ∧ l'.length = j.length
 | r, [], l, l', h => by
  match l, l' with
  | [], [] => simp
  | _ :: _, _ => simp [eqK] at h
  | [], _ :: _ => simp [eqK] at h
 | r, i :: j, l, l', h => by
  match l, l' with
  | [], _ => simp [eqK] at h
  | _ :: _, [] => cases ‹AVal› <;> simp [eqK] at h
  | a :: as, b :: bs =>
   cases a <;> cases b <;> simp only [eqK, reduceCtorEq] at h
   split at h
   ·split at h
    ·split at h
     ·rename_i y hy
      obtain ⟨e1, e2⟩ := eqK_len hy
      simp [e1, e2]
     ·cases h
    ·cases h
   ·cases h

def VL (w : World) (I : Nat → Prop) (m : Mem) (s : Sto) (agg : Bool) (v : Value) (l : List AVal) : Prop :=
 if agg then ∃ cs : Array Value, v = .agg cs ∧ cs.size = l.length ∧ CellsA w I m s cs l else ∃ a, l = [a] ∧ ARep w I m s v a

theorem flatT_info {d : Nat} {t : Nat} {ks : List Nat} (hf : flatT P d t = some ks) : ∃ i D, P.info? t = some i ∧ P.underlying t = some D ∧ i.size = ks.length ∧ (aggD D = false → ks.length = 1) := by
 cases d with
 | zero => cases hf
 | succ d =>
  simp only [flatT] at hf
  split at hf
  ·cases hf
  ·rename_i i hi
   split at hf
   ·rename_i hu; split at hf <;> cases hf; exact ⟨i, _, hi, hu, by assumption, fun _ => rfl⟩
   ·rename_i hu; split at hf <;> cases hf; exact ⟨i, _, hi, hu, by assumption, fun _ => rfl⟩
   ·rename_i hu; split at hf <;> cases hf; exact ⟨i, _, hi, hu, by assumption, fun _ => rfl⟩
   ·rename_i hu
    split at hf
    ·split at hf
     ·split at hf <;> cases hf
      exact ⟨i, _, hi, hu, by assumption, fun h => by cases h⟩
     ·cases hf
    ·cases hf
   ·rename_i hu
    split at hf
    ·split at hf
     ·rename_i h
      cases hf
      exact ⟨i, _, hi, hu, by rw [h.1]; simp, fun h => by cases h⟩
     ·cases hf
    ·cases hf
   ·cases hf

theorem part_VL {d : Nat} {t off : Nat} {ks : List Nat} (hf : flatT P d t = some ks) {xs : Array Value} {l : List AVal} (hl : xs.size = l.length) (hc : CellsA w I m s xs l) (hle : off + ks.length ≤ l.length) : ∃ v D, P.underlying t = some D ∧ (part t xs off).run P w = .ok v w ∧ VL w I m s (aggD D) v ((l.drop off).take ks.length) := by
 obtain ⟨i, D, hi, hD, hs, h1⟩ := flatT_info hf
 cases ha : aggD D with
 | true =>
  obtain ⟨v, r1, r2⟩ := part_rep (P := P) (agg := true) (sz := ks.length) (off := off) hl hc (by unfold readA; rw [if_pos rfl, if_pos hle]) hi hD hs ha
  obtain ⟨cs, e1, e2, e3⟩ := inv_agg r2
  exact ⟨v, D, hD, r1, by rw [ha]; exact ⟨cs, e1, e2, e3⟩⟩
 | false =>
  have hn := h1 ha
  rw [hn] at hs hle ⊢
  have hlt : off < l.length := by omega
  obtain ⟨v, r1, r2⟩ := part_rep (P := P) (agg := false) (sz := 1) (off := off) (a := l[off]) hl hc (by unfold readA; simp [hlt]) hi hD hs ha
  exact ⟨v, D, hD, r1, by rw [ha]; exact ⟨l[off], by rw [List.drop_eq_getElem_cons hlt]; rfl, r2⟩⟩

theorem eqK_one {k : Nat} {v v' : Value} {l l' : List AVal} {r : Bool} (h : VL w I m s false v l) (h' : VL w I m s false v' l') (he : eqK [k] l l' = some r) : ∃ x y, ARep w I m s v (.p x) ∧ ARep w I m s v' (.p y) ∧ keyOk k x = true ∧ eqP x y = some r := by
 obtain ⟨a, rfl, ha⟩ := h
 obtain ⟨b, rfl, hb⟩ := h'
 cases a <;> cases b <;> simp only [eqK, reduceCtorEq] at he
 rename_i x y
 split at he
 ·rename_i hk
  split at he
  ·rename_i z hz
   simp at he
   exact ⟨x, y, ha, hb, hk, by rw [hz, he]⟩
  ·cases he
 ·cases he

theorem eq_fields (g : Nat → Option (List Nat)) (d : Nat) (xs ys : Array Value) (l l' : List AVal) (hl : xs.size = l.length) (hl' : ys.size = l'.length) (hc : CellsA w I m s xs l) (hc' : CellsA w I m s ys l')
  (ih : ∀ t ks, g t = some ks → ∀ (a b : Value) (D : TypeDesc) (j j' : List AVal) (r : Bool), P.underlying t = some D → VL w I m s (aggD D) a j → VL w I m s (aggD D) b j' → eqK ks j j' = some r → (Op.equalIn d t a b).run P w = .ok r w)
  (hp : ∀ t ks off, g t = some ks → ∀ (xs : Array Value) (l : List AVal), xs.size = l.length → CellsA w I m s xs l → off + ks.length ≤ l.length → ∃ v D, P.underlying t = some D ∧ (part t xs off).run P w = .ok v w ∧ VL w I m s (aggD D) v ((l.drop off).take ks.length)) :
  ∀ (fs : List Field) (off : Nat) (ks : List Nat) (r : Bool), off ≤ l.length → off ≤ l'.length → flatF g off fs = some ks → eqK ks (l.drop off) (l'.drop off) = some r → (Op.eqFields d xs ys fs).run P w = .ok r w
 | [], off, ks, r, _, _, h, he => by
  simp [flatF] at h
  subst h
  have : r = true := by
   match hx : l.drop off, hy : l'.drop off with
   | [], [] => simp [hx, hy, eqK] at he; first | exact he | exact he.symm
   | _ :: _, _ => simp [hx, eqK] at he
   | [], _ :: _ => simp [hx, hy, eqK] at he
  simp [Op.eqFields, this]
 | f :: fs, off, ks, r, o1, o2, h, he => by
  simp only [flatF] at h
  split at h
  ·rename_i hn
   split at h
   ·rename_i c hcf
    split at h
    ·rename_i q hq
     cases h
     have hlen := eqK_len he
     simp only [List.length_drop, List.length_append] at hlen
     obtain ⟨x, y, e1, e2, e3⟩ := eqK_append he
     have hz : off + c.length ≤ l.length ∧ off + c.length ≤ l'.length := by omega
     ·obtain ⟨v, D, hD, p1, v1⟩ := hp f.type c off hcf xs l hl hc hz.1
      obtain ⟨v', D', hD', p2, v2⟩ := hp f.type c off hcf ys l' hl' hc' hz.2
      rw [hD] at hD'; cases hD'
      have e4 := ih f.type c hcf v v' D _ _ x hD v1 v2 e1
      simp only [Op.eqFields, ne_eq, hn.1, not_false_eq_true, if_true, Sem.run_bind, hn.2, p1, p2, e4, Result.andThen_ok]
      rw [List.drop_drop, List.drop_drop] at e2
      have := eq_fields g d xs ys l l' hl hl' hc hc' ih hp fs (off + c.length) q y hz.1 hz.2 hq e2
      cases x
      ·simp [e3]
      ·simp [e3, this]
    ·cases h
   ·cases h
  ·cases h

theorem eq_items (c : Nat) (ks : List Nat) (hcs : ks.length = c) (e : Nat) (d : Nat) (xs ys : Array Value) (l l' : List AVal) (hl : xs.size = l.length) (hl' : ys.size = l'.length) (hc : CellsA w I m s xs l) (hc' : CellsA w I m s ys l')
  (ih : ∀ (a b : Value) (D : TypeDesc) (j j' : List AVal) (r : Bool), P.underlying e = some D → VL w I m s (aggD D) a j → VL w I m s (aggD D) b j' → eqK ks j j' = some r → (Op.equalIn d e a b).run P w = .ok r w)
  (hp : ∀ off, ∀ (xs : Array Value) (l : List AVal), xs.size = l.length → CellsA w I m s xs l → off + ks.length ≤ l.length → ∃ v D, P.underlying e = some D ∧ (part e xs off).run P w = .ok v w ∧ VL w I m s (aggD D) v ((l.drop off).take ks.length)) :
  ∀ (n i : Nat) (r : Bool), i * c ≤ l.length → i * c ≤ l'.length → eqK (List.replicate n ks).flatten (l.drop (i * c)) (l'.drop (i * c)) = some r → (Op.eqItems d e c xs ys (List.range' i n)).run P w = .ok r w
 | 0, i, r, _, _, he => by
  have : r = true := by
   match hx : l.drop (i * c), hy : l'.drop (i * c) with
   | [], [] => simp [hx, hy, eqK] at he; first | exact he | exact he.symm
   | _ :: _, _ => simp [hx, eqK] at he
   | [], _ :: _ => simp [hx, hy, eqK] at he
  simp [Op.eqItems, this]
 | n + 1, i, r, o1, o2, he => by
  rw [List.replicate_succ, List.flatten_cons] at he
  have hlen := eqK_len he
  simp only [List.length_drop, List.length_append] at hlen
  obtain ⟨x, y, e1, e2, e3⟩ := eqK_append he
  have hz : i * c + ks.length ≤ l.length ∧ i * c + ks.length ≤ l'.length := by omega
  obtain ⟨v, D, hD, p1, v1⟩ := hp (i * c) xs l hl hc hz.1
  obtain ⟨v', D', hD', p2, v2⟩ := hp (i * c) ys l' hl' hc' hz.2
  rw [hD] at hD'; cases hD'
  have e4 := ih v v' D _ _ x hD v1 v2 e1
  rw [List.drop_drop, List.drop_drop] at e2
  have e5 : i * c + ks.length = (i + 1) * c := by rw [hcs, Nat.succ_mul]
  rw [e5] at e2 hz
  have := eq_items c ks hcs e d xs ys l l' hl hl' hc hc' ih hp n (i + 1) y hz.1 hz.2 e2
  simp only [List.range'_succ, Op.eqItems, Sem.run_bind, p1, p2, e4, Result.andThen_ok]
  cases x
  ·simp [e3]
  ·simp [e3, this]

theorem eq_flat : ∀ (d : Nat) (t : TypeId) (ks : List Nat), flatT P d t = some ks → ∀ (e : Nat) (a b : Value) (D : TypeDesc) (j j' : List AVal) (r : Bool), P.underlying t = some D → VL w I m s (aggD D) a j → VL w I m s (aggD D) b j' → eqK ks j j' = some r → (Op.equalIn (d + e) t a b).run P w = .ok r w
 | 0, t, ks, h, _, _, _, _, _, _, _, _, _, _, _ => by cases h
 | d + 1, t, ks, h, e, a, b, D, j, j', r, hD, ha, hb, he => by
  rw [Nat.add_right_comm]
  simp only [flatT] at h
  split at h
  ·cases h
  ·rename_i i hi
   split at h
   ·rename_i hu
    split at h <;> cases h
    rw [hu] at hD; cases hD
    obtain ⟨x, y, r1, r2, hk, hp⟩ := eqK_one ha hb he
    cases x <;> simp [keyOk] at hk
    cases y <;> simp [eqP] at hp
    rw [inv_bool r1, inv_bool r2]
    simp [Op.equalIn, run_underlying hu, hp]
   ·rename_i hu
    split at h <;> cases h
    rw [hu] at hD; cases hD
    obtain ⟨x, y, r1, r2, hk, hp⟩ := eqK_one ha hb he
    cases x <;> simp [keyOk] at hk
    cases y <;> simp [eqP] at hp
    obtain ⟨p, rfl, e1⟩ := inv_str r1
    obtain ⟨q, rfl, e2⟩ := inv_str r2
    rw [run_equalIn_string w _ t p q hu, ByteArray.toList_eq, ByteArray.toList_eq, e1, e2, hp]
   ·rename_i k hu
    split at h <;> cases h
    rw [hu] at hD; cases hD
    obtain ⟨x, y, r1, r2, hk, hp⟩ := eqK_one ha hb he
    cases x <;> simp [keyOk] at hk
    cases y <;> simp [eqP] at hp
    obtain ⟨rfl, hp⟩ := hp
    rw [inv_int r1, inv_int r2]
    simp [Op.equalIn, run_underlying hu, hp]
   ·rename_i fs hu
    split at h
    ·rename_i hst
     split at h
     ·rename_i n hf
      split at h <;> cases h
      rw [hu] at hD; cases hD
      obtain ⟨xs, rfl, x1, x2⟩ := ha
      obtain ⟨ys, rfl, y1, y2⟩ := hb
      have hfo : P.fieldsOf t = fs := by simp [Program.fieldsOf, hu]
      rw [run_equalIn_struct w (d + e) t xs ys (by rw [hfo, hu]) hst, hfo]
      exact eq_fields (flatT P d) (d + e) xs ys j j' x1 y1 x2 y2
       (fun t ks h a b D j j' r hD h1 h2 h3 => eq_flat d t ks h e a b D j j' r hD h1 h2 h3)
       (fun t ks off h xs l h1 h2 h3 => part_VL h h1 h2 h3) fs.toList 0 ks r (Nat.zero_le _) (Nat.zero_le _) hf (by simpa using he)
     ·cases h
    ·cases h
   ·rename_i n el hu
    split at h
    ·rename_i c hf
     split at h
     ·rename_i hcs
      cases h
      rw [hu] at hD; cases hD
      obtain ⟨xs, rfl, x1, x2⟩ := ha
      obtain ⟨ys, rfl, y1, y2⟩ := hb
      obtain ⟨i', _, hi', _⟩ := flatT_info hf
      rw [run_equalIn_array w (d + e) xs ys hu hi', List.range_eq_range']
      refine eq_items (P.cellsOf el) c hcs.2.symm el (d + e) xs ys j j' x1 y1 x2 y2
       (fun a b D j j' r hD h1 h2 h3 => eq_flat d el c hf e a b D j j' r hD h1 h2 h3)
       (fun off xs l h1 h2 h3 => part_VL hf h1 h2 h3) n 0 r (by simp) (by simp) (by simpa using he)
     ·cases h
    ·cases h
   ·cases h

def mEqagg (P : Program) (o : Op) (ks : List Nat) (ng : Bool) (y z : Opd) : Bool := match o with
 | .binOp op t x v _ => (match op with | .eql => !ng | .neq => ng | _ => false) && !P.eqGuardType P.depth t && (match flatT P 8 t with | some k => k == ks | none => false) && (match P.underlying t with | some D => aggD D | none => false) && mOpd x y && mOpd v z
 | _ => false

theorem ok_eqagg {o : Oper} {ks : List Nat} {ng : Bool} {y z : Opd} (hm : mEqagg P o.op ks ng y z = true) (h : SRep CM base Im0 w m s) (hρ : OpdOk w (Im base Im0 m s) m s ρ ρa) (hq : (opFn ρa s (.eqagg ks ng y z)).All Q) : Post CM base Im0 w m s Q ((execOp ρ o).run P w) := by
 unfold mEqagg at hm
 split at hm
 ·rename_i op t x v t' hx
  simp only [Bool.and_eq_true] at hm
  obtain ⟨⟨⟨⟨⟨h0, hg⟩, hf⟩, hu⟩, h1⟩, h2⟩ := hm
  simp only [Bool.not_eq_true'] at hg
  split at hf
  ·rename_i k hfl
   simp at hf
   subst hf
   split at hu
   ·rename_i D hD
    simp only [opFn] at hq
    split at hq
    ·rename_i l l' ha hb
     split at hq
     ·rename_i r hr
      obtain ⟨xs, e1, x1, x2⟩ := inv_agg (ha ▸ hρ x y h1)
      obtain ⟨ys, e2, y1, y2⟩ := inv_agg (hb ▸ hρ v z h2)
      have key := eq_flat (P := P) (w := w) 8 t k hfl 9992 (.agg xs) (.agg ys) D l l' r hD (by rw [hu]; exact ⟨xs, rfl, x1, x2⟩) (by rw [hu]; exact ⟨ys, rfl, y1, y2⟩) hr
      rw [show 8 + 9992 = 10000 from rfl] at key
      split at h0
      ·simp at h0; subst h0
       exact Post.same h hq (rep_bool _ _) (exec_bin hx (by rw [e1, e2]; exact run_eqGuard_agg w _ _ _ _ _ _ hg) (by rw [e1, e2, run_eql_struct, key]; rfl))
      ·subst h0
       exact Post.same h hq (rep_bool _ _) (exec_bin hx (by rw [e1, e2]; exact run_eqGuard_agg w _ _ _ _ _ _ hg) (by rw [e1, e2, run_neq_struct, key]; rfl))
      ·cases h0
     ·exact hq.elim
    ·exact hq.elim
   ·cases hu
  ·cases hf
 ·cases hm

end
end Fw
end

section
/-
  One lemma for all operations that call nothing.
-/
namespace Fw
open Go

def notCall : AOp → Bool
 | .call .. => false
 | _ => true

def mOp (P : Program) (o : Op) : AOp → Bool
 | .mv y => mMv o y
 | .pick c a b => mPick o c a b
 | .alloc _ _ zero => mAlloc P o zero
 | .allocr _ _ _ zero => mAlloc P o zero
 | .box _ y => mBox o y
 | .build zero ps => mBuild P o zero ps
 | .bslice _ es zero n ps => mBslice P o es zero n ps
 | .bslicer _ es zero n ps => mBslice P o es zero n ps
 | .callr .. => false
 | .callq .. => false
 | .ld agg sz y => mLd P o agg sz y
 | .st sz y z => mSt P o sz y z
 | .nilck y => mNilck o y
 | .bin b y z => mBin o b y z
 | .shift l y z => mShift o l y z
 | .eqagg ks ng y z => mEqagg P o ks ng y z
 | .eqb ng y z => mEqb P o ng y z
 | .eqnil k ng y => mEqnil P o k ng y
 | .neg y => mUn o .neg y
 | .not y => mUn o .not y
 | .bnot y => mUn o .xor y
 | .conv k y => mConv P o k y
 | .mkclo f a b => mMkclo o f a b
 | .mkmap => mMkmap o
 | .mkslice es zero y z => mMkslice P o es zero y z
 | .mkslicer _ es zero y z => mMkslice P o es zero y z
 | .clr es zero y => mClr P o es zero y
 | .slcs y lo hi => mSlcs P o y lo hi
 | .slc es y lo hi => mSlc P o es y lo hi
 | .slc3 _ es y lo hi mx => mSlc3 P o es y lo hi mx
 | .slca es n y lo hi => mSlca P o es n y lo hi
 | .fadr off y => mFadr P o off y
 | .fld agg off sz y => mFld P o agg off sz y
 | .iadr es y z => mIadr P o es y z
 | .iadra es n y z => mIadra P o es n y z
 | .idx agg es n y z => mIdx P o agg es n y z
 | .idxs y z => mIdxs P o y z
 | .lkup kk zero y z ok => mLkup P o kk zero y z ok
 | .mupd kk y z v => mMupd P o kk y z v
 | .rngs y => mRngs P o y
 | .rngm y => mRngm P o y
 | .nxt y isS => mNxt o y isS
 | .entry y => mEntry o y
 | .ext y i => mExt o y i
 | .len k y => mLen P o k y
 | .app es bytes _ y z => mApp P o es bytes y z
 | .appk es bytes _ y z => mApp P o es bytes y z
 | .copy es y z => mCopy P o es y z
 | .max ys => mMM .max o ys
 | .min ys => mMM .min o ys
 | .nilown _ => mNilown o
 | .allocown _ => mAllocown P o
 | .mentry .. => true
 | .estore .. => true
 | .del .. => true
 | .fail => true
 | .call .. => false

section
variable {CM : Nat → Code → ACode → Prop} {base : Nat} {Im0 : Nat → Prop} {w : World} {m : Mem} {s : Sto} {P : Program} {ρ : Operand → Value} {ρa : Opd → AVal} {Q : AVal × Sto → Prop}

theorem appk_app {ρ : Opd → AVal} {s : Sto} {es bytes : Nat} {zero : List AVal} {x y : Opd} {Q : AVal × Sto → Prop} (h : (opFn ρ s (.appk es bytes zero x y)).All Q) : (opFn ρ s (.app es bytes zero x y)).All Q := by
 simp only [opFn] at h ⊢
 split at h
 ·rename_i id ver off n hx
  split at h
  ·rename_i ys m hs
   simp only [hx]
   exact h
  ·exact h.elim
 ·exact h.elim

theorem ok_op {o : Oper} {ao : AOp} (hm : mOp P o.op ao = true) (h : SRep CM base Im0 w m s) (hb : base ≤ w.heap.size) (hρ : OpdOk w (Im base Im0 m s) m s ρ ρa) (hρc : ∀ v, ρ (.const v) = v)
  (hq : (opFn ρa s ao).All Q) : Post CM base Im0 w m s Q ((execOp ρ o).run P w) := by
 cases ao with
 | mv y => exact ok_mv hm h hρ hq
 | pick c a b => exact ok_pick hm h hρ hq
 | alloc isArr es zero => exact ok_alloc hm h hb hq
 | allocr j isArr es zero => simp only [opFn] at hq; exact hq.elim
 | box isArr y => exact ok_box hm h hb hρ hq
 | build zero ps => exact ok_build hm h hρ hq
 | bslice own es zero n ps => exact ok_bslice hm h hb hρ hq
 | bslicer j es zero n ps => simp only [opFn] at hq; exact hq.elim
 | callr j es f args => simp only [opFn] at hq; exact hq.elim
 | callq j es f args => simp only [opFn] at hq; exact hq.elim
 | ld agg sz y => exact ok_ld hm h hρ hq
 | st sz y z => exact ok_st hm h hρ hq
 | nilck y => exact ok_nilck hm h hρ hq
 | bin b y z => exact ok_bin hm h hρ hq
 | shift l y z => exact ok_shift hm h hρ hq
 | eqagg ks ng y z => exact ok_eqagg hm h hρ hq
 | eqb ng y z => exact ok_eqb hm h hρ hq
 | eqnil k ng y => exact ok_eqnil hm h hρ hρc hq
 | neg y => exact ok_neg hm h hρ hq
 | not y => exact ok_not hm h hρ hq
 | bnot y => exact ok_bnot hm h hρ hq
 | conv k y => exact ok_conv hm h hb hρ hq
 | mkclo f a b => exact ok_mkclo hm h hρ hq
 | mkmap => exact ok_mkmap hm h hb hq
 | mkslice es zero y z => exact ok_mkslice hm h hb hρ hq
 | mkslicer j es zero y z => simp only [opFn] at hq; exact hq.elim
 | clr es zero y => exact ok_clr hm h hρ hq
 | slcs y lo hi => exact ok_slcs hm h hρ hq
 | slc es y lo hi => exact ok_slc hm h hρ hq
 | slc3 own es y lo hi mx => exact ok_slc3 hm h hb hρ hq
 | slca es n y lo hi => exact ok_slca hm h hρ hq
 | fadr off y => exact ok_fadr hm h hρ hq
 | fld agg off sz y => exact ok_fld hm h hρ hq
 | iadr es y z => exact ok_iadr hm h hρ hq
 | iadra es n y z => exact ok_iadra hm h hρ hq
 | idx agg es n y z => exact ok_idx hm h hρ hq
 | idxs y z => exact ok_idxs hm h hρ hq
 | lkup kk zero y z ok => exact ok_lkup hm h hρ hq
 | mupd kk y z v => exact ok_mupd hm h hρ hq
 | mentry => exact hq.elim
 | estore => exact hq.elim
 | rngs y => exact ok_rngs hm h hb hρ hq
 | rngm y => exact ok_rngm hm h hb hρ hq
 | nxt y isS => exact ok_nxt hm h hρ hq
 | entry y => exact ok_entry hm h hρ hq
 | ext y i => exact ok_ext hm h hρ hq
 | call => exact hq.elim
 | len k y => exact ok_len hm h hρ hq
 | app es bytes zero y z => exact ok_app hm h hb hρ hq
 | appk es bytes zero y z => exact ok_app (zero := zero) hm h hb hρ (appk_app hq)
 | copy es y z => exact ok_copy hm h hρ hq
 | max ys => exact ok_max hm h hρ hq
 | min ys => exact ok_min hm h hρ hq
 | del => exact hq.elim
 | nilown es => exact ok_nilown hm h hb hρc hq
 | allocown es => exact ok_allocown hm h hb hq
 | fail => exact hq.elim

end
end Fw
end

section
/-
  What a call in a store of its own hands back, and how the caller takes it in.
-/
namespace Fw
open Go

theorem nodupB_spec : ∀ {l : List Nat}, nodupB l = true → l.Nodup := by
 intro l
 induction l with
 | nil => intro _; exact List.nodup_nil
 | cons a r ih =>
  intro h
  simp only [nodupB, Bool.and_eq_true, Bool.not_eq_true', List.contains_eq_mem, decide_eq_false_iff_not] at h
  exact List.nodup_cons.2 ⟨h.1, ih h.2⟩

theorem toP_pure (fr fr' : Bool) (s s' : Sto) (v : PVal) (d : Nat) : toP fr s (d + 1) (.p v) = toP fr' s' (d + 1) (.p v) := by simp [toP]

theorem purA_pure {a r : AVal} (hp : pureA a = true) {fr : Bool} {s : Sto} (h : purA fr s a = some r) (fr' : Bool) (s' : Sto) : purA fr' s' a = some r := by
 cases a <;> simp only [pureA, Bool.false_eq_true] at hp
 ·exact h
 ·rename_i cs
  simp only [purA] at h ⊢
  have : ∀ l : List AVal, (l.all fun c => match c with | .p _ => true | _ => false) = true → l.mapM (toP fr' s' depthP) = l.mapM (toP fr s depthP) := by
   intro l
   induction l with
   | nil => intro _; rfl
   | cons c t ih =>
    intro hl
    simp only [List.all_cons, Bool.and_eq_true] at hl
    cases c <;> simp only [Bool.false_eq_true, false_and] at hl
    rw [List.mapM_cons, List.mapM_cons, ih hl.2, show depthP = 3 + 1 from rfl, toP_pure fr' fr s' s]
  rw [this cs hp]
  exact h

section
variable {CM : Nat → Code → ACode → Prop} {w w' : World} {I : Nat → Prop} {m m' : Mem} {s s' : Sto}

def J2 (w : World) (I : Nat → Prop) (b : Nat) : Prop := b < w.heap.size → I b

def OwnV (_w' : World) (_I' : Nat → Prop) (m' : Mem) (s' : Sto) (id : Nat) (u : Value) (cs : List PVal) (n es : Nat) : Prop :=
 ∃ v, get s' id = some (.arr cs v es) ∧ n * es = cs.length ∧ 0 < es ∧ SlRep (m' id) es 0 n u

theorem fin1_spec (h : SRep CM w.heap.size I w' m' s') {u : Value} {a r : AVal} (ha : ARep w' (Im w.heap.size I m' s') m' s' u a) (hf : fin1 s' a = some r) :
  (∃ id ver cs n es, a = .sl id ver 0 n ∧ r = .own cs n es ∧ OwnV w' (Im w.heap.size I m' s') m' s' id u cs n es) ∨
  ((∀ cs n es, r ≠ .own cs n es) ∧ (∀ m1 s1, ARep w' (J2 w I) m1 s1 u r) ∧ (∀ m1 s1, pureA a = true → ARep w' (Im w.heap.size I m' s') m1 s1 u r) ∧
   (∀ id ver off n, a = .sl id ver off n → ∀ m1 s1, ARep w' (fun b => Im w.heap.size I m' s' b ∨ ∃ z, m' id = some (b, z)) m1 s1 u r)) := by
 have pur : ∀ r, purA false s' a = some r → (∀ cs n es, r ≠ .own cs n es) ∧ (∀ m1 s1, ARep w' (J2 w I) m1 s1 u r) ∧ (∀ m1 s1, pureA a = true → ARep w' (Im w.heap.size I m' s') m1 s1 u r) ∧
   (∀ id ver off n, a = .sl id ver off n → ∀ m1 s1, ARep w' (fun b => Im w.heap.size I m' s' b ∨ ∃ z, m' id = some (b, z)) m1 s1 u r) := by
  intro r hr
  refine ⟨fun cs n es e => ?_, fun m1 s1 => purA_rep h false (J2 w I) (fun b hb hlt => hb.1 hlt) (fun _ b ⟨i, o, z, h1, h2, h3⟩ hlt => by have := (h.rng i o b z h1 h3).1; omega) m1 s1 ha hr,
   fun m1 s1 hp => purA_rep h true (Im w.heap.size I m' s') (fun b hb => hb) (fun hf => by cases hf) m1 s1 ha (purA_pure hp hr true s'), fun id ver off n e m1 s1 => ?_⟩
  ·subst e
   cases a <;> simp only [purA] at hr <;> first | (cases hr; done) | (split at hr <;> cases hr)
  ·subst e
   simp only [purA, depthP, toP] at hr
   cases ha with
   | sl _ _ _ _ _ o hg hrow hver hcase =>
   cases o with
   | arr cs v es =>
    simp only [hg] at hr
    split at hr
    ·rename_i p hp
     cases hr
     split at hp
     ·rename_i hc
      cases hp
      obtain ⟨rfl, _, hbd⟩ := hc
      have hsl := hcase rfl
      rcases h.obj id _ hg with ⟨e1, rfl⟩ | ⟨b, z, cur, e, fr, h1, h2, h3, h4, h5, h6⟩
      ·rcases hsl with ⟨rfl, a0, rfl⟩ | ⟨b, z, cap, hm, _⟩
       ·refine .p _ _ ?_
        simp [cut]; exact .sl0 ..
       ·rw [e1] at hm; cases hm
      ·rw [h1] at hsl
       exact .p _ _ (cut_rep h2 (.inr ⟨z, h1⟩) h4 h5 (fun j u c hu hc => (h6 j u c hu hc).toJ (fun _ hb => .inl hb)) hbd hsl)
     ·cases hp
    ·cases hr
   | frz cs v es =>
    simp only [hg] at hr
    split at hr
    ·rename_i p hp
     cases hr
     split at hp
     ·rename_i hc
      cases hp
      obtain ⟨rfl, hbd⟩ := hc
      have hsl := hcase rfl
      rcases h.obj id _ hg with ⟨e1, rfl⟩ | ⟨b, z, cur, e, fr, h1, h2, h3, h4, h5, h6⟩
      ·rcases hsl with ⟨rfl, a0, rfl⟩ | ⟨b, z, cap, hm, _⟩
       ·refine .p _ _ ?_
        simp [cut]; exact .sl0 ..
       ·rw [e1] at hm; cases hm
      ·rw [h1] at hsl
       exact .p _ _ (cut_rep h2 (.inl h3) h4 h5 (fun j u c hu hc => (h6 j u c hu hc).toJ (fun _ hb => .inl hb)) hbd hsl)
     ·cases hp
    ·cases hr
   | box cs => simp [hg] at hr
   | map => simp [hg] at hr
   | fmap => simp [hg] at hr
   | siter => simp [hg] at hr
   | miter => simp [hg] at hr
   | loop => simp [hg] at hr
 unfold fin1 at hf
 split at hf
 ·rename_i id ver off len
  split at hf
  ·rename_i cs v es hg
   split at hf
   ·rename_i hc
    cases hf
    obtain ⟨rfl, rfl, hl, hes⟩ := hc
    cases ha with
    | sl _ _ _ _ _ o hg' hrow hver hcase =>
    rw [hg] at hg'; cases hg'
    exact .inl ⟨id, v, cs, len, es, rfl, rfl, v, hg, hl, hes, hcase rfl⟩
   ·exact .inr (pur r hf)
  ·exact .inr (pur r hf)
 ·exact .inr (pur r hf)

theorem OwnV.data (h : SRep CM w.heap.size I w' m' s') {id : Nat} {u : Value} {cs : List PVal} {n es : Nat} (ho : OwnV w' (Im w.heap.size I m' s') m' s' id u cs n es) : PRep w' (J2 w I) u (.sl cs n) := by
 obtain ⟨v, hg, hl, hes, hsl⟩ := ho
 have hcut : cut cs 0 n es = .sl cs n := by simp [cut, hl]
 rcases h.obj id _ hg with ⟨e1, rfl⟩ | ⟨b, z, cur, e, fr, h1, h2, h3, h4, h5, h6⟩
 ·rcases hsl with ⟨rfl, a0, rfl⟩ | ⟨b, z, cap, hm, _⟩
  ·exact .sl0 ..
  ·rw [e1] at hm; cases hm
 ·rw [h1] at hsl
  have := cut_rep (J := J2 w I) h2 (fun hlt => by have := (h.rng id _ b z hg h1).1; omega) h4 h5 (fun j u c hu hc => (h6 j u c hu hc).toJ (fun _ hb => hb.1)) (by omega) hsl
  rwa [hcut] at this

end
end Fw
end

section
/-
  A caller takes in what a call hands back.
-/
namespace Fw
open Go

structure Adds (w' : World) (lowb : Nat) (Jn : Nat → Prop) (used : Nat → Prop) (m : Mem) (s : Sto) (m2 : Mem) (s2 : Sto) : Prop where
 keys : keysDesc s2
 old : ∀ i o, get s i = some o → get s2 i = some o ∧ m2 i = m i
 new : ∀ i o, get s2 i = some o → (get s i = some o ∧ m2 i = m i) ∨ ∃ cs es, o = .arr cs 0 es ∧ ((m2 i = none ∧ cs = []) ∨ ∃ b z cur e fr, m2 i = some (b, z) ∧ lowb ≤ b ∧ used b ∧
  w'.heap[b]? = some (.cells cur e fr) ∧ NoFrz fr z ∧ cur.size = z ∧ cs.length ≤ z ∧ CellsP w' Jn cur cs)
 inj : ∀ i j o o' b z z', get s2 i = some o → get s2 j = some o' → lowb ≤ b → m2 i = some (b, z) → m2 j = some (b, z') → i = j

section
variable {CM : Nat → Code → ACode → Prop} {base : Nat} {Im0 : Nat → Prop} {w w' : World} {I : Nat → Prop} {m m' : Mem} {s s' : Sto}

theorem Adds.rep {Jn used : Nat → Prop} {m2 : Mem} {s2 : Sto} (h : SRep CM base Im0 w m s) (e : Ext w w') (hb : base ≤ w.heap.size) (ad : Adds w' w.heap.size Jn used m s m2 s2)
  (hJ : ∀ b, Jn b → (b < w.heap.size → Im base Im0 m s b) ∧ ¬ used b) : SRep CM base Im0 w' m2 s2 ∧ (∀ lo, Evo lo w m s w' m2 s2) ∧ (∀ b, Jn b → Im base Im0 m2 s2 b) := by
 have hko : KeepsO m s m2 s2 := fun i o hg => ⟨o, (ad.old i o hg).1, rfl, rfl, Nat.le_refl _, fun _ => ⟨(ad.old i o hg).2, rfl⟩⟩
 have hown : ∀ b, Own m2 s2 b → Own m s b ∨ (w.heap.size ≤ b ∧ used b) := by
  rintro b ⟨i, o, z, h1, h2, h3⟩
  rcases ad.new i o h1 with ⟨k1, k2⟩ | ⟨cs, es, rfl, k⟩
  ·exact .inl ⟨i, o, z, k1, h2, k2 ▸ h3⟩
  ·rcases k with ⟨k, _⟩ | ⟨b', z', cur, e', fr, k1, k2, k3, _⟩
   ·rw [k] at h3; cases h3
   ·rw [k1] at h3; cases h3; exact .inr ⟨k2, k3⟩
 have hev : ∀ lo, Evo lo w m s w' m2 s2 := fun lo =>
  ⟨e.os, e.tape, e.output, e.size, fun _ _ hb _ => e.heap hb, fun b hb hw => by
   rcases hown b hw with hw | ⟨hw, _⟩
   ·exact hw
   ·omega, fun i _ p hg => hko i p hg, fun _ lp hb => ⟨lp, e.heap hb⟩⟩
 have hJI : ∀ b, Jn b → Im base Im0 m2 s2 b := fun b hj => ⟨fun hlt => ((hJ b hj).1 (by omega)).1 hlt, fun ho => by
  rcases hown b ho with ho | ⟨_, ho⟩
  ·have : b < w.heap.size := by obtain ⟨i, o, z, h1, _, h3⟩ := ho; exact (h.rng i o b z h1 h3).2
   exact ((hJ b hj).1 this).2 ho
  ·exact (hJ b hj).2 ho⟩
 refine ⟨⟨ad.keys, fun i o hg => ?_, fun i j o o' b z z' hi hj hmi hmj => ?_, fun i o b z hg hm => ?_⟩, hev, hJI⟩
 ·rcases ad.new i o hg with ⟨k1, k2⟩ | ⟨cs, es, rfl, k⟩
  ·exact (h.obj i o k1).mono (hev 0).keeps (fun j _ p hp => hko j p hp) k2 (fun b z hm => e.same b (h.rng i o b z k1 hm).2)
  ·rcases k with ⟨k, k'⟩ | ⟨b', z', cur, e', fr, k1, k2, k3, k4, k5, k6, k7, k8⟩
   ·exact .inl ⟨k, k'⟩
   ·exact .inr ⟨b', z', cur, e', fr, k1, k4, k5, k6, k7, fun j u c hu hc => (k8 j u c hu hc).toJ hJI⟩
 ·rcases ad.new i o hi with ⟨k1, k2⟩ | ⟨cs, es, rfl, k⟩
  ·have hblt := (h.rng i o b z k1 (k2 ▸ hmi)).2
   rcases ad.new j o' hj with ⟨l1, l2⟩ | ⟨cs, es, rfl, k⟩
   ·exact h.inj i j o o' b z z' k1 l1 (k2 ▸ hmi) (l2 ▸ hmj)
   ·rcases k with ⟨k, _⟩ | ⟨b', z'', cur, e', fr, k3, k4, _⟩
    ·rw [k] at hmj; cases hmj
    ·rw [k3] at hmj; cases hmj; omega
  ·rcases k with ⟨k, _⟩ | ⟨b', z'', cur, e', fr, k3, k4, _⟩
   ·rw [k] at hmi; cases hmi
   ·rw [k3] at hmi
    cases hmi
    exact ad.inj i j _ o' _ _ z' hi hj k4 k3 hmj
 ·rcases ad.new i o hg with ⟨k1, k2⟩ | ⟨cs, es, rfl, k⟩
  ·have := h.rng i o b z k1 (k2 ▸ hm); have := e.size; omega
  ·rcases k with ⟨k, _⟩ | ⟨b', z'', cur, e', fr, k3, k4, _, k5, _⟩
   ·rw [k] at hm; cases hm
   ·rw [k3] at hm; cases hm; exact ⟨by omega, heap_lt k5⟩

inductive OwnL (w' : World) (I' : Nat → Prop) (Jn : Nat → Prop) (m' : Mem) (s' : Sto) : List Value → List AVal → List Nat → Prop
 | nil : OwnL w' I' Jn m' s' [] [] []
 | own {us : List Value} {rs : List AVal} {ids : List Nat} (u : Value) (id : Nat) (cs : List PVal) (n es : Nat) : OwnV w' I' m' s' id u cs n es → id ∉ ids → OwnL w' I' Jn m' s' us rs ids →
   OwnL w' I' Jn m' s' (u :: us) (.own cs n es :: rs) (id :: ids)
 | oth {us : List Value} {rs : List AVal} {ids : List Nat} (u : Value) (r : AVal) : (∀ cs n es, r ≠ .own cs n es) → (∀ m1 s1, ARep w' Jn m1 s1 u r) → OwnL w' I' Jn m' s' us rs ids → OwnL w' I' Jn m' s' (u :: us) (r :: rs) ids

theorem Adds.refl (hk : keysDesc s) {lowb : Nat} {Jn used : Nat → Prop} (hinj : ∀ i j o o' b z z', get s i = some o → get s j = some o' → lowb ≤ b → m i = some (b, z) → m j = some (b, z') → i = j) :
  Adds w' lowb Jn used m s m s := ⟨hk, fun _ _ h => ⟨h, rfl⟩, fun _ _ h => .inl ⟨h, rfl⟩, hinj⟩

theorem adopt_adds {lowb : Nat} {I' Jn : Nat → Prop} {lb : Nat} {Im1 : Nat → Prop} (h' : SRep CM lb Im1 w' m' s') (hlb : lowb ≤ lb) (_hI' : ∀ b, Im lb Im1 m' s' b → I' b)
  (hcell : ∀ b, Im lb Im1 m' s' b → Jn b) {es : Nat} : ∀ {us : List Value} {rs : List AVal} {ids : List Nat}, OwnL w' (Im lb Im1 m' s') Jn m' s' us rs ids →
  ∀ (m : Mem) (s : Sto) (ys : List AVal) (s2 : Sto), adoptL es s rs = some (ys, s2) → keysDesc s →
  (∀ i j o o' b z z', get s i = some o → get s j = some o' → lowb ≤ b → m i = some (b, z) → m j = some (b, z') → i = j) →
  (∀ i o b z, get s i = some o → m i = some (b, z) → lowb ≤ b → ∀ id ∈ ids, ∀ z', m' id ≠ some (b, z')) →
  ∃ m2, Adds w' lowb Jn (fun b => ∃ id ∈ ids, ∃ z, m' id = some (b, z)) m s m2 s2 ∧ ys.length = us.length ∧
   ∀ (j : Nat) u y, us[j]? = some u → ys[j]? = some y → ∀ I2, (∀ b, Jn b → I2 b) → ARep w' I2 m2 s2 u y := by
 intro us rs ids hl
 induction hl with
 | nil =>
  intro m s ys s2 ha hk hinj hdis
  simp only [adoptL] at ha
  cases ha
  exact ⟨m, Adds.refl hk hinj, rfl, fun j u y hu => by simp at hu⟩
 | @oth us rs ids u r hr hrep hl ih =>
  intro m s ys s2 ha hk hinj hdis
  have h1 : adopt1 es r s = some (r, s) := by
   cases r <;> first | rfl | exact absurd rfl (hr _ _ _)
  simp only [adoptL, h1] at ha
  cases hx : adoptL es s rs with
  | none => rw [hx] at ha; cases ha
  | some y =>
   rw [hx] at ha
   simp only [Option.some.injEq, Prod.mk.injEq] at ha
   obtain ⟨rfl, rfl⟩ := ha
   obtain ⟨m2, k1, k2, k3⟩ := ih m s y.1 y.2 hx hk hinj hdis
   refine ⟨m2, k1, by simp [k2], fun j u' y' hu hy I2 hI2 => ?_⟩
   cases j with
   | zero => simp at hu hy; subst hu hy; exact (hrep m2 y.2).mono' (fun b o hb ho _ => ⟨hI2 b hb, ho⟩) (fun i _ o hg => ⟨o, hg, rfl, rfl, Nat.le_refl _, fun _ => ⟨rfl, rfl⟩⟩)
   | succ j => exact k3 j u' y' (by simpa using hu) (by simpa using hy) I2 hI2
 | @own us rs ids u id cs n e ho hid hl ih =>
  intro m s ys s2 ha hk hinj hdis
  obtain ⟨v, hg, hn, he0, hsl⟩ := ho
  simp only [adoptL, adopt1] at ha
  by_cases he : e = es ∨ e = 0
  ·have hee : e = es := by omega
   subst hee
   rw [if_pos he] at ha
   simp only at ha
   cases hx : adoptL e ((nextId s, .arr cs 0 e) :: s) rs with
   | none => rw [hx] at ha; cases ha
   | some y =>
    rw [hx] at ha
    simp only [Option.some.injEq, Prod.mk.injEq] at ha
    obtain ⟨rfl, rfl⟩ := ha
    obtain ⟨m2, k1, k2, k3⟩ := ih (upd m (nextId s) (m' id)) _ y.1 y.2 hx (keysDesc_new hk _)
     (fun i j o o' b z z' hi hj hb hmi hmj => by
      rw [get_new] at hi hj
      split at hi <;> split at hj
      ·rename_i e1 e2; omega
      ·rename_i e1 e2
       subst e1
       rw [upd_same] at hmi
       rw [upd_ne _ _ (Ne.symm e2)] at hmj
       exact absurd hmi (hdis j o' b z' hj hmj hb id (by simp) z)
      ·rename_i e1 e2
       subst e2
       rw [upd_same] at hmj
       rw [upd_ne _ _ (Ne.symm e1)] at hmi
       exact absurd hmj (hdis i o b z hi hmi hb id (by simp) z')
      ·rename_i e1 e2
       rw [upd_ne _ _ (Ne.symm e1)] at hmi
       rw [upd_ne _ _ (Ne.symm e2)] at hmj
       exact hinj i j o o' b z z' hi hj hb hmi hmj)
     (fun i o b z hi hmi hb id' hid' z' hm' => by
      rw [get_new] at hi
      split at hi
      ·rename_i e1
       subst e1
       rw [upd_same] at hmi
       have hgo : ∃ o', get s' id' = some o' := by
        clear ih hx hdis hinj
        induction hl with
        | nil => simp at hid'
        | oth _ _ _ _ _ ih => exact ih hid hid'
        | own _ id2 _ _ _ ho2 _ _ ih =>
         rcases List.mem_cons.1 hid' with e2 | e2
         ·subst e2; obtain ⟨v2, hg2, _⟩ := ho2; exact ⟨_, hg2⟩
         ·exact ih (fun hx => hid (by simp [hx])) e2
       obtain ⟨o', hgo⟩ := hgo
       have := h'.inj id id' _ o' b z z' hg hgo hmi hm'
       subst this
       exact hid hid'
      ·rename_i e1
       rw [upd_ne _ _ (Ne.symm e1)] at hmi
       exact hdis i o b z hi hmi hb id' (by simp [hid']) z' hm')
    have hnew : get y.2 (nextId s) = some (.arr cs 0 e) ∧ m2 (nextId s) = m' id := by
     obtain ⟨a1, a2⟩ := k1.old (nextId s) (.arr cs 0 e) (by rw [get_new, if_pos rfl])
     exact ⟨a1, by rw [a2, upd_same]⟩
    refine ⟨m2, ⟨k1.keys, fun i o hi => ?_, fun i o hi => ?_, k1.inj⟩, by simp [k2], fun j u' y' hu hy I2 hI2 => ?_⟩
    ·have hne : i ≠ nextId s := Nat.ne_of_lt (get_lt hk hi)
     obtain ⟨a1, a2⟩ := k1.old i o (by rw [get_new, if_neg (Ne.symm hne)]; exact hi)
     exact ⟨a1, by rw [a2, upd_ne _ _ hne]⟩
    ·rcases k1.new i o hi with ⟨a1, a2⟩ | ⟨cs', es', rfl, a⟩
     ·rw [get_new] at a1
      split at a1
      ·rename_i e1
       subst e1
       cases a1
       rw [upd_same] at a2
       refine .inr ⟨cs, e, rfl, ?_⟩
       rcases h'.obj id _ hg with ⟨b1, b2⟩ | ⟨b, z, cur, el, fr, b1, b2, b3, b4, b5, b6⟩
       ·exact .inl ⟨a2.trans b1, b2⟩
       ·have := h'.rng id _ b z hg b1
        exact .inr ⟨b, z, cur, el, fr, a2.trans b1, by omega, ⟨id, by simp, z, b1⟩, b2, b3, b4, b5, fun j u c hu hc => (b6 j u c hu hc).toJ hcell⟩
      ·rename_i e1
       exact .inl ⟨a1, by rw [a2, upd_ne _ _ (Ne.symm e1)]⟩
     ·refine .inr ⟨cs', es', rfl, ?_⟩
      rcases a with a | ⟨b, z, cur, el, fr, b1, b2, ⟨id2, b3, z2, b4⟩, b5⟩
      ·exact .inl a
      ·exact .inr ⟨b, z, cur, el, fr, b1, b2, ⟨id2, by simp [b3], z2, b4⟩, b5⟩
    ·cases j with
     | zero =>
      simp at hu hy
      subst hu hy
      refine .sl _ (nextId s) 0 0 n _ hnew.1 rfl (Nat.le_refl _) (fun _ => by rw [hnew.2]; exact hsl) ?_
      rcases hsl with ⟨_, a0, rfl⟩ | ⟨_, _, _, _, rfl, _⟩ <;> rfl
     | succ j => exact k3 j u' y' (by simpa using hu) (by simpa using hy) I2 hI2
  ·rw [if_neg he] at ha; simp at ha

end
end Fw
end

section
/-
  A caller takes in what a call hands back: results of one value and of several.
-/
namespace Fw
open Go

section
variable {CM : Nat → Code → ACode → Prop} {base : Nat} {Im0 : Nat → Prop} {w w' : World} {I : Nat → Prop} {m m' : Mem} {s s' : Sto}

theorem purA_notown {fr : Bool} {a r : AVal} (hr : purA fr s a = some r) : ∀ cs n es, r ≠ .own cs n es := by
 intro cs n es e
 subst e
 cases a <;> simp only [purA] at hr <;> first | (cases hr; done) | (split at hr <;> cases hr)

theorem purA_J2 (h : SRep CM w.heap.size I w' m' s') {u : Value} {a r : AVal} (ha : ARep w' (Im w.heap.size I m' s') m' s' u a) (hr : purA false s' a = some r) (m1 : Mem) (s1 : Sto) : ARep w' (J2 w I) m1 s1 u r :=
 purA_rep h false (J2 w I) (fun b hb hlt => hb.1 hlt) (fun _ b ⟨i, o, z, h1, h2, h3⟩ hlt => by have := (h.rng i o b z h1 h3).1; omega) m1 s1 ha hr

theorem fin_own (h : SRep CM w.heap.size I w' m' s') : ∀ (vs : List AVal) (us : List Value) (rs : List AVal), us.length = vs.length → (∀ (j : Nat) u a, us[j]? = some u → vs[j]? = some a → ARep w' (Im w.heap.size I m' s') m' s' u a) →
  vs.mapM (fin1 s') = some rs → (refsL vs).Nodup → (vs.all fun v => isSl v || pureA v) = true →
  ∃ ids, (∀ id ∈ ids, id ∈ refsL vs) ∧ ∀ Jn : Nat → Prop, (∀ b, Im w.heap.size I m' s' b → Jn b) → (∀ id ∈ refsL vs, id ∉ ids → ∀ b z, m' id = some (b, z) → Jn b) →
   OwnL w' (Im w.heap.size I m' s') Jn m' s' us rs ids := by
 intro vs
 induction vs with
 | nil =>
  intro us rs hl _ hm _ _
  simp at hm
  subst hm
  cases us with
  | nil => exact ⟨[], fun _ h => h, fun _ _ _ => .nil⟩
  | cons => simp at hl
 | cons v t ih =>
  intro us rs hl hrep hm hnd hall
  cases us with
  | nil => simp at hl
  | cons u us =>
   rw [List.mapM_cons] at hm
   cases hf : fin1 s' v with
   | none => rw [hf] at hm; simp at hm
   | some r =>
    rw [hf] at hm
    cases ht : t.mapM (fin1 s') with
    | none => rw [ht] at hm; simp at hm
    | some rs' =>
     rw [ht] at hm
     simp at hm
     subst hm
     simp only [refsL, List.nodup_append] at hnd
     obtain ⟨hnd1, hnd2, hnd3⟩ := hnd
     simp only [List.all_cons, Bool.and_eq_true] at hall
     obtain ⟨ids, k1, k2⟩ := ih us rs' (by simpa using hl) (fun j u a hu ha => hrep (j + 1) u a (by simpa using hu) (by simpa using ha)) ht hnd2 hall.2
     rcases fin1_spec h (hrep 0 u v rfl rfl) hf with ⟨id, ver, cs, n, es, rfl, rfl, ho⟩ | ⟨h1, h2, h3, h4⟩
     ·have hidt : id ∉ refsL t := fun hx => hnd3 id (by simp [refs]) id hx rfl
      refine ⟨id :: ids, fun i hi => ?_, fun Jn hJ hn => .own u id cs n es ho (fun hx => hidt (k1 id hx)) (k2 Jn hJ (fun i hi hni b z hm => hn i (by simp [refsL, hi]) (fun hx => ?_) b z hm))⟩
      ·rcases List.mem_cons.1 hi with e | e
       ·subst e; simp [refsL, refs]
       ·simp [refsL, k1 i e]
      ·rcases List.mem_cons.1 hx with e | e
       ·subst e; exact hidt hi
       ·exact hni e
     ·refine ⟨ids, fun i hi => by simp [refsL, k1 i hi], fun Jn hJ hn => .oth u r h1 (fun m1 s1 => ?_) (k2 Jn hJ (fun i hi hni b z hm => hn i (by simp [refsL, hi]) hni b z hm))⟩
      have keep : ∀ Jx : Nat → Prop, (∀ b, Jx b → Jn b) → ARep w' Jx m1 s1 u r → ARep w' Jn m1 s1 u r := fun Jx hx ha =>
       ha.mono' (fun b o hb ho _ => ⟨hx b hb, ho⟩) (fun i _ o hg => ⟨o, hg, rfl, rfl, Nat.le_refl _, fun _ => ⟨rfl, rfl⟩⟩)
      rcases Bool.or_eq_true_iff.1 hall.1 with hs | hp
      ·cases v <;> simp only [isSl, Bool.false_eq_true] at hs
       rename_i id ver off n
       refine keep _ (fun b hb => ?_) (h4 id ver off n rfl m1 s1)
       rcases hb with hb | ⟨z, hz⟩
       ·exact hJ b hb
       ·exact hn id (by simp [refsL, refs]) (fun hx => hnd3 id (by simp [refs]) id (k1 id hx) rfl) b z hz
      ·exact keep _ hJ (h3 m1 s1 hp)

theorem fin_pure (h : SRep CM w.heap.size I w' m' s') : ∀ (vs : List AVal) (us : List Value) (rs : List AVal), us.length = vs.length → (∀ (j : Nat) u a, us[j]? = some u → vs[j]? = some a → ARep w' (Im w.heap.size I m' s') m' s' u a) →
  vs.mapM (purA false s') = some rs → OwnL w' (Im w.heap.size I m' s') (J2 w I) m' s' us rs [] := by
 intro vs
 induction vs with
 | nil =>
  intro us rs hl _ hm
  simp at hm
  subst hm
  cases us with
  | nil => exact .nil
  | cons => simp at hl
 | cons v t ih =>
  intro us rs hl hrep hm
  cases us with
  | nil => simp at hl
  | cons u us =>
   rw [List.mapM_cons] at hm
   cases hf : purA false s' v with
   | none => rw [hf] at hm; simp at hm
   | some r =>
    rw [hf] at hm
    cases ht : t.mapM (purA false s') with
    | none => rw [ht] at hm; simp at hm
    | some rs' =>
     rw [ht] at hm
     simp at hm
     subst hm
     exact .oth u r (purA_notown hf) (fun m1 s1 => purA_J2 h (hrep 0 u v rfl rfl) hf m1 s1) (ih us rs' (by simpa using hl) (fun j u a hu ha => hrep (j + 1) u a (by simpa using hu) (by simpa using ha)) ht)

def Given (CM : Nat → Code → ACode → Prop) (w : World) (I : Nat → Prop) (w' : World) (us : List Value) (rs : List AVal) : Prop :=
 ∃ m' s' ids Jn, SRep CM w.heap.size I w' m' s' ∧ OwnL w' (Im w.heap.size I m' s') Jn m' s' us rs ids ∧ (∀ b, Im w.heap.size I m' s' b → Jn b) ∧
  (∀ b, Jn b → (b < w.heap.size → I b) ∧ ¬ ∃ id ∈ ids, ∃ z, m' id = some (b, z))

theorem OwnL.len {Jn I' : Nat → Prop} {us : List Value} {rs : List AVal} {ids : List Nat} (h : OwnL w' I' Jn m' s' us rs ids) : us.length = rs.length := by
 induction h with
 | nil => rfl
 | own _ _ _ _ _ _ _ _ ih => simp [ih]
 | oth _ _ _ _ _ ih => simp [ih]

theorem OwnL.disown {Jn : Nat → Prop} {us : List Value} {rs : List AVal} {ids : List Nat} (hs : SRep CM w.heap.size I w' m' s') (h : OwnL w' (Im w.heap.size I m' s') Jn m' s' us rs ids) (hJ : ∀ b, Jn b → b < w.heap.size → I b) :
  ∀ (j : Nat) u r, us[j]? = some u → rs[j]? = some r → ∀ m1 s1, ARep w' (J2 w I) m1 s1 u (Fw.disown r) := by
 induction h with
 | nil => intro j u r hu; simp at hu
 | own u id cs n es ho _ _ ih =>
  intro j u' r' hu hr m1 s1
  cases j with
  | zero => simp at hu hr; subst hu hr; exact .p _ _ (ho.data hs)
  | succ j => exact ih j u' r' (by simpa using hu) (by simpa using hr) m1 s1
 | oth u r hr hrep _ ih =>
  intro j u' r' hu hr' m1 s1
  cases j with
  | zero =>
   simp at hu hr'; subst hu hr'
   have : Fw.disown r = r := by cases r <;> first | rfl | exact absurd rfl (hr _ _ _)
   rw [this]
   exact (hrep m1 s1).mono' (fun b o hb ho _ => ⟨hJ b hb, ho⟩) (fun i _ o hg => ⟨o, hg, rfl, rfl, Nat.le_refl _, fun _ => ⟨rfl, rfl⟩⟩)
  | succ j => exact ih j u' r' (by simpa using hu) (by simpa using hr') m1 s1

theorem OwnL.mut {I' Jn : Nat → Prop} {us : List Value} {rs : List AVal} {ids : List Nat} (h : OwnL w' I' Jn m' s' us rs ids) : ∀ id ∈ ids, ∃ o, get s' id = some o ∧ mutO o = true := by
 induction h with
 | nil => intro id hid; simp at hid
 | own u id cs n es ho _ _ ih =>
  intro id' hid
  rcases List.mem_cons.1 hid with e | e
  ·subst e; obtain ⟨v, hg, _⟩ := ho; exact ⟨_, hg, rfl⟩
  ·exact ih id' e
 | oth _ _ _ _ _ ih => exact ih

theorem fin1_given (h : SRep CM w.heap.size I w' m' s') {u : Value} {a r : AVal} (ha : ARep w' (Im w.heap.size I m' s') m' s' u a) (hf : fin1 s' a = some r) : Given CM w I w' [u] [r] := by
 rcases fin1_spec h ha hf with ⟨id, ver, cs, n, es, rfl, rfl, ho⟩ | ⟨h1, h2, h3, h4⟩
 ·refine ⟨m', s', [id], fun b => (b < w.heap.size → I b) ∧ ¬ ∃ id' ∈ [id], ∃ z, m' id' = some (b, z), h, .own u id cs n es ho (by simp) .nil, fun b hb => ⟨hb.1, fun ⟨i, hi, z, hz⟩ => hb.2 ?_⟩, fun b hb => hb⟩
  simp at hi
  subst hi
  obtain ⟨v, hg, _⟩ := ho
  exact ⟨i, _, z, hg, rfl, hz⟩
 ·exact ⟨m', s', [], J2 w I, h, .oth u r h1 h2 .nil, fun b hb => hb.1, fun b hb => ⟨hb, fun ⟨i, hi, _⟩ => by simp at hi⟩⟩

theorem finL_given (h : SRep CM w.heap.size I w' m' s') {us : List Value} {vs rs : List AVal} (hl : us.length = vs.length) (ha : ∀ (j : Nat) u a, us[j]? = some u → vs[j]? = some a → ARep w' (Im w.heap.size I m' s') m' s' u a)
  (hf : (if ownable vs then vs.mapM (fin1 s') else vs.mapM (purA false s')) = some rs) : Given CM w I w' us rs := by
 split at hf
 ·rename_i ho
  simp only [ownable, Bool.and_eq_true] at ho
  obtain ⟨ids, k1, k2⟩ := fin_own h vs us rs hl ha hf (nodupB_spec ho.1) ho.2
  have hhas : ∀ id ∈ refsL vs, ∃ o, get s' id = some o := fun id hid => by
   obtain ⟨j, c, hj, hc⟩ := ARep.has.refsL_mem hid
   obtain ⟨u, hu⟩ := getElem?_of_lt us j (by have := lt_of_some hj; omega)
   exact (ha j u c hu hj).has id hc
  have hmut : ∀ id ∈ ids, ∃ o, get s' id = some o ∧ mutO o = true := (k2 (fun _ => True) (fun _ _ => trivial) (fun _ _ _ _ _ _ => trivial)).mut
  refine ⟨m', s', ids, fun b => (b < w.heap.size → I b) ∧ ¬ ∃ id' ∈ ids, ∃ z, m' id' = some (b, z), h, k2 _ (fun b hb => ⟨hb.1, fun ⟨i, hi, z, hz⟩ => hb.2 ?_⟩) (fun id hid hni b z hm => ?_), fun b hb => ⟨hb.1, fun ⟨i, hi, z, hz⟩ => hb.2 ?_⟩, fun b hb => hb⟩
  ·obtain ⟨o, h1, h2⟩ := hmut i hi; exact ⟨i, o, z, h1, h2, hz⟩
  ·obtain ⟨o, ho'⟩ := hhas id hid
   refine ⟨fun hlt => by have := (h.rng id o b z ho' hm).1; omega, fun ⟨i, hi, z', hz'⟩ => ?_⟩
   obtain ⟨o', h1, _⟩ := hmut i hi
   have := h.inj id i o o' b z z' ho' h1 hm hz'
   subst this
   exact hni hi
  ·obtain ⟨o, h1, h2⟩ := hmut i hi; exact ⟨i, o, z, h1, h2, hz⟩
 ·exact ⟨m', s', [], J2 w I, h, fin_pure h vs us rs hl ha hf, fun b hb => hb.1, fun b hb => ⟨hb, fun ⟨i, hi, _⟩ => by simp at hi⟩⟩
end
end Fw
end

section
/-
  A call in a store of its own: what the caller has afterwards.
-/
namespace Fw
open Go

def FinOk (CM : Nat → Code → ACode → Prop) (w : World) (I : Nat → Prop) (w' : World) (v : Value) (r : AVal) : Prop :=
 Ext w w' ∧ ∃ m' s' a, SRep CM w.heap.size I w' m' s' ∧ ARep w' (Im w.heap.size I m' s') m' s' v a ∧ finR s' a = some r

def Good (CM : Nat → Code → ACode → Prop) (base : Nat) (Im0 : Nat → Prop) (w : World) (m : Mem) (s : Sto) (Q : AVal × Sto → Prop) (v : Value) (w' : World) : Prop :=
 ∃ a s' m', Q (a, s') ∧ SRep CM base Im0 w' m' s' ∧ (∀ lo, Evo lo w m s w' m' s') ∧ ARep w' (Im base Im0 m' s') m' s' v a

section
variable {CM : Nat → Code → ACode → Prop} {base : Nat} {Im0 : Nat → Prop} {w w' : World} {I : Nat → Prop} {m m' : Mem} {s s' : Sto} {Q : AVal × Sto → Prop}

theorem fin1_notup {a r : AVal} (h : fin1 s' a = some r) : ∀ l, r ≠ .tup l := by
 have pur : ∀ a, purA false s' a = some r → ∀ l, r ≠ .tup l := by
  intro a hr l e
  subst e
  cases a <;> simp only [purA] at hr <;> first | (cases hr; done) | (split at hr <;> cases hr)
 unfold fin1 at h
 split at h
 ·split at h
  ·split at h
   ·cases h; intro l e; cases e
   ·exact pur _ h
  ·exact pur _ h
 ·exact pur _ h

theorem given_list (h : SRep CM base Im0 w m s) (hb : base ≤ w.heap.size) (e : Ext w w') (hI : ∀ b, b < w.heap.size → I b → Im base Im0 m s b) {us : List Value} {rs : List AVal} (g : Given CM w I w' us rs) :
  (∀ (j : Nat) u r, us[j]? = some u → rs[j]? = some r → ARep w' (Im base Im0 m s) m s u (disown r)) ∧
  (∀ es ys s2, adoptL es s rs = some (ys, s2) → ∃ m2, SRep CM base Im0 w' m2 s2 ∧ (∀ lo, Evo lo w m s w' m2 s2) ∧ ys.length = us.length ∧ ∀ (j : Nat) u y, us[j]? = some u → ys[j]? = some y → ARep w' (Im base Im0 m2 s2) m2 s2 u y) := by
 obtain ⟨m', s', ids, Jn, h1, h2, h3, h4⟩ := g
 have hown : ∀ b, Own m s b → b < w.heap.size := fun b ⟨i, o, z, h1, _, h3⟩ => (h.rng i o b z h1 h3).2
 refine ⟨fun j u r hu hr => ?_, fun es ys s2 ha => ?_⟩
 ·refine (h2.disown h1 (fun b hj hlt => (h4 b hj).1 hlt) j u r hu hr m s).mono' (fun b o hj ho _ => ⟨⟨fun hlt => (hI b (by omega) (hj (by omega))).1 hlt, fun hw => (hI b (hown b hw) (hj (hown b hw))).2 hw⟩, ho⟩)
   (fun i _ o hg => ⟨o, hg, rfl, rfl, Nat.le_refl _, fun _ => ⟨rfl, rfl⟩⟩)
 ·obtain ⟨m2, k1, k2, k3⟩ := adopt_adds (lowb := w.heap.size) (I' := fun _ => True) h1 (Nat.le_refl _) (fun _ _ => trivial) h3 h2 m s ys s2 ha h.keys
   (fun i j o o' b z z' hi hj hlb hmi hmj => by have := (h.rng i o b z hi hmi).2; omega) (fun i o b z hi hmi hlb => by have := (h.rng i o b z hi hmi).2; omega)
  obtain ⟨r1, r2, r3⟩ := k1.rep h e hb (fun b hj => ⟨fun hlt => hI b hlt ((h4 b hj).1 hlt), (h4 b hj).2⟩)
  exact ⟨m2, r1, r2, k2, fun j u y hu hy => k3 j u y hu hy _ r3⟩

theorem giveR_ok (h : SRep CM base Im0 w m s) (hb : base ≤ w.heap.size) (hI : ∀ b, b < w.heap.size → I b → Im base Im0 m s b) {v : Value} {r : AVal} (hf : FinOk CM w I w' v r) {adopt : Nat} (hq : (giveR adopt r s).All Q) :
  Good CM base Im0 w m s Q v w' := by
 obtain ⟨e, m', s', a, h1, h2, h3⟩ := hf
 unfold giveR at hq
 have one : ∀ r, fin1 s' a = some r → (if adopt = 0 then (T.ret (disownR r, s) : T (AVal × Sto)) else .ofOpt (adoptR adopt r s)).All Q → Good CM base Im0 w m s Q v w' := by
  intro r hr hq
  obtain ⟨g1, g2⟩ := given_list h hb e hI (fin1_given h1 h2 hr)
  have hnt := fin1_notup hr
  split at hq
  ·have : disownR r = disown r := by cases r <;> first | rfl | exact absurd rfl (hnt _)
   rw [this] at hq
   exact ⟨_, _, m, hq, h.ext e, fun lo => e.evo lo m s, g1 0 v r rfl rfl⟩
  ·rw [T.All_ofOpt] at hq
   obtain ⟨⟨y, s2⟩, hx, hq⟩ := hq
   have : adoptR adopt r s = adopt1 adopt r s := by cases r <;> first | rfl | exact absurd rfl (hnt _)
   rw [this] at hx
   obtain ⟨m2, k1, k2, k3, k4⟩ := g2 adopt [y] s2 (by simp [adoptL, hx])
   exact ⟨y, s2, m2, hq, k1, k2, k4 0 v y rfl rfl⟩
 unfold finR at h3
 split at h3
 ·rename_i vs
  cases h2 with
  | tup cs _ hc1 hc2 =>
  simp only [Option.map_eq_some_iff] at h3
  obtain ⟨rs, h3, rfl⟩ := h3
  have hg := finL_given h1 (us := cs.toList) (by simpa using hc1) (fun j u a hu ha => hc2 j u a (by simpa using hu) ha) h3
  obtain ⟨g1, g2⟩ := given_list h hb e hI hg
  obtain ⟨_, _, _, _, _, hol, _⟩ := hg
  have hlen := hol.len
  split at hq
  ·refine ⟨_, _, m, hq, h.ext e, fun lo => e.evo lo m s, ?_⟩
   refine .tup cs _ (by simpa using hlen) (fun j u c hu hc => ?_)
   simp only [List.getElem?_map] at hc
   cases hx : rs[j]? with
   | none => rw [hx] at hc; cases hc
   | some r => rw [hx] at hc; cases hc; exact g1 j u r (by simpa using hu) hx
  ·rw [T.All_ofOpt] at hq
   obtain ⟨⟨y, s2⟩, hx, hq⟩ := hq
   simp only [adoptR] at hx
   split at hx
   ·rename_i x hxx
    cases hx
    obtain ⟨m2, k1, k2, k3, k4⟩ := g2 adopt x.1 x.2 hxx
    exact ⟨_, _, m2, hq, k1, k2, .tup cs _ (by simpa using k3.symm) (fun j u c hu hc => k4 j u c (by simpa using hu) hc)⟩
   ·cases hx
 ·exact one r h3 hq

end
end Fw
end

section
/-
  Calls.
-/
namespace Fw
open Go

def FullG (w : World) (n k : Nat) : Prop := ∃ cur e fr, w.heap[n]? = some (.cells cur e fr) ∧ cur.size = k
def GOk (G : Nat → Option (List PVal)) (w : World) (I : Nat → Prop) : Prop := ∀ n cs, G n = some cs → PRep w I (.pointer (some ⟨n, 0, none⟩)) (.pp cs) ∧ FullG w n cs.length

def RArgs (w : World) (I : Nat → Prop) (m : Mem) (s : Sto) (vs : Array Value) (as : List AVal) : Prop :=
 vs.size = as.length ∧ ∀ (j : Nat) u a, vs[j]? = some u → as[j]? = some a → ARep w I m s u a

def FnOk (P : Program) (f : Nat) (vs : Array Value) (w : World) (R : Value → World → Prop) : Prop :=
 (callFunc f vs).run P w = .ok (.enter f vs) w ∧ Calls P f vs w (fun e w' => ∃ v, e = .returned v ∧ R v w')

def Enters (P : Program) (f : Nat) (vs : Array Value) (w : World) (R : Value → World → Prop) : Prop :=
 FnOk P f vs w R ∨ ∃ v w', (callFunc f vs).run P w = .ok (.value v) w' ∧ R v w'

def RoundOk (P : Program) (b : Nat) (vs : Array Value) (w : World) (R : Value → World → Prop) : Prop :=
 ∃ lf tm x y, (Instr.yield b vs).run P w = .ok (.round b lf tm x y) w ∧ ∀ c cs, ∃ v w', R v w' ∧ Steps P (lone (Frame.round b lf tm x y .normal) (c :: cs) w) (lone (c.finish v) cs w')

def CallOk (CM : Nat → Code → ACode → Prop) (P : Program) (G : Nat → Option (List PVal)) (call : CallF) : Prop :=
 ∀ (t : Tgt) (as : List AVal) (s : Sto) (Q : AVal × Sto → Prop), (call t as s).All Q → ∀ (base : Nat) (Im0 : Nat → Prop) (w : World) (m : Mem) (vs : Array Value),
  SRep CM base Im0 w m s → base ≤ w.heap.size → GOk G w (Im base Im0 m s) → RArgs w (Im base Im0 m s) m s vs as →
  match t with
  | .fn f => FnOk P f vs w (Good CM base Im0 w m s Q)
  | .yld id => ∀ b z, m id = some (b, z) → RoundOk P b vs w (Good CM base Im0 w m s Q)

def COk (CM : Nat → Code → ACode → Prop) (P : Program) (G : Nat → Option (List PVal)) (C : Nat → List AVal → Option (T AVal)) : Prop :=
 ∀ f as t, C f as = some t → ∀ (K : AVal → Prop), t.All K → ∀ (w : World) (I : Nat → Prop) (vs : Array Value), GOk G w I → RArgs w I (fun _ => none) [] vs as → Enters P f vs w (fun v w' => ∃ r, K r ∧ FinOk CM w I w' v r)

def Runs (P : Program) (r : Result Next) (w : World) (R : Value → World → Prop) : Prop :=
 (∃ v w', r = .ok (.value v) w' ∧ R v w') ∨ (∃ w', r = .ok .skip w' ∧ R undef w') ∨
 (∃ f vs, r = .ok (.enter f vs) w ∧ Calls P f vs w (fun e w' => ∃ v, e = .returned v ∧ R v w')) ∨
 (∃ b lf tm x y, r = .ok (.round b lf tm x y) w ∧ ∀ c cs, ∃ v w', R v w' ∧ Steps P (lone (Frame.round b lf tm x y .normal) (c :: cs) w) (lone (c.finish v) cs w'))

section
variable {CM : Nat → Code → ACode → Prop} {base : Nat} {Im0 : Nat → Prop} {w w' : World} {I : Nat → Prop} {m m' : Mem} {s s' : Sto} {P : Program} {ρ : Operand → Value} {ρa : Opd → AVal} {Q : AVal × Sto → Prop}
 {G : Nat → Option (List PVal)} {call : CallF} {C : Nat → List AVal → Option (T AVal)}

theorem FnOk.mono {f : Nat} {vs : Array Value} {R R' : Value → World → Prop} (h : FnOk P f vs w R) (hr : ∀ v w', R v w' → R' v w') : FnOk P f vs w R' :=
 ⟨h.1, Calls.mono h.2 (fun _e w' ⟨v, h1, h2⟩ => ⟨v, h1, hr v w' h2⟩)⟩

theorem Enters.mono {f : Nat} {vs : Array Value} {R R' : Value → World → Prop} (h : Enters P f vs w R) (hr : ∀ v w', R v w' → R' v w') : Enters P f vs w R' := by
 rcases h with h | ⟨v, w', h1, h2⟩
 ·exact .inl (h.mono hr)
 ·exact .inr ⟨v, w', h1, hr v w' h2⟩

theorem RoundOk.mono {b : Nat} {vs : Array Value} {R R' : Value → World → Prop} (h : RoundOk P b vs w R) (hr : ∀ v w', R v w' → R' v w') : RoundOk P b vs w R' := by
 obtain ⟨lf, tm, x, y, h1, h2⟩ := h
 exact ⟨lf, tm, x, y, h1, fun c cs => let ⟨v, w', a, b⟩ := h2 c cs; ⟨v, w', hr v w' a, b⟩⟩

theorem Runs.mono {r : Result Next} {R R' : Value → World → Prop} (h : Runs P r w R) (hr : ∀ v w', R v w' → R' v w') : Runs P r w R' := by
 rcases h with ⟨v, w', h1, h2⟩ | ⟨w', h1, h2⟩ | ⟨f, vs, h1, h2⟩ | ⟨b, lf, tm, x, y, h1, h2⟩
 ·exact .inl ⟨v, w', h1, hr _ _ h2⟩
 ·exact .inr (.inl ⟨w', h1, hr _ _ h2⟩)
 ·exact .inr (.inr (.inl ⟨f, vs, h1, Calls.mono h2 (fun e w' ⟨v, h1, h2⟩ => ⟨v, h1, hr v w' h2⟩)⟩))
 ·exact .inr (.inr (.inr ⟨b, lf, tm, x, y, h1, fun c cs => let ⟨v, w', a, b⟩ := h2 c cs; ⟨v, w', hr v w' a, b⟩⟩))

theorem Enters.runs {f : Nat} {vs : Array Value} {R : Value → World → Prop} (h : Enters P f vs w R) : Runs P ((callFunc f vs).run P w) w R := by
 rcases h with ⟨h1, h2⟩ | ⟨v, w', h1, h2⟩
 ·exact .inr (.inr (.inl ⟨f, vs, h1, h2⟩))
 ·exact .inl ⟨v, w', h1, h2⟩

theorem RArgs.mono {w1 w2 : World} {I1 I2 : Nat → Prop} {m1 m2 : Mem} {s1 s2 : Sto} {vs : Array Value} {as : List AVal} (h : RArgs w1 I1 m1 s1 vs as) (hk : Keeps w1 I1 w2 I2) (ho : KeepsO m1 s1 m2 s2) : RArgs w2 I2 m2 s2 vs as :=
 ⟨h.1, fun j u a hu ha => (h.2 j u a hu ha).mono hk ho⟩

theorem RArgs.append {v1 v2 : Array Value} {a1 a2 : List AVal} (h1 : RArgs w I m s v1 a1) (h2 : RArgs w I m s v2 a2) : RArgs w I m s (v1 ++ v2) (a1 ++ a2) := by
 refine ⟨by simp [h1.1, h2.1], fun j u a hu ha => ?_⟩
 by_cases hj : j < v1.size
 ·rw [Array.getElem?_append_left hj] at hu
  rw [List.getElem?_append_left (by rw [← h1.1]; exact hj)] at ha
  exact h1.2 j u a hu ha
 ·rw [Array.getElem?_append_right (by omega)] at hu
  rw [List.getElem?_append_right (by rw [← h1.1]; omega)] at ha
  exact h2.2 _ u a hu (by rw [h1.1]; exact ha)

theorem GOk.mono {w2 : World} {I2 : Nat → Prop} (h : GOk G w I) (hk : Keeps w I w2 I2) : GOk G w2 I2 := fun n cs hn => by
 obtain ⟨h1, cur, e, fr, hb, hz⟩ := h n cs hn
 refine ⟨h1.mono hk, cur, e, fr, ?_, hz⟩
 cases h1 with
 | pp b off cur' e' fr' cs' hI hb' hl hc => exact (hk _ _ hI hb trivial).2

theorem ARep.anew {v : Value} {a : AVal} (h : ARep w I m s v a) (hp : pureA a = true) (m1 : Mem) (s1 : Sto) : ARep w I m1 s1 v a := by
 cases h with
 | p v p hr => exact .p _ _ hr
 | agg cs l h1 h2 =>
  refine .agg cs l h1 (fun j u c hu hc => ?_)
  have := h2 j u c hu hc
  simp only [pureA, List.all_eq_true] at hp
  have hc' := hp c (List.mem_of_getElem? hc)
  cases c <;> simp only [Bool.false_eq_true] at hc'
  cases this with
  | p _ _ hq => exact .p _ _ hq
 | _ => simp [pureA] at hp

theorem ARep.normC {v : Value} {a : AVal} (h : ARep w I m s v a) : ARep w I m s v (normC a) := by
 cases a with
 | p q => cases h with | p _ _ hq => exact .p _ _ hq.nrm
 | _ => exact h

theorem ARep.normA {v : Value} {a : AVal} (h : ARep w I m s v a) : ARep w I m s v (normA a) := by
 cases a with
 | p q => cases h with | p _ _ hq => exact .p _ _ hq.nrm
 | agg l =>
  cases h with
  | agg cs _ h1 h2 =>
   refine .agg cs _ (by simpa using h1) (fun j u c hu hc => ?_)
   rw [List.getElem?_map] at hc
   cases hx : l[j]? with
   | none => rw [hx] at hc; cases hc
   | some x => rw [hx] at hc; cases hc; exact (h2 j u x hu hx).normC
 | _ => exact h

theorem SRep.empty (w : World) (I : Nat → Prop) : SRep CM w.heap.size I w (fun _ => none) [] :=
 ⟨trivial, (fun i o h => by cases h), (fun i j o o' b z z' h => by cases h), (fun i o b z h => by cases h)⟩

theorem keeps_empty (w : World) (I : Nat → Prop) : Keeps w I w (Im w.heap.size I (fun _ => none) []) :=
 fun b o hi hb _ => ⟨⟨fun _ => hi, fun ⟨i, o, z, h, _⟩ => by cases h⟩, hb⟩

theorem callPure_ok (hcall : CallOk CM P G call) (hC : COk CM P G C) {f : Nat} {as : List AVal} {vs : Array Value} (hg : GOk G w I) (ha : RArgs w I (fun _ => none) [] vs as) {K : AVal → Prop} (hq : (callPure call C (.fn f) as).All K) :
  Enters P f vs w (fun v w' => ∃ r, K r ∧ FinOk CM w I w' v r) := by
 simp only [callPure] at hq
 split at hq
 ·rename_i r hr
  exact hC f as r hr K hq w I vs hg ha
 ·rw [T.All_bind] at hq
  have := hcall (.fn f) as [] _ hq w.heap.size I w (fun _ => none) vs (SRep.empty w I) (Nat.le_refl _) (hg.mono (keeps_empty w I))
   (ha.mono (keeps_empty w I) (KeepsO.refl _ _))
  refine .inl (FnOk.mono this (fun v w' ⟨a, s', m', h1, h2, h3, h4⟩ => ?_))
  simp only [T.All_ofOpt] at h1
  obtain ⟨r, hr, hk⟩ := h1
  have ev := h3 0
  refine ⟨r, hk, ⟨ev.os, ev.tape, ev.output, ev.size, fun b hb => ?_⟩, m', s', a, h2, h4, hr⟩
  obtain ⟨o, ho⟩ := agetElem?_of_lt w.heap b hb
  rw [ho]
  exact ev.keep b o ho (fun ⟨i, o, z, h, _⟩ => by cases h)

def mCee : Operand → Cee → Bool
 | .func f, .fn g => f == g
 | x, .val y => mOpd x y
 | _, _ => false

def mCall (o : Op) (c : Cee) (args : List Opd) : Bool := match o with
 | .call cl => (match cl.callee with | .value f => mCee f c && mOpds cl.args.toList args | _ => false)
 | _ => false

theorem callee_ok {x : Operand} {c : Cee} (hm : mCee x c = true) (hρ : OpdOk w (Im base Im0 m s) m s ρ ρa) (hρf : ∀ f, ρ (.func f) = .func (.func f) #[] #[]) {t : Tgt} {first caps : List AVal} (hc : callee ρa c = some (t, first, caps)) :
  ∃ fn fs cs, ρ x = .func fn fs cs ∧ RArgs w (Im base Im0 m s) m s fs first ∧ RArgs w (Im base Im0 m s) m s cs caps ∧
   (match t with | .fn g => fn = .func g | .yld id => ∃ b z, fn = .yield b ∧ m id = some (b, z) ∧ fs = #[] ∧ cs = #[] ∧ first = [] ∧ caps = []) := by
 have nil : RArgs w (Im base Im0 m s) m s #[] [] := ⟨rfl, fun j u a hu => by simp at hu⟩
 cases c with
 | fn g =>
  cases x <;> simp only [mCee, Bool.false_eq_true, beq_iff_eq] at hm
  subst hm
  simp only [callee, Option.some.injEq, Prod.mk.injEq] at hc
  obtain ⟨rfl, rfl, rfl⟩ := hc
  exact ⟨_, _, _, hρf _, nil, nil, rfl⟩
 | val y =>
  have hm' : mOpd x y = true := by cases x <;> exact hm
  have ha := hρ x y hm'
  simp only [callee] at hc
  split at hc
  ·rename_i f a b he
   rw [he] at ha
   simp only [Option.some.injEq, Prod.mk.injEq] at hc
   obtain ⟨rfl, rfl, rfl⟩ := hc
   generalize ρ x = v at ha
   cases ha with
   | p _ _ hp =>
    cases hp with
    | clo _ _ _ _ _ h1 h2 h3 h4 =>
     refine ⟨_, _, _, rfl, ⟨by simpa using h1, fun j u a' hu ha => ?_⟩, ⟨by simpa using h2, fun j u a' hu ha => ?_⟩, rfl⟩
     ·rw [List.getElem?_map] at ha
      cases hy : a[j]? with
      | none => rw [hy] at ha; cases ha
      | some q => rw [hy] at ha; cases ha; exact .p _ _ (h3 j u q hu hy)
     ·rw [List.getElem?_map] at ha
      cases hy : b[j]? with
      | none => rw [hy] at ha; cases ha
      | some q => rw [hy] at ha; cases ha; exact .p _ _ (h4 j u q hu hy)
  ·rename_i f a b he
   rw [he] at ha
   simp only [Option.some.injEq, Prod.mk.injEq] at hc
   obtain ⟨rfl, rfl, rfl⟩ := hc
   generalize ρ x = v at ha
   cases ha with
   | clo _ _ _ _ _ h1 h2 h3 h4 => exact ⟨_, _, _, rfl, ⟨h1, h3⟩, ⟨h2, h4⟩, rfl⟩
  ·rename_i id he
   rw [he] at ha
   simp only [Option.some.injEq, Prod.mk.injEq] at hc
   obtain ⟨rfl, rfl, rfl⟩ := hc
   generalize ρ x = v at ha
   cases ha with
   | yld _ b z o h1 h2 h3 h4 => exact ⟨_, _, _, rfl, nil, nil, b, z, rfl, h4, rfl, rfl, rfl, rfl⟩
  ·cases hc

theorem scalarP_rep {v : Value} {p : PVal} (h : PRep w I v p) (hs : scalarP p = true) (I2 : Nat → Prop) : PRep w I2 v p := by
 cases h <;> first | (simp [scalarP] at hs; done) | constructor

theorem scalarA_rep {v : Value} {a : AVal} (h : ARep w I m s v a) (hs : scalarA a = true) (I2 : Nat → Prop) (m2 : Mem) (s2 : Sto) : ARep w I2 m2 s2 v a := by
 cases a with
 | p q => cases h with | p _ _ hq => exact .p _ _ (scalarP_rep hq hs I2)
 | agg l =>
  cases h with
  | agg cs _ h1 h2 =>
   refine .agg cs _ h1 (fun j u c hu hc => ?_)
   simp only [scalarA, List.all_eq_true] at hs
   have hc' := hs c (List.mem_of_getElem? hc)
   cases c <;> simp only [scalarC, Bool.false_eq_true] at hc'
   cases h2 j u _ hu hc with | p _ _ hq => exact .p _ _ (scalarP_rep hq hc' I2)
 | _ => simp [scalarA] at hs

theorem scalarR_rep {v : Value} {a : AVal} (h : ARep w I m s v a) (hs : scalarR a = true) (I2 : Nat → Prop) (m2 : Mem) (s2 : Sto) : ARep w I2 m2 s2 v a := by
 cases a with
 | tup l =>
  cases h with
  | tup cs _ h1 h2 =>
   simp only [scalarR, List.all_eq_true] at hs
   exact .tup cs _ h1 (fun j u c hu hc => scalarA_rep (h2 j u c hu hc) (hs c (List.mem_of_getElem? hc)) I2 m2 s2)
 | _ => exact scalarA_rep h hs I2 m2 s2

theorem OwnV.dataS {I : Nat → Prop} {w w' : World} {m' : Mem} {s' : Sto} (h : SRep CM w.heap.size I w' m' s') {id : Nat} {u : Value} {cs : List PVal} {n es : Nat} (ho : OwnV w' (Im w.heap.size I m' s') m' s' id u cs n es) (hs : ∀ c ∈ cs, scalarP c = true) {J : Nat → Prop} (hJ : ∀ b, w.heap.size ≤ b → J b) : PRep w' J u (.sl cs n) := by
 obtain ⟨v, hg, hl, hes, hsl⟩ := ho
 have hcut : cut cs 0 n es = .sl cs n := by simp [cut, hl]
 rcases h.obj id _ hg with ⟨e1, rfl⟩ | ⟨b, z, cur, e, fr, h1, h2, h3, h4, h5, h6⟩
 ·rcases hsl with ⟨rfl, a0, rfl⟩ | ⟨b, z, cap, hm, _⟩
  ·exact .sl0 ..
  ·rw [e1] at hm; cases hm
 ·rw [h1] at hsl
  have := cut_rep (J := J) h2 (hJ b (h.rng id _ b z hg h1).1) h4 h5 (fun j u c hu hc => scalarP_rep (h6 j u c hu hc) (hs c (List.mem_of_getElem? hc)) _) (by omega) hsl
  rwa [hcut] at this

theorem FinOk.ownS {I : Nat → Prop} {w w' : World} {v : Value} {cs : List PVal} {n es : Nat} (hf : FinOk CM w I w' v (.own cs n es)) (hs : ∀ c ∈ cs, scalarP c = true) {J : Nat → Prop} (hJ : ∀ b, w.heap.size ≤ b → J b) : PRep w' J v (.sl cs n) := by
 obtain ⟨e, m', s', a, h1, h2, h3⟩ := hf
 have h3' : fin1 s' a = some (.own cs n es) := by
  unfold finR at h3
  split at h3
  ·simp only [Option.map_eq_some_iff] at h3
   obtain ⟨x, _, hx⟩ := h3
   cases hx
  ·exact h3
 rcases fin1_spec h1 h2 h3' with ⟨id, ver, cs', n', es', _, e2, ho⟩ | ⟨k1, _⟩
 ·cases e2
  exact ho.dataS h1 hs hJ
 ·exact absurd rfl (k1 _ _ _)

theorem scalar_disown {a : AVal} (hs : scalarR a = true) : disownR a = a := by
 cases a with
 | tup l =>
  simp only [scalarR, List.all_eq_true] at hs
  simp only [disownR, AVal.tup.injEq]
  have : ∀ x ∈ l, disown x = x := fun x hx => by
   have := hs x hx
   cases x <;> first | rfl | (simp [scalarA] at this)
  rw [List.map_congr_left this, List.map_id']
 | own => simp [scalarR, scalarA] at hs
 | _ => rfl

theorem callOp_ok (hcall : CallOk CM P G call) (hC : COk CM P G C) {o : Oper} {snap scal : Bool} {adopt : Nat} {c : Cee} {args : List Opd} (hm : mCall o.op c args = true) (h : SRep CM base Im0 w m s) (hb : base ≤ w.heap.size)
  (hg : GOk G w (Im base Im0 m s)) (hρ : OpdOk w (Im base Im0 m s) m s ρ ρa) (hρf : ∀ f, ρ (.func f) = .func (.func f) #[] #[]) (hq : (callOp call C ρa s snap scal adopt c args).All Q) :
  Runs P ((execOp ρ o).run P w) w (Good CM base Im0 w m s Q) := by
 unfold mCall at hm
 split at hm
 ·rename_i cl hop
  split at hm
  ·rename_i x hcl
   simp only [Bool.and_eq_true] at hm
   obtain ⟨h1, h2⟩ := hm
   unfold callOp at hq
   split at hq
   ·exact hq.elim
   ·rename_i t first caps hcal
    obtain ⟨fn, fs, cs, e1, e2, e3, e4⟩ := callee_ok h1 hρ hρf hcal
    obtain ⟨l1, l2⟩ := mOpds_spec h2 hρ
    have hargs : RArgs w (Im base Im0 m s) m s (cl.args.map ρ) (args.map ρa) := ⟨by simpa using l1, fun j u a hu ha => l2 j u a (by simpa using hu) ha⟩
    have hall := (e2.append hargs).append e3
    simp only at hq
    generalize has : first ++ args.map ρa ++ caps = as at hq hall
    have hrun : (execOp ρ o).run P w = (invoke (.fn fn cs) (fs ++ cl.args.map ρ)).run P w := by
     simp [execOp, hop, resolve, hcl, Deferred.ofValue, e1]
    rw [hrun]
    cases t with
    | fn g =>
     subst e4
     have hinv : (invoke (.fn (.func g) cs) (fs ++ cl.args.map ρ)).run P w = (callFunc g (fs ++ cl.args.map ρ ++ cs)).run P w := rfl
     rw [hinv]
     refine Enters.runs ?_
     by_cases h1000 : adopt = 1000
     ·rw [if_pos h1000, T.All_bind] at hq
      have := hcall (.fn g) as s _ hq base Im0 w m _ h hb hg hall
      exact .inl (FnOk.mono this (fun v w' hgood => gcGood h.keys hgood))
     rw [if_neg h1000] at hq
     simp only [Bool.and_true] at hq
     by_cases hp : as.all pureA = true
     ·rw [if_pos hp] at hq
      simp only [List.all_eq_true] at hp
      rw [T.All_bind] at hq
      have hpa : RArgs w (Im base Im0 m s) (fun _ => none) [] (fs ++ cl.args.map ρ ++ cs) (rawA adopt as) := by
       unfold rawA
       split
       ·exact ⟨hall.1, fun j u a hu ha => (hall.2 j u a hu ha).anew (hp a (List.mem_of_getElem? ha)) _ _⟩
       refine ⟨by simp only [List.length_map]; exact hall.1, fun j u a hu ha => ?_⟩
       rw [List.getElem?_map] at ha
       cases hx : as[j]? with
       | none => rw [hx] at ha; cases ha
       | some q =>
        rw [hx] at ha; cases ha
        exact ((hall.2 j u q hu hx).anew (hp q (List.mem_of_getElem? hx)) _ _).normA
      exact (callPure_ok hcall hC hg hpa hq).mono (fun v w' ⟨r, hr, hf⟩ => giveR_ok h hb (fun b _ hb => hb) hf hr)
     ·rw [if_neg hp] at hq
      split at hq
      ·split at hq
       ·split at hq
        ·exact hq.elim
        ·rename_i as' has'
         rw [T.All_bind] at hq
         obtain ⟨ml, me⟩ := mapM_spec has'
         have hpa : RArgs w (fun _ => True) (fun _ => none) [] (fs ++ cl.args.map ρ ++ cs) as' := by
          refine ⟨by rw [ml]; exact hall.1, fun j u a hu ha => ?_⟩
          obtain ⟨q, hx⟩ := getElem?_of_lt as j (by have := lt_of_some ha; omega)
          exact purA_rep h false (fun _ => True) (fun _ _ => trivial) (fun _ _ _ => trivial) _ _ (hall.2 j u q hu hx) (me j q a hx ha)
         refine (callPure_ok hcall hC (hg.mono (fun b o _ hb _ => ⟨trivial, hb⟩)) hpa hq).mono (fun v w' ⟨r, hr, hf⟩ => ?_)
         have hsn : ∃ a, snapR r = some a ∧ Q (a, s) := by
          split at hr
          ·rename_i a ha; exact ⟨a, ha, hr⟩
          ·exact hr.elim
         obtain ⟨a0, ha0, hr⟩ := hsn
         unfold snapR at ha0
         split at ha0
         ·rename_i hsc
          cases ha0
          have e := hf.1
          obtain ⟨a, s2, m2, q1, _, _, q4⟩ := giveR_ok (Q := fun x => x.1 = r) (adopt := 0) (SRep.empty w (fun _ => True)) (Nat.le_refl _) (fun b _ _ => (⟨fun _ => trivial, fun ⟨i, o, z, h, _⟩ => by cases h⟩)) hf
           (by simp only [giveR, if_true]; exact scalar_disown hsc)
          simp only at q1
          subst q1
          exact ⟨a, s, m, hr, h.ext e, fun lo => e.evo lo m s, scalarR_rep q4 hsc _ _ _⟩
         ·split at ha0
          ·rename_i cs n es
           split at ha0
           ·rename_i hall
            cases ha0
            have e := hf.1
            refine ⟨_, s, m, hr, h.ext e, fun lo => e.evo lo m s, .p _ _ (hf.ownS (fun c hc => List.all_eq_true.1 hall c hc) (fun b hb' => ⟨fun hlt => absurd hlt (by omega), fun ⟨i, o, z, g1, _, g3⟩ => ?_⟩))⟩
            have := (h.rng i o b z g1 g3).2
            omega
           ·cases ha0
          ·cases ha0
       ·obtain ⟨hs1, ev1⟩ := froze_rep h as
        split at hq
        ·exact hq.elim
        ·rename_i as' has'
         rw [T.All_bind] at hq
         obtain ⟨ml, me⟩ := mapM_spec has'
         have hkeepO : KeepsO m s m (froze s as) := fun i o hg => (ev1 (i + 1)).obj i (by omega) o hg
         have hpa : RArgs w (Im base Im0 m (froze s as)) (fun _ => none) [] (fs ++ cl.args.map ρ ++ cs) as' := by
          refine ⟨by rw [ml]; exact hall.1, fun j u a hu ha => ?_⟩
          obtain ⟨q, hx⟩ := getElem?_of_lt as j (by have := lt_of_some ha; omega)
          exact purA_rep hs1 true _ (fun _ hb => hb) (fun hf => by cases hf) _ _ ((hall.2 j u q hu hx).mono (ev1 0).keeps hkeepO) (me j q a hx ha)
         refine (callPure_ok hcall hC (hg.mono (ev1 0).keeps) hpa hq).mono (fun v w' ⟨r, hr, hf⟩ => ?_)
         obtain ⟨a, s2, m2, q1, q2, q3, q4⟩ := giveR_ok hs1 hb (fun b _ hb => hb) hf hr
         exact ⟨a, s2, m2, q1, q2, fun lo => (ev1 lo).trans (q3 lo), q4⟩
      ·rw [T.All_bind] at hq
       have := hcall (.fn g) as s _ hq base Im0 w m _ h hb hg hall
       exact .inl (FnOk.mono this (fun v w' hgood => gcGood h.keys hgood))
    | yld id =>
     obtain ⟨b, z, rfl, hmid, rfl, rfl, rfl, rfl⟩ := e4
     have hinv : (invoke (.fn (.yield b) #[]) (#[] ++ cl.args.map ρ)).run P w = (Instr.yield b (cl.args.map ρ)).run P w := by
      simp [invoke]
     rw [hinv]
     have hyl : RArgs w (Im base Im0 m s) m s (cl.args.map ρ) as := by
      rw [← has]; simpa using hargs
     simp only [Bool.and_false, Bool.false_eq_true, if_false] at hq
     by_cases h1000 : adopt = 1000
     ·rw [if_pos h1000, T.All_bind] at hq
      have := hcall (.yld id) as s _ hq base Im0 w m _ h hb hg hyl b z hmid
      obtain ⟨lf, tm, x, y, k1, k2⟩ := this
      exact .inr (.inr (.inr ⟨b, lf, tm, x, y, k1, fun c cs => let ⟨v, w', a, b⟩ := k2 c cs; ⟨v, w', gcGood h.keys a, b⟩⟩))
     rw [if_neg h1000] at hq
     ·split at hq
      ·split at hq
       ·split at hq
        ·exact hq.elim
        ·exact hq.elim
       ·split at hq
        ·exact hq.elim
        ·exact hq.elim
      ·rw [T.All_bind] at hq
       have := hcall (.yld id) as s _ hq base Im0 w m _ h hb hg hyl b z hmid
       obtain ⟨lf, tm, x, y, k1, k2⟩ := this
       exact .inr (.inr (.inr ⟨b, lf, tm, x, y, k1, fun c cs => let ⟨v, w', a, b⟩ := k2 c cs; ⟨v, w', gcGood h.keys a, b⟩⟩))
  ·cases hm
 ·cases hm
  where
 gcGood (hk : keysDesc s) {v : Value} {w' : World} (hg : Good CM base Im0 w m s (fun a => (T.ret (a.1, gc (nextId s) [(0, a.1)] a.2)).All Q) v w') : Good CM base Im0 w m s Q v w' := by
  obtain ⟨a, s', m', q1, q2, q3, q4⟩ := hg
  obtain ⟨g1, g2, _⟩ := gc_rep q2 (nextId s) [(0, a)]
  have he : EnvRep w' (Im base Im0 m' s') m' s' #[v] [(0, a)] := fun t => by
   cases t with
   | zero => simpa [look] using q4
   | succ t => simp [look]; exact .any _
  have := gc_env q2 (nextId s) [(0, a)] he 0
  simp [look] at this
  refine ⟨a, _, m', q1, g1, fun lo => ?_, this⟩
  exact ((q3 (nextId s)).trans g2).mono (fun i o _ hg => get_lt hk hg)

end
end Fw
end

section
/-
  Operations whose order Go leaves open: when may one be run ahead of another?
-/
namespace Fw
open Go

namespace T
variable {α β : Type}
theorem All_forall {n : Nat} (hn : 0 < n) {v : T β} {F : Nat → β → Prop} (h : ∀ i, i < n → v.All (F i)) : v.All (fun b => ∀ i, i < n → F i b) := by
 induction v with
 | ret b => exact fun i hi => h i hi
 | fail => exact h 0 hn
 | pick m k ih => exact ⟨(h 0 hn).1, fun j hj => ih j (fun i hi => (h i hi).2 j hj)⟩
theorem All_comm {u : T α} {v : T β} {R : α → β → Prop} (h : u.All (fun a => v.All (R a))) : v.All (fun b => u.All (fun a => R a b)) := by
 induction u with
 | ret a => exact h
 | fail => exact h.elim
 | pick n k ih => exact All_mono (All_forall h.1 (fun i hi => ih i (h.2 i hi))) (fun b hb => ⟨h.1, fun i hi => hb i hi⟩)
theorem bind_ret (t : T α) : t.bind .ret = t := by
 induction t with
 | ret a => rfl
 | fail => rfl
 | pick n k ih => simp only [bind, ih]
theorem bind_assoc {γ : Type} (t : T α) (f : α → T β) (g : β → T γ) : (t.bind f).bind g = t.bind fun a => (f a).bind g := by
 induction t with
 | ret a => rfl
 | fail => rfl
 | pick n k ih => simp only [bind, ih]
end T

def Sub (s s' : Sto) : Prop := ∀ i o, get s i = some o → get s' i = some o

theorem Sub.refl (s : Sto) : Sub s s := fun _ _ h => h
theorem Sub.trans {a b c : Sto} (h : Sub a b) (k : Sub b c) : Sub a c := fun i o x => k i o (h i o x)

def Quiet (t : T (AVal × Sto)) (s : Sto) : Prop := ∃ u : T AVal, t = u.bind fun a => .ret (a, s)

theorem Quiet.some1 (v : AVal) (s : Sto) : Quiet (some1 v s) s := ⟨.ret v, rfl⟩
theorem Quiet.fail (s : Sto) : Quiet .fail s := ⟨.fail, rfl⟩
theorem Quiet.opt1 (v : Option AVal) (s : Sto) : Quiet (opt1 v s) s := by
 cases v with
 | none => exact .fail s
 | some v => exact .some1 v s
theorem Quiet.pick2 (f : Nat → AVal) (n : Nat) (s : Sto) : Quiet (.pick n fun i => Fw.some1 (f i) s) s := ⟨.pick n fun i => .ret (f i), rfl⟩

theorem Quiet.optN (v : Option AVal) (nk : Option FloatKind) (s : Sto) : Quiet (optN v nk s) s := by
 cases v with
 | some v => exact .some1 v s
 | none => cases nk with
  | none => exact .fail s
  | some k => exact .pick2 _ _ s

theorem Quiet.q {t : T (AVal × Sto)} {s : Sto} (h : Quiet t s) : t = (t.bind fun x => .ret x.1).bind fun a => .ret (a, s) := by
 obtain ⟨u, rfl⟩ := h
 simp only [T.bind_assoc, T.bind]

theorem isR_quiet (ρ : Opd → AVal) (s : Sto) {op : AOp} (h : isR op = true) : Quiet (opFn ρ s op) s := by
 cases op <;> simp only [isR, isP, Bool.false_eq_true] at h <;> simp only [opFn]
 all_goals repeat' (first | exact Quiet.some1 _ _ | exact Quiet.opt1 _ _ | exact Quiet.optN _ _ _ | exact Quiet.fail _ | exact Quiet.pick2 _ _ _ | split)
 all_goals simp_all

theorem qOp_sound {call : CallF} {C : Nat → List AVal → Option (T AVal)} {ρ : Opd → AVal} {s : Sto} {op : AOp} {K : AVal → Prop} (h : (qOp call C ρ s op).All K) : (evOp call C ρ s op).All (fun x => K x.1 ∧ x.2 = s) := by
 unfold qOp at h
 split at h
 ·rename_i snap scal adopt c args
  split at h
  ·rename_i ha
   subst ha
   unfold qCall at h
   simp only [evOp, callOp]
   split at h
   ·rename_i f first caps hc
    simp only [hc, Bool.and_true, show ¬((0 : Nat) = 1000) by decide, if_false]
    simp only at h
    by_cases hp : (first ++ args.map ρ ++ caps).all pureA = true
    ·rw [if_pos hp, T.All_bind]
     rw [if_pos hp, T.All_bind] at h
     exact T.All_mono h (fun r hr => by simp only [adoptN, giveR]; exact ⟨hr, rfl⟩)
    ·rw [if_neg hp]
     rw [if_neg hp] at h
     split at h
     ·rename_i hs
      simp only [Bool.and_eq_true] at hs
      rw [if_pos hs.1, if_pos hs.2]
      split at h
      ·exact h.elim
      ·rename_i as' has'

       rw [T.All_bind]
       rw [T.All_bind] at h
       refine T.All_mono h (fun r hr => ?_)
       split at hr
       ·rename_i a hsc; exact ⟨hr, rfl⟩
       ·exact hr.elim
     ·exact h.elim
   ·exact h.elim
  ·exact h.elim
 ·rename_i es zero n parts
  simp only [evOp, opFn]
  split at h
  ·rename_i cs hcs
   split at h
   ·rename_i ps hps
    simp only [Bool.false_eq_true, if_false]
    exact ⟨h, rfl⟩
   ·exact h.elim
  ·exact h.elim
 ·split at h
  ·rename_i hr
   have hq := (isR_quiet ρ s hr).q
   have : evOp call C ρ s op = opFn ρ s op := by
    cases op <;> first | rfl | simp [isR, isP] at hr
   rw [this, hq, T.All_bind]
   exact T.All_mono h (fun a ha => ⟨ha, rfl⟩)
  ·exact h.elim

theorem fresh_spec {s : Sto} (h : fresh s = true) : get s (nextId s) = none ∧ get s (nextId s + 1) = none := by
 simp only [fresh, Bool.and_eq_true, Option.isNone_iff_eq_none] at h; exact h

theorem sub_new {s : Sto} (h : get s (nextId s) = none) (o : Obj) : Sub s ((nextId s, o) :: s) := fun i p hp => by
 rw [get_new]; split
 ·rename_i e; subst e; rw [h] at hp; cases hp
 ·exact hp

theorem newO_sub {s : Sto} (h : get s (nextId s) = none) (o : Obj) (v : Nat → AVal) {Q : AVal × Sto → Prop} (hq : (newO s o v).All Q) : (newO s o v).All (fun x => Q x ∧ Sub s x.2) := ⟨hq, sub_new h o⟩

def isRes : AOp → Bool
 | .allocr .. => true
 | .mkslicer .. => true
 | .bslicer .. => true
 | .callr .. => true
 | .callq .. => true
 | _ => false

theorem get_ins {s : Sto} {i : Nat} (h : get s i = none) (o : Obj) (j : Nat) : get (ins s i o) j = if i = j then some o else get s j := by
 induction s with
 | nil => rfl
 | cons x r ih =>
  obtain ⟨k, p⟩ := x
  simp only [get] at h
  split at h
  ·cases h
  ·rename_i hk
   simp only [ins]
   split
   ·rfl
   ·simp only [get, ih h]
    by_cases e : k = j
    ·subst e
     have hn : ¬ i = k := fun e => hk e.symm
     simp [hn]
    ·rw [if_neg e, if_neg e]

theorem ins_sub {s : Sto} {i : Nat} (h : get s i = none) (o : Obj) : Sub s (ins s i o) := fun j p hp => by
 rw [get_ins h]
 split
 ·rename_i e; subst e; rw [h] at hp; cases hp
 ·exact hp

theorem ins_comm {a b : Nat} (hab : a ≠ b) (o p : Obj) : ∀ s, ins (ins s a o) b p = ins (ins s b p) a o := by
 intro s
 induction s with
 | nil =>
  simp only [ins]
  by_cases h : a < b
  ·rw [if_pos h, if_neg (by omega)]
  ·rw [if_neg h, if_pos (by omega)]
 | cons x r ih =>
  obtain ⟨k, q⟩ := x
  by_cases h1 : k < a <;> by_cases h2 : k < b
  ·simp only [ins, if_pos h1, if_pos h2]
   by_cases h : a < b
   ·rw [if_pos h, if_neg (by omega)]
   ·rw [if_neg h, if_pos (by omega)]
  ·simp only [ins, if_pos h1, if_neg h2]
   rw [if_neg (by omega)]
  ·simp only [ins, if_neg h1, if_pos h2]
   rw [if_neg (by omega)]
  ·simp only [ins, if_neg h1, if_neg h2, ih]

theorem rOp_spec {id : Nat} {s : Sto} {isArr : Bool} {es : Nat} {zero : List AVal} {Q : AVal × Sto → Prop} (h : (rOp id s isArr es zero).All Q) : ∃ o, get s id = none ∧ Q (.ptr id 0 0, ins s id o) ∧
  (∀ s', get s' id = none → rOp id s' isArr es zero = .ret (.ptr id 0 0, ins s' id o)) := by
 unfold rOp at h
 split at h
 ·rename_i hg
  have hg' : get s id = none := by simpa using hg
  split at h
  ·rename_i ha
   split at h
   ·rename_i ps hps
    exact ⟨_, hg', h, fun s' h' => by simp only [rOp, h', Option.isNone_none, if_true, if_pos ha, hps]⟩
   ·exact h.elim
  ·rename_i ha
   exact ⟨_, hg', h, fun s' h' => by simp only [rOp, h', Option.isNone_none, if_true, if_neg ha]⟩
 ·exact h.elim

theorem mOpr_spec {id : Nat} {s : Sto} {es : Nat} {zero : List AVal} {l c : AVal} {Q : AVal × Sto → Prop} (h : (mOpr id s es zero l c).All Q) : ∃ r o, get s id = none ∧ Q (r, ins s id o) ∧
  (∀ s', get s' id = none → mOpr id s' es zero l c = .ret (r, ins s' id o)) := by
 unfold mOpr at h
 split at h
 ·rename_i l c hl hc
  split at h
  ·rename_i hg
   have hg' : get s id = none := by simpa using hg.1
   split at h
   ·rename_i z hz
    exact ⟨_, _, hg', h, fun s' h' => by simp only [mOpr, hl, hc, h', Option.isNone_none, true_and, if_pos hg.2, hz]⟩
   ·exact h.elim
  ·exact h.elim
 ·exact h.elim

def rid : AOp → Option Nat
 | .allocr j .. => some j
 | .mkslicer j .. => some j
 | .bslicer j .. => some j
 | .callr j .. => some j
 | _ => none
theorem bOpr_spec {id : Nat} {ρ : Opd → AVal} {s : Sto} {es : Nat} {zero : List AVal} {n : Nat} {parts : List (Nat × Opd)} {Q : AVal × Sto → Prop} (h : (bOpr id ρ s es zero n parts).All Q) : ∃ r o, get s id = none ∧ Q (r, ins s id o) ∧
  (∀ s', get s' id = none → bOpr id ρ s' es zero n parts = .ret (r, ins s' id o)) := by
 unfold bOpr at h
 split at h
 ·rename_i hg
  have hg' : get s id = none := by simpa using hg
  split at h
  ·rename_i cs hcs
   split at h
   ·rename_i ps hps
    exact ⟨_, _, hg', h, fun s' h' => by simp only [bOpr, h', Option.isNone_none, if_true, hcs, hps]⟩
   ·exact h.elim
  ·exact h.elim
 ·exact h.elim

theorem cOpr_eq {call : CallF} {C : Nat → List AVal → Option (T AVal)} {id : Nat} {ρ : Opd → AVal} {s : Sto} {es f : Nat} {args : List Opd} (h : get s id = none) (hp : (args.map ρ).all pureA = true) :
  cOpr call C id ρ s es f args = ((callPure call C (.fn f) ((args.map ρ).map normA)).bind (rowR es)).bind fun x => .ret (.sl id 0 0 x.1, ins s id x.2) := by
 unfold cOpr
 rw [if_pos ⟨by simp [h], hp⟩]

theorem T.All_false {α : Type} {t : T α} (h : t.All (fun _ => False)) : False := by
 induction t with
 | ret a => exact h
 | fail => exact h
 | pick n k ih => exact ih 0 (h.2 0 h.1)

theorem res_spec {call : CallF} {C : Nat → List AVal → Option (T AVal)} {rb : Nat} {ρ : Opd → AVal} {op : AOp} {j : Nat} (hr : rid op = some j) : ∃ t : T (AVal × Obj),
  (∀ s, get s (rb + j) = none → ∀ Q, (aOpC call C rb ρ s op).All Q ↔ t.All fun x => Q (x.1, ins s (rb + j) x.2)) ∧ (∀ s Q, (aOpC call C rb ρ s op).All Q → get s (rb + j) = none) := by
 have det : (∀ s Q, (aOpC call C rb ρ s op).All Q → ∃ r o, get s (rb + j) = none ∧ Q (r, ins s (rb + j) o) ∧ (∀ s', get s' (rb + j) = none → aOpC call C rb ρ s' op = .ret (r, ins s' (rb + j) o))) →
   ∃ t : T (AVal × Obj), (∀ s, get s (rb + j) = none → ∀ Q, (aOpC call C rb ρ s op).All Q ↔ t.All fun x => Q (x.1, ins s (rb + j) x.2)) ∧ (∀ s Q, (aOpC call C rb ρ s op).All Q → get s (rb + j) = none) := by
  intro H
  by_cases he : ∃ r o, ∀ s', get s' (rb + j) = none → aOpC call C rb ρ s' op = .ret (r, ins s' (rb + j) o)
  ·obtain ⟨r, o, he⟩ := he
   exact ⟨.ret (r, o), fun s hs Q => by rw [he s hs]; exact Iff.rfl, fun s Q h => by obtain ⟨_, _, g, _⟩ := H s Q h; exact g⟩
  ·refine ⟨.fail, fun s hs Q => ⟨fun h => ?_, fun h => h.elim⟩, fun s Q h => by obtain ⟨_, _, g, _⟩ := H s Q h; exact g⟩
   obtain ⟨r, o, _, _, g⟩ := H s Q h
   exact (he ⟨r, o, g⟩).elim
 cases op <;> simp only [rid, Option.some.injEq, reduceCtorEq] at hr
 ·subst hr
  exact det (fun s Q h => by obtain ⟨o, g1, g2, g3⟩ := rOp_spec h; exact ⟨_, o, g1, g2, g3⟩)
 ·subst hr
  exact det (fun s Q h => bOpr_spec h)
 ·subst hr
  rename_i j es f args
  refine ⟨if (args.map ρ).all pureA = true then ((callPure call C (.fn f) ((args.map ρ).map normA)).bind (rowR es)).bind fun x => .ret (.sl (rb + j) 0 0 x.1, x.2) else .fail, fun s hs Q => ?_, fun s Q h => ?_⟩
  ·by_cases hp : (args.map ρ).all pureA = true
   ·rw [if_pos hp]
    show (cOpr call C (rb + j) ρ s es f args).All Q ↔ _
    rw [cOpr_eq hs hp]
    simp only [T.All_bind, T.All]
   ·rw [if_neg hp]
    show (cOpr call C (rb + j) ρ s es f args).All Q ↔ _
    unfold cOpr
    rw [if_neg (fun h => hp h.2)]
    exact ⟨fun h => h.elim, fun h => h.elim⟩
  ·have h : (cOpr call C (rb + j) ρ s es f args).All Q := h
   unfold cOpr at h
   split at h
   ·rename_i hc; simpa using hc.1
   ·exact h.elim
 ·subst hr
  exact det (fun s Q h => mOpr_spec h)

theorem aOp0_sound {call : CallF} {C : Nat → List AVal → Option (T AVal)} {ρ : Opd → AVal} {s : Sto} {op : AOp} {Q : AVal × Sto → Prop} (h : (aOp0 ρ s op).All Q) : (evOp call C ρ s op).All Q := by
 unfold aOp0 at h
 split at h
 ·split at h <;> first | exact h | skip
  ·rename_i es zero n parts
   simp only [evOp, opFn]
   split at h
   ·rename_i cs hcs
    split at h
    ·rename_i ps hps
     simp only [if_true]
     exact h
    ·exact h.elim
   ·exact h.elim
  ·exact h.elim
 ·exact h.elim

theorem aOp0_sub {ρ : Opd → AVal} {s : Sto} {op : AOp} {Q : AVal × Sto → Prop} (h : (aOp0 ρ s op).All Q) : (aOp0 ρ s op).All (fun x => Q x ∧ Sub s x.2) := by
 unfold aOp0 at h ⊢
 split
 ·rename_i hf
  rw [if_pos hf] at h
  obtain ⟨h0, h1⟩ := fresh_spec hf
  split <;> simp only at h
  ·simp only [opFn] at h ⊢
   split
   ·rename_i ha
    rw [if_pos ha] at h
    split
    ·rename_i ps hps; simp only [hps] at h; exact newO_sub h0 _ _ h
    ·rename_i hps; simp only [hps] at h; exact h.elim
   ·rename_i ha
    rw [if_neg ha] at h
    exact newO_sub h0 _ _ h
  ·simp only [opFn] at h ⊢
   split
   ·rename_i hps; simp only [hps] at h; exact h.elim
   ·rename_i cs hps
    simp only [hps] at h
    split
    ·rename_i ha
     rw [if_pos ha] at h
     split
     ·rename_i ps hps'; simp only [hps'] at h; exact newO_sub h0 _ _ h
     ·rename_i hps'; simp only [hps'] at h; exact h.elim
    ·rename_i ha
     rw [if_neg ha] at h
     exact newO_sub h0 _ _ h
  ·simp only [opFn] at h ⊢; exact newO_sub h0 _ _ h
  ·simp only [opFn] at h ⊢; exact newO_sub h0 _ _ h
  ·rename_i es
   simp only [opFn] at h ⊢
   refine ⟨h, (sub_new h0 (.arr [] 0 es)).trans (sub_new ?_ _)⟩
   rw [get_new]
   have : nextId ((nextId s, Obj.arr [] 0 es) :: s) = nextId s + 1 := rfl
   rw [this, if_neg (by omega)]
   exact h1
  ·split
   ·rename_i cs hcs
    simp only [hcs] at h
    split
    ·rename_i ps hps; simp only [hps] at h; exact newO_sub h0 _ _ h
    ·rename_i hps; simp only [hps] at h; exact h.elim
   ·rename_i hcs; simp only [hcs] at h; exact h.elim
  ·exact h.elim
 ·rename_i hf
  rw [if_neg hf] at h
  exact h.elim

theorem aOp_sound {call : CallF} {C : Nat → List AVal → Option (T AVal)} {rb : Nat} {ρ : Opd → AVal} {s : Sto} {op : AOp} (hr : isRes op = false) {Q : AVal × Sto → Prop} (h : (aOp rb ρ s op).All Q) : (evOp call C ρ s op).All Q := by
 unfold aOp at h
 split at h
 ·cases hr
 ·cases hr
 ·cases hr
 ·exact aOp0_sound h

theorem aOp_sub {rb : Nat} {ρ : Opd → AVal} {s : Sto} {op : AOp} {Q : AVal × Sto → Prop} (h : (aOp rb ρ s op).All Q) : (aOp rb ρ s op).All (fun x => Q x ∧ Sub s x.2) := by
 unfold aOp at h ⊢
 split at h
 ·obtain ⟨o, g1, g2, g3⟩ := rOp_spec h
  rw [g3 s g1]
  exact ⟨g2, ins_sub g1 o⟩
 ·obtain ⟨r, o, g1, g2, g3⟩ := mOpr_spec h
  rw [g3 s g1]
  exact ⟨g2, ins_sub g1 o⟩
 ·obtain ⟨r, o, g1, g2, g3⟩ := bOpr_spec h
  rw [g3 s g1]
  exact ⟨g2, ins_sub g1 o⟩
 ·exact aOp0_sub h

theorem aOpC_eq {call : CallF} {C : Nat → List AVal → Option (T AVal)} {rb : Nat} {ρ : Opd → AVal} {s : Sto} {op : AOp} (hr : isRes op = false) : aOpC call C rb ρ s op = aOp rb ρ s op := by
 cases op <;> first | rfl | cases hr
theorem cOqr_spec {call : CallF} {C : Nat → List AVal → Option (T AVal)} {id : Nat} {ρ : Opd → AVal} {s : Sto} {es f : Nat} {args : List Opd} {Q : AVal × Sto → Prop} (h : (cOqr call C id ρ s es f args).All Q) :
  get s id = none ∧ ∃ as, (args.map ρ).mapM (purA false s) = some as ∧ ((callPure call C (.fn f) as).bind (rowQ es)).All (fun x => Q (.sl id 0 0 x.1, ins s id x.2)) := by
 unfold cOqr at h
 split at h
 ·rename_i hg
  refine ⟨by simpa using hg, ?_⟩
  split at h
  ·rename_i as has
   rw [T.All_bind] at h
   exact ⟨as, has, h⟩
  ·exact h.elim
 ·exact h.elim
theorem cOqr_of {call : CallF} {C : Nat → List AVal → Option (T AVal)} {id : Nat} {ρ : Opd → AVal} {s : Sto} {es f : Nat} {args : List Opd} {Q : AVal × Sto → Prop} (hk : get s id = none) {as : List AVal} (hm : (args.map ρ).mapM (purA false s) = some as)
  (h : ((callPure call C (.fn f) as).bind (rowQ es)).All (fun x => Q (.sl id 0 0 x.1, ins s id x.2))) : (cOqr call C id ρ s es f args).All Q := by
 unfold cOqr
 rw [if_pos (by simp [hk]), hm]
 simp only
 rw [T.All_bind]
 exact h
theorem aOpC_sub {call : CallF} {C : Nat → List AVal → Option (T AVal)} {rb : Nat} {ρ : Opd → AVal} {s : Sto} {op : AOp} {Q : AVal × Sto → Prop} (h : (aOpC call C rb ρ s op).All Q) : (aOpC call C rb ρ s op).All (fun x => Q x ∧ Sub s x.2) := by
 cases hr : rid op with
 | none =>
  by_cases hc : ∃ j es f args, op = .callq j es f args
  ·obtain ⟨j, es, f, args, rfl⟩ := hc
   obtain ⟨g1, as, g2, g3⟩ := cOqr_spec h
   exact cOqr_of g1 g2 (T.All_mono g3 (fun x hx => ⟨hx, ins_sub g1 x.2⟩))
  ·have e : aOpC call C rb ρ s op = aOp rb ρ s op := by cases op <;> first | rfl | exact absurd ⟨_, _, _, _, rfl⟩ hc | cases hr
   rw [e] at h ⊢
   exact aOp_sub h
 | some j =>
  obtain ⟨t, h1, h2⟩ := res_spec (call := call) (C := C) (rb := rb) (ρ := ρ) hr
  have g := h2 s Q h
  rw [h1 s g] at h ⊢
  exact T.All_mono h (fun x hx => ⟨hx, ins_sub g x.2⟩)

/-! what is read stays as it is when the store grows -/

theorem okv_sub {s s' : Sto} (h : Sub s s') {i v : Nat} (hk : okv s i v = true) : okv s' i v = true := by
 unfold okv at hk ⊢
 split at hk
 ·rename_i o ho; rw [h i o ho]; exact hk
 ·cases hk

theorem toP_sub {s s' : Sto} (h : Sub s s') (fr : Bool) : ∀ (d : Nat) (a : AVal) (p : PVal), toP fr s d a = some p → toP fr s' d a = some p := by
 intro d
 induction d with
 | zero => intro a p hp; simp [toP] at hp
 | succ d ih =>
  intro a p hp
  have hm : ∀ (l : List AVal) (r : List PVal), l.mapM (toP fr s d) = some r → l.mapM (toP fr s' d) = some r := by
   intro l
   induction l with
   | nil => intro r hr; exact hr
   | cons x t iht =>
    intro r hr
    rw [List.mapM_cons] at hr ⊢
    cases hx : toP fr s d x with
    | none => rw [hx] at hr; simp at hr
    | some y =>
     rw [hx] at hr
     cases ht : t.mapM (toP fr s d) with
     | none => rw [ht] at hr; simp at hr
     | some q => rw [ht] at hr; rw [ih x y hx, iht q ht]; exact hr
  cases a <;> simp only [toP] at hp ⊢ <;> try (first | exact hp | cases hp)
  ·rename_i id ver off
   cases hg : get s id with
   | none => rw [hg] at hp; cases hp
   | some o =>
    rw [h id o hg]; rw [hg] at hp
    cases o <;> simp only at hp ⊢ <;> try (first | exact hp | cases hp)
    rename_i cs
    split at hp
    ·rename_i hc
     rw [if_pos hc]
     cases hx : cs.mapM (toP fr s d) with
     | none => rw [hx] at hp; cases hp
     | some q => rw [hm cs q hx]; rw [hx] at hp; exact hp
    ·cases hp
  ·rename_i id ver off n
   cases hg : get s id with
   | none => rw [hg] at hp; cases hp
   | some o => rw [h id o hg]; rw [hg] at hp; exact hp
  ·rename_i id
   cases hg : get s id with
   | none => rw [hg] at hp; cases hp
   | some o => rw [h id o hg]; rw [hg] at hp; exact hp
  ·rename_i f x y
   cases hx : x.mapM (toP fr s d) with
   | none => rw [hx] at hp; cases hp
   | some q =>
    cases hy : y.mapM (toP fr s d) with
    | none => rw [hx, hy] at hp; cases hp
    | some q' => rw [hm x q hx, hm y q' hy]; rw [hx, hy] at hp; exact hp

theorem mapM_mono {α β : Type} {f g : α → Option β} (h : ∀ a b, f a = some b → g a = some b) : ∀ {l : List α} {r : List β}, l.mapM f = some r → l.mapM g = some r := by
 intro l
 induction l with
 | nil => intro r hr; exact hr
 | cons x t ih =>
  intro r hr
  rw [List.mapM_cons] at hr ⊢
  cases hx : f x with
  | none => rw [hx] at hr; simp at hr
  | some y =>
   rw [hx] at hr
   cases ht : t.mapM f with
   | none => rw [ht] at hr; simp at hr
   | some q => rw [ht] at hr; rw [h x y hx, ih ht]; exact hr

theorem purA_sub {s s' : Sto} (h : Sub s s') (fr : Bool) (a r : AVal) (hp : purA fr s a = some r) : purA fr s' a = some r := by
 cases a with
 | agg cs =>
  simp only [purA] at hp ⊢
  cases hx : cs.mapM (toP fr s depthP) with
  | none => rw [hx] at hp; cases hp
  | some q => rw [mapM_mono (toP_sub h fr depthP) hx]; rw [hx] at hp; exact hp
 | p v => exact hp
 | _ =>
  simp only [purA] at hp ⊢
  split at hp
  ·rename_i q hq; rw [toP_sub h fr depthP _ q hq]; exact hp
  ·cases hp

end Fw
end

section
/-
  What is read stays as it is when the store grows: operations.
-/
namespace Fw
open Go

theorem loadA_sub {s s' : Sto} (h : Sub s s') {agg : Bool} {sz : Nat} {x a : AVal} (hl : loadA s agg sz x = some a) : loadA s' agg sz x = some a := by
 unfold loadA at hl ⊢
 split at hl
 ·exact hl
 ·rename_i id ver off
  cases hg : get s id with
  | none => rw [hg] at hl; cases hl
  | some o => rw [h id o hg]; rw [hg] at hl; exact hl
 ·cases hl

theorem sliceOf_sub {s s' : Sto} (h : Sub s s') {es : Nat} {x : AVal} {r : List PVal × Nat} (hl : sliceOf s es x = some r) : sliceOf s' es x = some r := by
 unfold sliceOf at hl ⊢
 split at hl
 ·exact hl
 ·exact hl
 ·exact hl
 ·rename_i id ver off len
  cases hg : get s id with
  | none => rw [hg] at hl; cases hl
  | some o => rw [h id o hg]; rw [hg] at hl; exact hl
 ·cases hl

theorem mapOf_sub {s s' : Sto} (h : Sub s s') {x : AVal} {r : List PVal × List PVal} (hl : mapOf s x = some r) : mapOf s' x = some r := by
 unfold mapOf at hl ⊢
 split at hl
 ·exact hl
 ·exact hl
 ·rename_i id
  cases hg : get s id with
  | none => rw [hg] at hl; cases hl
  | some o => rw [h id o hg]; rw [hg] at hl; exact hl
 ·cases hl

theorem okv_get {s : Sto} {i v : Nat} (h : okv s i v = true) : ∃ o, get s i = some o := by
 unfold okv at h
 split at h
 ·rename_i o ho; exact ⟨o, ho⟩
 ·cases h

theorem esOf_sub {s s' : Sto} (h : Sub s s') {i : Nat} {o : Obj} (hg : get s i = some o) : esOf s' i = esOf s i := by unfold esOf; rw [h i o hg, hg]
theorem sizeOf_sub {s s' : Sto} (h : Sub s s') {i : Nat} {o : Obj} (hg : get s i = some o) : sizeOf s' i = sizeOf s i := by unfold sizeOf; rw [h i o hg, hg]

section
variable {ρ : Opd → AVal} {s s' : Sto} {K : AVal → Prop}

theorem opt1_sub {x x' : Option AVal} (h : ∀ a, x = some a → x' = some a) (hq : (opt1 x s).All (fun y => K y.1)) : (opt1 x' s').All (fun y => K y.1) := by
 cases x with
 | none => exact hq.elim
 | some a => rw [h a rfl]; exact hq

theorem if_okv {t t' : T (AVal × Sto)} {b b' : Bool} (hb : b = true → b' = true) (ht : t.All (fun y => K y.1) → t'.All (fun y => K y.1)) (hq : (if b = true then t else .fail).All (fun y => K y.1)) :
  (if b' = true then t' else .fail).All (fun y => K y.1) := by
 cases b with
 | false => simp only [Bool.false_eq_true, if_false] at hq; exact hq.elim
 | true => rw [if_pos rfl] at hq; rw [if_pos (hb rfl)]; exact ht hq

theorem opFn_sub (h : Sub s s') {op : AOp} (hr : isR op = true) (hq : (opFn ρ s op).All (fun x => K x.1)) : (opFn ρ s' op).All (fun x => K x.1) := by
 have ok : ∀ i v, okv s i v = true → okv s' i v = true := fun i v => okv_sub h
 have o1 : ∀ x : Option AVal, (opt1 x s).All (fun y => K y.1) → (opt1 x s').All (fun y => K y.1) := fun x hx => opt1_sub (fun a ha => ha) hx
 have oN : ∀ (x x' : Option AVal) (nk : Option FloatKind), (∀ a, x = some a → x' = some a) → (nk ≠ none → x' = x) → (optN x nk s).All (fun y => K y.1) → (optN x' nk s').All (fun y => K y.1) := by
  intro x x' nk h1 h2 hx
  cases x with
  | some a => rw [h1 a rfl]; exact hx
  | none =>
   cases nk with
   | none => exact hx.elim
   | some k => rw [h2 (by simp)]; exact hx
 cases op <;> simp only [isR, isP, Bool.false_eq_true] at hr <;> simp only [opFn] at hq ⊢
 case mv => exact hq
 case pick c a b => generalize asB (ρ c) = x at hq ⊢; cases x <;> exact hq
 case build => exact o1 _ hq
 case bin => exact oN _ _ _ (fun _ h => h) (fun _ => rfl) hq
 case shift => exact o1 _ hq
 case mkclo => exact hq
 case ld => exact opt1_sub (fun a ha => loadA_sub h ha) hq
 case nilck x =>
  generalize ρ x = v at hq ⊢
  split at hq
  ·(refine if_okv (ok _ _) (fun hx => ?_) hq; exact hx)
  ·exact hq
  ·exact hq.elim
 case eqagg ks ng x y =>
  generalize ρ x = v at hq ⊢
  generalize ρ y = u at hq ⊢
  split at hq
  ·rename_i a b; generalize eqK ks a b = r at hq ⊢; cases r <;> exact hq
  ·exact hq.elim
 case eqb ng x y =>
  generalize ρ x = v at hq ⊢
  generalize ρ y = u at hq ⊢
  split at hq
  ·exact hq
  ·exact hq.elim
 case eqnil k ng x =>
  generalize ρ x = v at hq ⊢
  split at hq
  all_goals first | exact hq | exact hq.elim | (refine if_okv (ok _ _) (fun hx => ?_) hq; exact hx) | skip
  ·split at hq
   ·rename_i hc; rw [if_pos hc]; exact hq
   ·rename_i hc; rw [if_neg hc]; exact hq
  ·refine if_okv (ok _ _) (fun hq => ?_) hq
   split at hq
   ·rename_i hc; rw [if_pos hc]; exact hq
   ·rename_i hc; rw [if_neg hc]; exact hq
 case neg x =>
  generalize ρ x = v at hq ⊢
  split at hq <;> first | exact hq | exact hq.elim
 case not x =>
  generalize ρ x = v at hq ⊢
  split at hq <;> first | exact hq | exact hq.elim
 case bnot x =>
  generalize ρ x = v at hq ⊢
  split at hq <;> first | exact hq | exact hq.elim
 case conv k x =>
  generalize ρ x = v at hq ⊢
  have : ∀ k v a, convA s k v = some a → convA s' k v = some a := by
   intro k v a ha
   unfold convA at ha ⊢
   split at ha
   all_goals first | exact ha | skip
   ·rename_i x hx
    cases hs : sliceOf s 1 v with
    | none => rw [hs] at ha; cases ha
    | some r => rw [hs] at ha; simp only [sliceOf_sub h hs]; exact ha
  have hn : ∀ k v, nanC k v ≠ none → convA s' k v = convA s k v := by
   intro k v hk
   cases k <;> first | exact absurd rfl hk | skip
   rename_i k0
   cases v <;> first | exact absurd rfl hk | skip
   rename_i p
   cases p <;> first | exact absurd rfl hk | rfl
  cases k <;> first | (simp only at hr; cases hr; done) | exact oN _ _ _ (this _ _) (hn _ _) hq
 case slcs x lo hi =>
  generalize ρ x = v at hq ⊢
  split at hq
  ·split at hq
   ·rename_i hx; first | exact hq | (simp only [hx]; exact hq)
   ·exact hq.elim
  ·exact hq.elim
 case slc es x lo hi =>
  generalize ρ x = v at hq ⊢
  split at hq
  ·split at hq
   ·rename_i hx; skip; split at hq
    ·rename_i hc; rw [if_pos hc]; exact hq
    ·exact hq.elim
   ·exact hq.elim
  ·split at hq
   ·rename_i hx; first | exact hq | (simp only [hx]; exact hq)
   ·exact hq.elim
  ·split at hq
   ·rename_i hc
    obtain ⟨o, ho⟩ := okv_get hc.2
    rw [if_pos ⟨(esOf_sub h ho).trans hc.1, ok _ _ hc.2⟩]
    split at hq
    ·rename_i hx; first | exact hq | (simp only [hx]; exact hq)
    ·exact hq.elim
   ·exact hq.elim
  ·exact hq.elim
 case slca es n x lo hi =>
  generalize ρ x = v at hq ⊢
  generalize sliceBnds n (lo.map ρ) (hi.map ρ) = r at hq ⊢
  cases r with
  | none => exact hq.elim
  | some r =>
   obtain ⟨a, b⟩ := r
   simp only at hq ⊢
   split at hq
   ·split at hq
    ·rename_i hc
     obtain ⟨o, ho⟩ := okv_get hc.2.1
     rw [if_pos ⟨(esOf_sub h ho).trans hc.1, ok _ _ hc.2.1, by rw [sizeOf_sub h ho]; exact hc.2.2⟩]; exact hq
    ·exact hq.elim
   ·split at hq
    ·rename_i hc; rw [if_pos hc]; exact hq
    ·exact hq.elim
   ·exact hq.elim
 case fadr off x =>
  generalize ρ x = v at hq ⊢
  split at hq
  ·(refine if_okv (ok _ _) (fun hx => ?_) hq; exact hx)
  ·split at hq
   ·rename_i hc; rw [if_pos hc]; exact hq
   ·exact hq.elim
  ·exact hq.elim
 case fld agg off sz x =>
  generalize ρ x = v at hq ⊢
  split at hq
  ·exact o1 _ hq
  ·exact hq.elim
 case iadr es x i =>
  generalize ρ x = v at hq ⊢
  generalize toInt64? (ρ i) = j at hq ⊢
  cases j with
  | none => exact hq.elim
  | some j =>
   simp only at hq ⊢
   split at hq
   ·split at hq
    ·rename_i hc; rw [if_pos hc]; exact hq
    ·exact hq.elim
   ·split at hq
    ·rename_i hc; rw [if_pos ⟨hc.1, hc.2.1, ok _ _ hc.2.2⟩]; exact hq
    ·exact hq.elim
   ·exact hq.elim
 case iadra es n x i =>
  generalize ρ x = v at hq ⊢
  generalize toInt64? (ρ i) = j at hq ⊢
  cases j with
  | none => exact hq.elim
  | some j =>
   simp only at hq ⊢
   split at hq
   ·rename_i hc0
    rw [if_pos hc0]
    split at hq
    ·split at hq
     ·rename_i hc; rw [if_pos hc]; exact hq
     ·exact hq.elim
    ·(refine if_okv (ok _ _) (fun hx => ?_) hq; exact hx)
    ·exact hq.elim
   ·exact hq.elim
 case idx agg es n x i =>
  generalize ρ x = v at hq ⊢
  generalize toInt64? (ρ i) = j at hq ⊢
  split at hq
  ·split at hq
   ·rename_i hc; rw [if_pos hc]; exact o1 _ hq
   ·exact hq.elim
  ·exact hq.elim
 case idxs x i =>
  generalize ρ x = v at hq ⊢
  generalize toInt64? (ρ i) = j at hq ⊢
  split at hq
  ·split at hq
   ·rename_i hc; rw [if_pos hc]
    split at hq
    ·rename_i hx; first | exact hq | (simp only [hx]; exact hq)
    ·exact hq.elim
   ·exact hq.elim
  ·exact hq.elim
 case lkup kk zero m k okk =>
  cases hm : mapOf s (ρ m) with
  | none => simp only [hm] at hq; exact hq.elim
  | some r =>
   rw [mapOf_sub h hm]
   rw [hm] at hq
   generalize ρ k = v at hq ⊢
   obtain ⟨ks, vs⟩ := r
   split at hq
   ·rename_i h1; cases h1
    split at hq
    ·rename_i hc; rw [if_pos hc]
     split at hq <;> (first | exact hq | exact hq.elim)
    ·exact hq.elim
   ·exact hq.elim
 case entry x =>
  generalize ρ x = v at hq ⊢
  split at hq
  ·rename_i id
   split at hq
   ·rename_i hx; rw [h _ _ hx]; exact hq
   ·exact hq.elim
  ·exact hq.elim
 case ext x i =>
  generalize ρ x = v at hq ⊢
  split at hq
  ·exact o1 _ hq
  ·exact hq.elim
 case len k x =>
  generalize ρ x = v at hq ⊢
  split at hq
  all_goals first | exact hq | exact hq.elim | (refine if_okv (ok _ _) (fun hx => ?_) hq; exact hx) | skip
  ·rename_i id
   split at hq
   ·rename_i hx; rw [h _ _ hx]; exact hq
   ·rename_i hx; rw [h _ _ hx]; exact hq
   ·exact hq.elim
 case max xs =>
  generalize xs.map ρ = l at hq ⊢
  split at hq
  ·exact o1 _ hq
  ·exact hq.elim
 case min xs =>
  generalize xs.map ρ = l at hq ⊢
  split at hq
  ·exact o1 _ hq
  ·exact hq.elim

end
end Fw
end

section
/-
  One operation ahead of another.
-/
namespace Fw
open Go

section
variable {ρ : Opd → AVal} {s s' : Sto} {call : CallF} {C : Nat → List AVal → Option (T AVal)} {G : Nat → Option (List PVal)}

def cnst (f : Sto → T (AVal × Sto)) : Prop := ∃ u : T AVal, ∀ s, f s = u.bind fun a => .ret (a, s)
theorem convA_const {k : Cnv} (h : (match k with | .s2b | .b2s => false | _ => true) = true) (s : Sto) (v : AVal) : convA s k v = convA [] k v := by
 cases k <;> first | (cases h; done) | (cases v <;> first | rfl | (rename_i p; cases p <;> rfl))

theorem opt1_eq (v : Option AVal) (s : Sto) : opt1 v s = (opt1 v []).bind fun a => .ret (a.1, s) := by cases v <;> rfl

theorem optN_eq (v : Option AVal) (nk : Option FloatKind) (s : Sto) : optN v nk s = (optN v nk []).bind fun a => .ret (a.1, s) := by
 cases v with
 | some v => rfl
 | none => cases nk <;> rfl

theorem isP_const (ρ : Opd → AVal) {op : AOp} (h : isP op = true) : cnst (fun s => opFn ρ s op) := by
 refine ⟨qFn ρ [] op, fun s => ?_⟩
 cases op <;> simp only [isP, Bool.false_eq_true] at h
 all_goals simp only [qFn, T.bind_assoc, T.bind, opFn]
 case conv k x =>
  have hc := convA_const h s (ρ x)
  cases k <;> first | (cases h; done) | (simp only at hc ⊢; rw [hc]; exact optN_eq _ _ _)
 case len k x =>
  have : k = 0 := by simpa using h
  subst this
  generalize ρ x = v
  split <;> first | rfl | simp_all []
 all_goals repeat' (first | rfl | split)
 all_goals first | rfl | exact opt1_eq _ _ | exact optN_eq _ _ _ | (simp_all [T.bind, some1]; done) | (simp_all [T.bind, some1]; exact opt1_eq _ _) | (split <;> first | rfl | exact opt1_eq _ _)


theorem qOp_sub (h : Sub s s') {op : AOp} {K : AVal → Prop} (hq : (qOp call C ρ s op).All K) : (qOp call C ρ s' op).All K := by
 unfold qOp at hq ⊢
 split at hq
 ·split at hq
  ·rename_i snap scal adopt c args ha
   rw [if_pos ha]
   unfold qCall at hq ⊢
   cases hc : callee ρ c with
   | none => rw [hc] at hq; exact hq.elim
   | some x =>
    rw [hc] at hq
    obtain ⟨t, first, caps⟩ := x
    cases t with
    | yld => exact hq.elim
    | fn f =>
     simp only at hq ⊢
     split at hq
     ·rename_i hp; rw [if_pos hp]; exact hq
     ·rename_i hp
      rw [if_neg hp]
      split at hq
      ·rename_i hs
       rw [if_pos hs]
       cases hm : (first ++ args.map ρ ++ caps).mapM (purA false s) with
       | none => rw [hm] at hq; exact hq.elim
       | some as' => rw [mapM_mono (purA_sub h false) hm]; rw [hm] at hq; exact hq
      ·exact hq.elim
  ·exact hq.elim
 ·exact hq
 ·rename_i h1 h2
  split at hq
  ·rename_i hr
   rw [qFn, T.All_bind] at hq
   have := opFn_sub h hr (K := K) hq
   rw [if_pos hr, qFn, T.All_bind]; exact this
  ·exact hq.elim

theorem isP_isR {op : AOp} (h : isP op = true) : isR op = true := by
 cases op <;> first | exact h | (simp only [isP, Bool.false_eq_true] at h; done) | skip
 all_goals (simp only [isP, isR] at *)
 rename_i k x
 cases k <;> first | rfl | exact h

theorem qOp_P {op : AOp} (hp : isP op = true) {K : AVal → Prop} (hq : (qOp call C ρ s op).All K) (s' : Sto) : (qOp call C ρ s' op).All K := by
 obtain ⟨u, hu⟩ := isP_const ρ hp
 simp only at hu
 unfold qOp at hq ⊢
 split at hq
 ·cases hp
 ·exact hq
 ·rename_i h1 h2
  rw [if_pos (isP_isR hp), qFn, T.All_bind, hu, T.All_bind] at hq
  rw [if_pos (isP_isR hp), qFn, T.All_bind, hu, T.All_bind]
  exact hq

def oList : Option Opd → List Opd
 | none => []
 | some x => [x]

def ceeO : Cee → List Opd
 | .fn _ => []
 | .val x => [x]

def opds : AOp → List Opd
 | .mv x | .box _ x | .ld _ _ x | .nilck x | .eqnil _ _ x | .neg x | .not x | .bnot x | .conv _ x | .fadr _ x | .fld _ _ _ x | .rngs x | .rngm x | .nxt x _ | .entry x | .ext x _ | .len _ x | .clr _ _ x => [x]
 | .pick a b c => [a, b, c]
 | .alloc .. | .allocr .. | .mkmap | .nilown _ | .allocown _ | .fail => []
 | .build _ parts => parts.map (·.2.2)
 | .bslice _ _ _ _ parts => parts.map (·.2)
 | .bslicer _ _ _ _ parts => parts.map (·.2)
 | .callr _ _ _ args => args
 | .callq _ _ _ args => args
 | .st _ x y | .bin _ x y | .shift _ x y | .eqagg _ _ x y | .eqb _ x y | .mkslice _ _ x y | .mkslicer _ _ _ x y | .iadr _ x y | .iadra _ _ x y | .idx _ _ _ x y | .idxs x y | .lkup _ _ x y _ | .mentry _ x y | .app _ _ _ x y | .appk _ _ _ x y | .copy _ x y | .del x y => [x, y]
 | .mkclo _ a b => a ++ b
 | .slcs x lo hi | .slc _ x lo hi | .slca _ _ x lo hi => x :: (oList lo ++ oList hi)
 | .slc3 _ _ a b c d => [a, b, c, d]
 | .mupd _ a b c | .estore a b c => [a, b, c]
 | .call _ _ _ c args => ceeO c ++ args
 | .max xs | .min xs => xs

theorem omap_congr {ρ ρ' : Opd → AVal} {o : Option Opd} (h : ∀ x ∈ oList o, ρ x = ρ' x) : o.map ρ = o.map ρ' := by
 cases o with
 | none => rfl
 | some x => simp [h x (by simp [oList])]

theorem opFn_congr {ρ ρ' : Opd → AVal} {op : AOp} (h : ∀ x ∈ opds op, ρ x = ρ' x) (s : Sto) : opFn ρ s op = opFn ρ' s op := by
 cases op <;> simp only [opds, List.mem_cons, List.not_mem_nil, or_false, forall_eq_or_imp, forall_eq, List.mem_append, List.mem_map] at h
 case build zero parts =>
  have : parts.map (fun x => (x.1, x.2.1, ρ x.2.2)) = parts.map (fun x => (x.1, x.2.1, ρ' x.2.2)) := List.map_congr_left (fun x hx => by rw [h _ ⟨x, hx, rfl⟩])
  simp only [opFn, this]
 case bslice own es zero n parts =>
  have : parts.map (fun x => (x.1 * es, es, ρ x.2)) = parts.map (fun x => (x.1 * es, es, ρ' x.2)) := List.map_congr_left (fun x hx => by rw [h _ ⟨x, hx, rfl⟩])
  simp only [opFn, this]
 case mkclo f a b =>
  have h1 : a.map ρ = a.map ρ' := List.map_congr_left (fun x hx => h x (.inl hx))
  have h2 : b.map ρ = b.map ρ' := List.map_congr_left (fun x hx => h x (.inr hx))
  simp only [opFn, h1, h2]
 case slcs x lo hi => simp only [opFn, h.1, omap_congr (fun x hx => h.2 x (.inl hx)), omap_congr (fun x hx => h.2 x (.inr hx))]
 case slc es x lo hi => simp only [opFn, h.1, omap_congr (fun x hx => h.2 x (.inl hx)), omap_congr (fun x hx => h.2 x (.inr hx))]
 case slca es n x lo hi => simp only [opFn, h.1, omap_congr (fun x hx => h.2 x (.inl hx)), omap_congr (fun x hx => h.2 x (.inr hx))]
 case max xs => simp only [opFn, List.map_congr_left h]
 case min xs => simp only [opFn, List.map_congr_left h]
 case call => rfl
 all_goals simp only [opFn, h]

theorem callee_congr {ρ ρ' : Opd → AVal} {c : Cee} (h : ∀ x ∈ ceeO c, ρ x = ρ' x) : callee ρ c = callee ρ' c := by
 cases c with
 | fn => rfl
 | val x => simp only [callee, h x (by simp [ceeO])]

theorem evOp_congr {ρ ρ' : Opd → AVal} {op : AOp} (h : ∀ x ∈ opds op, ρ x = ρ' x) (s : Sto) : evOp call C ρ s op = evOp call C ρ' s op := by
 cases op
 case call snap scal adopt c args =>
  have h1 : args.map ρ = args.map ρ' := List.map_congr_left (fun x hx => h x (by simp [opds, hx]))
  have h2 : callee ρ c = callee ρ' c := callee_congr (fun x hx => h x (by simp [opds, hx]))
  simp only [evOp, callOp, h2, h1]
 all_goals exact opFn_congr h s

theorem qOp_congr {ρ ρ' : Opd → AVal} {op : AOp} (h : ∀ x ∈ opds op, ρ x = ρ' x) (s : Sto) : qOp call C ρ s op = qOp call C ρ' s op := by
 unfold qOp
 split
 ·rename_i snap scal adopt c args
  have h1 : args.map ρ = args.map ρ' := List.map_congr_left (fun x hx => h x (by simp [opds, hx]))
  have h2 : callee ρ c = callee ρ' c := callee_congr (fun x hx => h x (by simp [opds, hx]))
  simp only [qCall, h2, h1]
 ·rename_i es zero n parts
  have : parts.map (fun x => (x.1 * es, es, ρ x.2)) = parts.map (fun x => (x.1 * es, es, ρ' x.2)) := List.map_congr_left (fun x hx => by rw [h _ (by simp only [opds, List.mem_map]; exact ⟨x, hx, rfl⟩)])
  simp only [this]
 ·simp only [qFn, opFn_congr h s]

theorem stOp_congr {ρ ρ' : Opd → AVal} {op : AOp} (h : ∀ x ∈ opds op, ρ x = ρ' x) (s : Sto) : stOp ρ s op = stOp ρ' s op := by
 unfold stOp
 split
 ·rename_i sz x v
  have h1 : ρ x = ρ' x := h x (by simp [opds])
  have h2 : ρ v = ρ' v := h v (by simp [opds])
  simp only [opFn, h1, h2]
 ·rw [opFn_congr h s]
 ·rw [opFn_congr h s]
 ·rfl

theorem aOp_congr {rb : Nat} {ρ ρ' : Opd → AVal} {op : AOp} (h : ∀ x ∈ opds op, ρ x = ρ' x) (s : Sto) : aOp rb ρ s op = aOp rb ρ' s op := by
 unfold aOp
 split
 ·rfl
 ·rename_i j es zero l c
  rw [h l (by simp [opds]), h c (by simp [opds])]
 ·rename_i j es zero n parts
  have : parts.map (fun x => (x.1 * es, es, ρ x.2)) = parts.map (fun x => (x.1 * es, es, ρ' x.2)) := List.map_congr_left (fun x hx => by rw [h _ (by simp only [opds, List.mem_map]; exact ⟨x, hx, rfl⟩)])
  simp only [bOpr, this]
 unfold aOp0
 split
 ·split <;> first | rfl | exact opFn_congr h s | skip
  rename_i es zero n parts _ _ _
  have : parts.map (fun x => (x.1 * es, es, ρ x.2)) = parts.map (fun x => (x.1 * es, es, ρ' x.2)) := List.map_congr_left (fun x hx => by rw [h _ (by simp only [opds, List.mem_map]; exact ⟨x, hx, rfl⟩)])
  simp only [this]
 ·rfl

theorem aOpC_congr {call : CallF} {C : Nat → List AVal → Option (T AVal)} {rb : Nat} {ρ ρ' : Opd → AVal} {op : AOp} (h : ∀ x ∈ opds op, ρ x = ρ' x) (s : Sto) : aOpC call C rb ρ s op = aOpC call C rb ρ' s op := by
 have gen : (∀ j es f args, op ≠ .callr j es f args) → (∀ j es f args, op ≠ .callq j es f args) → aOpC call C rb ρ s op = aOpC call C rb ρ' s op := by
  intro hn hn2
  have e : ∀ ρ, aOpC call C rb ρ s op = aOp rb ρ s op := fun ρ => by cases op <;> first | rfl | exact absurd rfl (hn _ _ _ _) | exact absurd rfl (hn2 _ _ _ _)
  rw [e, e]
  exact aOp_congr h s
 cases op
 case callr j es f args =>
  have : args.map ρ = args.map ρ' := List.map_congr_left (fun x hx => h x hx)
  show cOpr call C (rb + j) ρ s es f args = cOpr call C (rb + j) ρ' s es f args
  simp only [cOpr, this]
 case callq j es f args =>
  have : args.map ρ = args.map ρ' := List.map_congr_left (fun x hx => h x hx)
  show cOqr call C (rb + j) ρ s es f args = cOqr call C (rb + j) ρ' s es f args
  simp only [cOqr, this]
 all_goals exact gen (fun _ _ _ _ e => by cases e) (fun _ _ _ _ e => by cases e)

end
end Fw
end

section
/-
  Operations whose order Go leaves open: bringing one to the front.
-/
namespace Fw
open Go

def oc (call : CallF) (C : Nat → List AVal → Option (T AVal)) (G : Nat → Option (List PVal)) (rb : Nat) (kind : Nat) (o : AOper) (env : Env) (s : Sto) : T (AVal × Sto) :=
 match wantedA env o.guard with
 | none => .fail
 | some false => .ret (undefA, s)
 | some true => dOp call C rb (evOpd G env) kind s o.op

def useT : List Opd → List Nat
 | [] => []
 | .t n :: r => n :: useT r
 | _ :: r => useT r

def uses (o : AOper) : List Nat := (match o.guard with | some (g, _) => [g] | none => []) ++ useT (opds o.op)

def mskT (k : Nat) : List Nat := hidT ((k - 6) / 3)
def isH (k : Nat) : Bool := decide (6 ≤ k) && (k - 6) % 3 == 0
def isOnly (k : Nat) : Bool := decide (6 ≤ k) && (k - 6) % 3 == 1
def isKeep (k : Nat) : Bool := decide (6 ≤ k) && (k - 6) % 3 == 2

def usesK (x : Nat × AOper) : List Nat := (if 6 ≤ x.1 then mskT x.1 else []) ++ uses x.2

def apart1 (x y : Nat × AOper) : Bool := match x.2.dst with
 | some d => !(usesK y).contains d && y.2.dst != some d
 | none => true

def apart (x y : Nat × AOper) : Bool := apart1 x y && apart1 y x

def isQ (k : Nat) : Bool := k == 1 || (decide (4 ≤ k) && !isKeep k)

def hidBy (x y : Nat × AOper) : Bool := match y.2.op with
 | .st _ (.t a) _ => y.1 == 3 && isH x.1 && (mskT x.1).contains a
 | _ => false

def resPair (x y : Nat × AOper) : Bool := match rid x.2.op, rid y.2.op with
 | some i, some j => x.1 == 2 && y.1 == 2 && i != j
 | _, _ => false

def isApp : AOp → Bool
 | .app .. => true
 | .appk .. => true
 | _ => false

def boxBy (x y : Nat × AOper) : Bool := x.1 == 4 && y.1 == 3 && isApp y.2.op

def isS (x : Nat × AOper) : Bool := isP x.2.op || x.1 == 5

def onlyBy (x y : Nat × AOper) : Bool := isOnly x.1 && isKeep y.1 && (mskT x.1).all fun t => (mskT y.1).contains t

def stRes (x y : Nat × AOper) : Bool := match x.2.op with
 | .appk .. => x.1 == 3 && y.1 == 2 && (rid y.2.op).isSome
 | .callq j .. => x.1 == 2 && y.1 == 2 && (match rid y.2.op with | some i => i != j | none => false)
 | _ => false

def okSwap (x y : Nat × AOper) : Bool :=
 apart x y && ((isQ x.1 && (isQ y.1 || y.1 == 2 || isS x)) || (isQ y.1 && isS y) || hidBy x y || hidBy y x || resPair x y || boxBy x y || boxBy y x || onlyBy x y || onlyBy y x || stRes x y)

section
variable {rb : Nat} {s s' : Sto} {call : CallF} {C : Nat → List AVal → Option (T AVal)} {G : Nat → Option (List PVal)}

theorem evOperD_eq (kind : Nat) (o : AOper) (st : St) : evOperD call C G rb kind o st = (oc call C G rb kind o st.env st.sto).bind fun x => .ret ⟨setE st.env o.dst x.1, x.2⟩ := by
 unfold evOperD oc
 cases wantedA st.env o.guard with
 | none => rfl
 | some b =>
  cases b with
  | false => rfl
  | true => rfl

theorem mem_useT {l : List Opd} {n : Nat} (h : .t n ∈ l) : n ∈ useT l := by
 induction l with
 | nil => cases h
 | cons x r ih =>
  rcases List.mem_cons.1 h with e | e
  ·subst e; simp [useT]
  ·cases x <;> simp [useT, ih e]

theorem look_set (env : Env) (d : Option Nat) (v : AVal) (t : Nat) (h : ∀ x, d = some x → x ≠ t) : look (setE env d v) t = look env t := by
 cases d with
 | none => rfl
 | some x => simp only [setE, look]; rw [if_neg (h x rfl)]

theorem oc_set {kind : Nat} {o : AOper} {env : Env} {d : Option Nat} {v : AVal} (h : ∀ x, d = some x → x ∉ usesK (kind, o)) (s : Sto) : oc call C G rb kind o (setE env d v) s = oc call C G rb kind o env s := by
 have hw : wantedA (setE env d v) o.guard = wantedA env o.guard := by
  unfold wantedA
  cases hg : o.guard with
  | none => rfl
  | some g =>
   obtain ⟨g, b⟩ := g
   simp only
   rw [look_set env d v g (fun x hx e => h x hx (by simp [usesK, uses, hg, e]))]
 have hρ : ∀ x ∈ opds o.op, evOpd G (setE env d v) x = evOpd G env x := fun x hx => by
  cases x with
  | t n => exact look_set env d v n (fun y hy e => h y hy (by simp only [usesK, uses, List.mem_append]; exact .inr (.inr (mem_useT (e ▸ hx)))))
  | c => rfl
  | g => rfl
 unfold oc
 rw [hw]
 cases wantedA env o.guard with
 | none => rfl
 | some b =>
  cases b with
  | false => rfl
  | true =>
   simp only
   match kind with
   | 0 => exact evOp_congr hρ s
   | 1 => simp only [dOp, qOp_congr hρ s]
   | 2 => exact aOpC_congr hρ s
   | 3 => exact stOp_congr hρ s
   | 4 => simp only [dOp, qOp_congr hρ]
   | 5 => simp only [dOp, qOp_congr hρ]
   | k + 6 =>
    have hid : hidI (evOpd G (setE env d v)) (k / 3) = hidI (evOpd G env) (k / 3) := by
     exact congrArg refsL (List.map_congr_left (fun t ht => look_set env d v t (fun y hy e => h y hy (by simp only [usesK, mskT, List.mem_append]; exact .inl (by simpa using e ▸ ht)))))
    simp only [dOp, hid, qOp_congr hρ, evOp_congr hρ]

theorem oc_env {kind : Nat} {o : AOper} {e1 e2 : Env} (h : ∀ t, look e1 t = look e2 t) (s : Sto) : oc call C G rb kind o e1 s = oc call C G rb kind o e2 s := by
 have hρ : evOpd G e1 = evOpd G e2 := by funext x; cases x <;> simp [evOpd, h]
 have hw : wantedA e1 o.guard = wantedA e2 o.guard := by
  unfold wantedA
  cases hg : o.guard with
  | none => rfl
  | some g => simp only [h]
 unfold oc
 rw [hw, hρ]

def QC (Q : St → Prop) : Prop := ∀ e1 e2 s, (∀ t, look e1 t = look e2 t) → Q ⟨e1, s⟩ → Q ⟨e2, s⟩

theorem setE_equiv {e1 e2 : Env} (h : ∀ t, look e1 t = look e2 t) (d : Option Nat) (v : AVal) : ∀ t, look (setE e1 d v) t = look (setE e2 d v) t := by
 intro t
 cases d with
 | none => exact h t
 | some d =>
  simp only [setE, look]
  split
  ·rfl
  ·exact h t

theorem evOpsD_QC {Q : St → Prop} (hQ : QC Q) : ∀ (l : List (Nat × AOper)), QC (fun st => (evOpsD call C G rb l st).All Q) := by
 intro l
 induction l with
 | nil => exact hQ
 | cons o r ih =>
  intro e1 e2 s he h
  simp only [evOpsD, evOperD_eq, T.bind_assoc, T.bind, T.All_bind] at h ⊢
  rw [← oc_env he]
  exact T.All_mono h (fun x hx => ih _ _ _ (setE_equiv he _ _) hx)

theorem apart1_spec {x y : Nat × AOper} (h : apart1 x y = true) : ∀ d, x.2.dst = some d → d ∉ usesK y ∧ y.2.dst ≠ some d := by
 intro d hd
 simp only [apart1, hd, Bool.and_eq_true, Bool.not_eq_true', List.contains_eq_mem, decide_eq_false_iff_not, bne_iff_ne, ne_eq] at h
 exact h

theorem setE_comm {x y : Nat × AOper} (h : apart1 x y = true) (env : Env) (a b : AVal) : ∀ t, look (setE (setE env x.2.dst a) y.2.dst b) t = look (setE (setE env y.2.dst b) x.2.dst a) t := by
 intro t
 cases hx : x.2.dst with
 | none => rfl
 | some d =>
  cases hy : y.2.dst with
  | none => rfl
  | some e =>
   have : d ≠ e := fun he => (apart1_spec h d hx).2 (he ▸ hy)
   simp only [setE, look]
   by_cases h1 : e = t
   ·subst h1; simp [this]
   ·simp [h1]

theorem get_hide (ids : List Nat) (s : Sto) (i : Nat) : get (hide ids s) i = if ids.contains i then none else get s i := by
 induction s with
 | nil => simp [hide, get]
 | cons x r ih =>
  obtain ⟨j, o⟩ := x
  simp only [hide, List.filter_cons] at ih ⊢
  by_cases hj : ids.contains j = true
  ·rw [hj]
   simp only [Bool.not_true, Bool.false_eq_true, if_false, get]
   rw [ih]
   by_cases hi : j = i
   ·subst hi; rw [if_pos hj, if_pos hj]
   ·rw [if_neg hi]
  ·rw [Bool.not_eq_true] at hj
   rw [hj]
   simp only [Bool.not_false, if_true, get]
   by_cases hi : j = i
   ·subst hi; simp only [if_true, hj, Bool.false_eq_true, if_false]
   ·rw [if_neg hi, if_neg hi, ih]

theorem hide_sub (ids : List Nat) {s s' : Sto} (h : Sub s s') : Sub (hide ids s) (hide ids s') := by
 intro i o ho
 rw [get_hide] at ho ⊢
 split at ho
 ·cases ho
 ·rename_i hc; rw [if_neg hc]; exact h i o ho

theorem hide_le (ids : List Nat) (s : Sto) : Sub (hide ids s) s := by
 intro i o ho
 rw [get_hide] at ho
 split at ho
 ·cases ho
 ·exact ho

theorem hide_put {ids : List Nat} {i : Nat} (h : i ∈ ids) (s : Sto) (o : Obj) : hide ids (put s i o) = hide ids s := by
 induction s with
 | nil => rfl
 | cons x r ih =>
  obtain ⟨j, o'⟩ := x
  simp only [put]
  split
  ·rename_i hj; subst hj; simp [hide, h]
  ·simp only [hide, List.filter_cons] at ih ⊢; rw [ih]

theorem stOp_spec {ρ : Opd → AVal} {s : Sto} {op : AOp} {Q : AVal × Sto → Prop} (hna : isApp op = false) (h : (stOp ρ s op).All Q) : ∃ sz x v id ver off o, op = .st sz x v ∧ ρ x = .ptr id ver off ∧ stOp ρ s op = .ret (undefA, put s id o) ∧ opFn ρ s op = .ret (undefA, put s id o) := by
 unfold stOp at h
 split at h
 ·rename_i sz x v
  split at h
  ·rename_i id ver off vs hx hv
   split at h
   ·rename_i hp
    have key : ∃ o, opFn ρ s (.st sz x v) = .ret (undefA, put s id o) := by
     cases hs1 : storeA s sz (ρ x) (ρ v) with
     | none => simp only [opFn, hs1] at h; exact h.elim
     | some s1 =>
      have : ∃ o, s1 = put s id o := by
       simp only [storeA, hx, hv] at hs1
       split at hs1
       ·cases hs1
       ·split at hs1
        ·rename_i cs vr es hg
         split at hs1
         ·unfold plain at hp
          rw [hg] at hp
          simp only [Bool.or_false] at hp
          obtain ⟨ps, hps⟩ := Option.isSome_iff_exists.1 hp
          simp only [hps] at hs1
          cases hs1
          exact ⟨_, rfl⟩
         ·cases hs1
        ·split at hs1
         ·cases hs1; exact ⟨_, rfl⟩
         ·cases hs1
        ·cases hs1
      obtain ⟨o, rfl⟩ := this
      exact ⟨o, by simp only [opFn, hs1]⟩
    obtain ⟨o, ho⟩ := key
    refine ⟨sz, x, v, id, ver, off, o, rfl, hx, ?_, ho⟩
    simp only [stOp, hx, hv, hp, if_true]
    exact ho
   ·exact h.elim
  ·exact h.elim
 ·cases hna
 ·cases hna
 ·exact h.elim

theorem stOp_sound {ρ : Opd → AVal} {s : Sto} {op : AOp} {Q : AVal × Sto → Prop} (h : (stOp ρ s op).All Q) : (evOp call C ρ s op).All Q := by
 cases ha : isApp op with
 | false =>
  obtain ⟨sz, x, v, id, ver, off, o, rfl, hx, h1, h2⟩ := stOp_spec ha h
  rw [h1] at h
  simp only [evOp, h2]
  exact h
 | true =>
  cases op <;> first | cases ha | skip
  ·simp only [stOp] at h
   split at h
   ·exact h
   ·exact h.elim
  ·exact h

theorem get_filterK (p : Nat → Bool) (s : Sto) (i : Nat) : get (s.filter fun x => p x.1) i = if p i then get s i else none := by
 induction s with
 | nil => simp [get]
 | cons x r ih =>
  obtain ⟨j, o⟩ := x
  simp only [List.filter_cons]
  by_cases hj : p j = true
  ·rw [if_pos hj]
   simp only [get, ih]
   by_cases hi : j = i
   ·subst hi; simp [hj]
   ·simp [hi]
  ·rw [if_neg hj, ih]
   simp only [get]
   by_cases hi : j = i
   ·subst hi; simp [hj]
   ·simp [hi]

theorem get_boxes (s : Sto) (i : Nat) : get (boxes s) i = if isBox s i then get s i else none := get_filterK (isBox s) s i

theorem boxes_le (s : Sto) : Sub (boxes s) s := fun i o ho => by
 rw [get_boxes] at ho
 split at ho
 ·exact ho
 ·cases ho

theorem boxes_sub' {s s' : Sto} (h : ∀ i cs, get s i = some (.box cs) → get s' i = some (.box cs)) : Sub (boxes s) (boxes s') := fun i o ho => by
 rw [get_boxes] at ho ⊢
 split at ho
 ·rename_i hb
  unfold isBox at hb
  split at hb
  ·rename_i cs hg
   rw [hg] at ho
   cases ho
   have := h i cs hg
   unfold isBox
   rw [this]
   rfl
  ·cases hb
 ·cases ho

theorem boxes_sub {s s' : Sto} (h : Sub s s') : Sub (boxes s) (boxes s') := boxes_sub' (fun i _ hg => h i _ hg)

theorem get_onlyI (ids : List Nat) (s : Sto) (i : Nat) : get (onlyI ids s) i = if ids.contains i then get s i else none := get_filterK (fun i => ids.contains i) s i
theorem only_le (ids : List Nat) (s : Sto) : Sub (onlyI ids s) s := fun i o ho => by
 rw [get_onlyI] at ho
 split at ho
 ·exact ho
 ·cases ho
theorem only_sub' {ids : List Nat} {s s' : Sto} (h : ∀ i ∈ ids, get s i = get s' i) : Sub (onlyI ids s) (onlyI ids s') := fun i o ho => by
 rw [get_onlyI] at ho ⊢
 split at ho
 ·rename_i hc; rw [if_pos hc, ← h i (by simpa using hc)]; exact ho
 ·cases ho
theorem only_sub (ids : List Nat) {s s' : Sto} (h : Sub s s') : Sub (onlyI ids s) (onlyI ids s') := fun i o ho => by
 rw [get_onlyI] at ho ⊢
 split at ho
 ·rename_i hc; rw [if_pos hc]; exact h i o ho
 ·cases ho

mutual
theorem sameP_eq : ∀ {a b : PVal}, sameP a b = true → a = b := by
 intro a b h
 cases a <;> cases b <;> simp only [sameP, Bool.and_eq_true, decide_eq_true_eq, Bool.false_eq_true] at h
 ·rw [h.1, h.2]
 ·rw [h]
 ·rw [h.1, h.2]
 ·rw [h]
 ·rfl
 ·rfl
 ·rfl
 ·rfl
 ·rfl
 ·rw [samePs_eq h.1, h.2]
 ·rw [samePs_eq h]
 ·rw [h.1, samePs_eq h.2.1, samePs_eq h.2.2]
 ·rw [samePs_eq h.1, samePs_eq h.2]
 ·rw [h.1, sameP_eq h.2]
theorem samePs_eq : ∀ {a b : List PVal}, samePs a b = true → a = b := by
 intro a b h
 cases a with
 | nil => cases b <;> simp [samePs] at h ⊢
 | cons x r =>
  cases b with
  | nil => simp [samePs] at h
  | cons y q =>
   simp only [samePs, Bool.and_eq_true] at h
   rw [sameP_eq h.1, samePs_eq h.2]
end
theorem sameC_eq : ∀ {a b : List AVal}, sameC a b = true → a = b := by
 intro a
 induction a with
 | nil => intro b h; cases b <;> simp [sameC] at h ⊢
 | cons x r ih =>
  intro b h
  cases b with
  | nil => cases x <;> simp [sameC] at h
  | cons y q =>
   cases x <;> cases y <;> simp only [sameC, Bool.and_eq_true, Bool.false_eq_true] at h
   rw [sameP_eq h.1, ih h.2]
theorem sameO_eq {a b : Obj} (h : sameO a b = true) : a = b := by
 cases a <;> cases b <;> simp only [sameO, Bool.and_eq_true, decide_eq_true_eq, Bool.false_eq_true] at h
 ·rw [samePs_eq h.1.1, h.1.2, h.2]
 ·rw [sameC_eq h]
theorem keptB_spec {ids : List Nat} {s s' : Sto} (h : keptB ids s s' = true) : ∀ i ∈ ids, get s i = get s' i := by
 intro i hi
 have := List.all_eq_true.1 h i hi
 split at this
 ·rename_i a b h1 h2; rw [h1, h2, sameO_eq this]
 ·rename_i h1 h2; rw [h1, h2]
 ·cases this

theorem oc_quiet {o : AOper} {env : Env} {k : Nat} (hk : isQ k = true) : ∃ u : Sto → T AVal, (∀ s, oc call C G rb k o env s = (u s).bind fun a => .ret (a, s)) ∧ (∀ s s' K, Sub s s' → (u s).All K → (u s').All K) ∧
  (isS (k, o) = true → ∀ s s' K, (u s).All K → (u s').All K) := by
 cases hw : wantedA env o.guard with
 | none => exact ⟨fun _ => .fail, fun s => by simp only [oc, hw]; rfl, fun _ _ _ _ h => h, fun _ _ _ _ h => h⟩
 | some b =>
  cases b with
  | false => exact ⟨fun _ => .ret undefA, fun s => by simp only [oc, hw]; rfl, fun _ _ _ _ h => h, fun _ _ _ _ h => h⟩
  | true =>
   match k, hk with
   | 1, _ => exact ⟨fun s => qOp call C (evOpd G env) s o.op, fun s => by simp only [oc, hw, dOp], fun s s' K h hq => qOp_sub h hq, fun hp s s' K hq => qOp_P (by simpa [isS] using hp) hq s'⟩
   | 4, _ => exact ⟨fun s => qOp call C (evOpd G env) (boxes s) o.op, fun s => by simp only [oc, hw, dOp], fun s s' K h hq => qOp_sub (boxes_sub h) hq, fun hp s s' K hq => qOp_P (by simpa [isS] using hp) hq _⟩
   | 5, _ => exact ⟨fun _ => qOp call C (evOpd G env) [] o.op, fun s => by simp only [oc, hw, dOp], fun _ _ _ _ hq => hq, fun _ _ _ _ hq => hq⟩
   | k + 6, hk =>
    by_cases h0 : k % 3 = 0
    ·exact ⟨fun s => qOp call C (evOpd G env) (hide (hidI (evOpd G env) (k / 3)) s) o.op, fun s => by simp only [oc, hw, dOp, if_pos h0], fun s s' K h hq => qOp_sub (hide_sub _ h) hq, fun hp s s' K hq => qOp_P (by simpa [isS] using hp) hq _⟩
    ·by_cases h1 : k % 3 = 1
     ·exact ⟨fun s => qOp call C (evOpd G env) (onlyI (hidI (evOpd G env) (k / 3)) s) o.op, fun s => by simp only [oc, hw, dOp, if_neg h0, if_pos h1], fun s s' K h hq => qOp_sub (only_sub _ h) hq, fun hp s s' K hq => qOp_P (by simpa [isS] using hp) hq _⟩
     ·exfalso
      have h2 : k % 3 = 2 := by omega
      simp [isQ, isKeep, h2] at hk

theorem oc_hid {o : AOper} {env : Env} {k : Nat} (hk : isH k = true) : ∃ u : Sto → T AVal, (∀ s, oc call C G rb k o env s = (u s).bind fun a => .ret (a, s)) ∧ (∀ s s', hide (hidI (evOpd G env) ((k - 6) / 3)) s = hide (hidI (evOpd G env) ((k - 6) / 3)) s' → u s = u s') := by
 simp only [isH, Bool.and_eq_true, decide_eq_true_eq, beq_iff_eq] at hk
 obtain ⟨h6, h0⟩ := hk
 obtain ⟨q, rfl⟩ : ∃ q, k = q + 6 := ⟨k - 6, by omega⟩
 have e6 : q + 6 - 6 = q := by omega
 rw [e6] at h0
 try rw [e6]
 cases hw : wantedA env o.guard with
 | none => exact ⟨fun _ => .fail, fun s => by simp only [oc, hw]; rfl, fun _ _ _ => rfl⟩
 | some b =>
  cases b with
  | false => exact ⟨fun _ => .ret undefA, fun s => by simp only [oc, hw]; rfl, fun _ _ _ => rfl⟩
  | true => exact ⟨fun s => qOp call C (evOpd G env) (hide (hidI (evOpd G env) (q / 3)) s) o.op, fun s => by simp only [oc, hw, dOp, if_pos h0], fun s s' h => by simp only [h]⟩

theorem oc_only {o : AOper} {env : Env} {k : Nat} (hk : isOnly k = true) : ∃ u : Sto → T AVal, (∀ s, oc call C G rb k o env s = (u s).bind fun a => .ret (a, s)) ∧
  (∀ s s' K, (∀ i ∈ hidI (evOpd G env) ((k - 6) / 3), get s i = get s' i) → (u s).All K → (u s').All K) := by
 simp only [isOnly, Bool.and_eq_true, decide_eq_true_eq, beq_iff_eq] at hk
 obtain ⟨h6, h1⟩ := hk
 obtain ⟨q, rfl⟩ : ∃ q, k = q + 6 := ⟨k - 6, by omega⟩
 have e6 : q + 6 - 6 = q := by omega
 rw [e6] at h1
 try rw [e6]
 have h0 : ¬ q % 3 = 0 := by omega
 cases hw : wantedA env o.guard with
 | none => exact ⟨fun _ => .fail, fun s => by simp only [oc, hw]; rfl, fun _ _ _ _ h => h⟩
 | some b =>
  cases b with
  | false => exact ⟨fun _ => .ret undefA, fun s => by simp only [oc, hw]; rfl, fun _ _ _ _ h => h⟩
  | true => exact ⟨fun s => qOp call C (evOpd G env) (onlyI (hidI (evOpd G env) (q / 3)) s) o.op, fun s => by simp only [oc, hw, dOp, if_neg h0, if_pos h1], fun s s' K h hq => qOp_sub (only_sub' h) hq⟩

theorem oc_keep {o : AOper} {env : Env} {k : Nat} {s : Sto} {Q : AVal × Sto → Prop} (hk : isKeep k = true) (h : (oc call C G rb k o env s).All Q) :
  (oc call C G rb k o env s).All (fun x => Q x ∧ ∀ i ∈ hidI (evOpd G env) ((k - 6) / 3), get s i = get x.2 i) := by
 simp only [isKeep, Bool.and_eq_true, decide_eq_true_eq, beq_iff_eq] at hk
 obtain ⟨h6, h2⟩ := hk
 obtain ⟨q, rfl⟩ : ∃ q, k = q + 6 := ⟨k - 6, by omega⟩
 have e6 : q + 6 - 6 = q := by omega
 rw [e6] at h2
 try rw [e6]
 have h0 : ¬ q % 3 = 0 := by omega
 have h1 : ¬ q % 3 = 1 := by omega
 unfold oc at h ⊢
 cases hw : wantedA env o.guard with
 | none => rw [hw] at h; exact h.elim
 | some b =>
  rw [hw] at h
  cases b with
  | false => exact ⟨h, fun _ _ => rfl⟩
  | true =>
   simp only [dOp, if_neg h0, if_neg h1, T.All_bind] at h ⊢
   refine T.All_mono h (fun x hx => ?_)
   split at hx
   ·rename_i hkb
    rw [if_pos hkb]
    exact ⟨hx, keptB_spec hkb⟩
   ·exact hx.elim

theorem mem_refsL {l : List AVal} {a : AVal} {i : Nat} (h : a ∈ l) (hi : i ∈ refs a) : i ∈ refsL l := by
 induction l with
 | nil => cases h
 | cons x r ih =>
  simp only [refsL, List.mem_append]
  rcases List.mem_cons.1 h with e | e
  ·subst e; exact .inl hi
  ·exact .inr (ih e)

theorem oc_st {y : Nat × AOper} {x : Nat × AOper} {env : Env} {s : Sto} {Q : AVal × Sto → Prop} (hb : hidBy x y = true) (h : (oc call C G rb y.1 y.2 env s).All Q) :
  (oc call C G rb y.1 y.2 env s).All (fun b => Q b ∧ hide (hidI (evOpd G env) ((x.1 - 6) / 3)) b.2 = hide (hidI (evOpd G env) ((x.1 - 6) / 3)) s) := by
 obtain ⟨ky, y⟩ := y
 unfold hidBy at hb
 split at hb
 ·rename_i sz a v hop
  simp only [Bool.and_eq_true, beq_iff_eq, decide_eq_true_eq, List.contains_eq_mem] at hb
  obtain ⟨⟨rfl, hx4⟩, ha⟩ := hb
  simp only at hop
  unfold oc at h ⊢
  split at h
  ·exact h.elim
  ·exact ⟨h, rfl⟩
  ·simp only [dOp] at h ⊢
   obtain ⟨sz', x', v', id, ver, off, o, e, hx, h1, h2⟩ := stOp_spec (by rw [hop]; rfl) h
   rw [hop] at e
   cases e
   rw [h1] at h ⊢
   refine ⟨h, hide_put ?_ _ _⟩
   refine mem_refsL (List.mem_map.2 ⟨a, ha, rfl⟩) ?_
   rw [hx]; simp [refs]
 ·cases hb

theorem oc_sub {o : AOper} {env : Env} {s : Sto} {Q : AVal × Sto → Prop} (h : (oc call C G rb 2 o env s).All Q) : (oc call C G rb 2 o env s).All (fun x => Q x ∧ Sub s x.2) := by
 unfold oc at h ⊢
 split at h
 ·exact h.elim
 ·exact ⟨h, Sub.refl s⟩
 ·exact aOpC_sub h

theorem oc_box {o : AOper} {env : Env} : ∃ u : Sto → T AVal, (∀ s, oc call C G rb 4 o env s = (u s).bind fun a => .ret (a, s)) ∧ (∀ s s' K, Sub (boxes s) (boxes s') → (u s).All K → (u s').All K) := by
 cases hw : wantedA env o.guard with
 | none => exact ⟨fun _ => .fail, fun s => by simp only [oc, hw]; rfl, fun _ _ _ _ h => h⟩
 | some b =>
  cases b with
  | false => exact ⟨fun _ => .ret undefA, fun s => by simp only [oc, hw]; rfl, fun _ _ _ _ h => h⟩
  | true => exact ⟨fun s => qOp call C (evOpd G env) (boxes s) o.op, fun s => by simp only [oc, hw, dOp], fun s s' K h hq => qOp_sub h hq⟩

theorem oc_app {o : AOper} {env : Env} {s : Sto} {Q : AVal × Sto → Prop} (ha : isApp o.op = true) (h : (oc call C G rb 3 o env s).All Q) : (oc call C G rb 3 o env s).All (fun x => Q x ∧ Sub (boxes s) (boxes x.2) ∧ Sub (boxes x.2) (boxes s)) := by
 have refl : ∀ s : Sto, Sub s s := Sub.refl
 have hop' : (∃ es bytes z x y, o.op = .app es bytes z x y) ∨ ∃ es bytes z x y, o.op = .appk es bytes z x y := by
  cases hh : o.op with
  | app es bytes z x y => exact .inl ⟨_, _, _, _, _, rfl⟩
  | appk es bytes z x y => exact .inr ⟨_, _, _, _, _, rfl⟩
  | _ => rw [hh] at ha; cases ha
 unfold oc at h ⊢
 rcases hop' with ⟨es, bytes, z, x, y, hop⟩ | ⟨es, bytes, z, x, y, hop⟩
 rotate_left
 ·split at h
  ·exact h.elim
  ·exact ⟨h, refl _, refl _⟩
  ·simp only [dOp, hop, stOp, opFn] at h ⊢
   split at h
   ·rename_i id ver off n hx
    split at h
    ·rename_i ys m hs
     split at h
     ·rename_i cs v e hg0
      split at h
      ·rename_i hc
       rw [if_pos hc]
       split at h
       ·rename_i hm; rw [if_pos hm]; exact ⟨h, refl _, refl _⟩
       ·rename_i hm
        rw [if_neg hm]
        refine ⟨h, boxes_sub' (fun i cs' hg => ?_), boxes_sub' (fun i cs' hg => ?_)⟩
        ·simp only [get_put]
         split
         ·rename_i e; subst e; rw [hg0] at hg; cases hg
         ·exact hg
        ·simp only [get_put] at hg
         split at hg
         ·rename_i e; subst e; rw [hg0] at hg; cases hg
         ·exact hg
      ·exact h.elim
     ·exact h.elim
    ·exact h.elim
   ·exact h.elim
 split at h
 ·exact h.elim
 ·exact ⟨h, refl _, refl _⟩
 ·simp only [dOp, hop, stOp] at h ⊢
  split at h
  ·rename_i hf
   obtain ⟨h0, _⟩ := fresh_spec hf
   rw [if_pos hf]
   simp only [opFn] at h ⊢
   cases hs : sliceOf s es (evOpd G env y) with
   | none => simp only [hs] at h; exact h.elim
   | some q =>
    obtain ⟨ys, m⟩ := q
    simp only [hs] at h ⊢
    split at h
    ·rename_i hx
     split at h
     ·rename_i hm; simp only [hm, if_true]; exact ⟨h, refl _, refl _⟩
     ·rename_i hm
      rw [if_neg hm]
      split at h
      ·rename_i hc
       rw [if_pos hc]
       refine ⟨h, boxes_sub' (fun i cs hg => sub_new h0 _ i _ hg), boxes_sub' (fun i cs hg => ?_)⟩
       simp only [get_new] at hg
       split at hg
       ·cases hg
       ·exact hg
      ·exact h.elim
    ·rename_i id ver off n hx
     split at h
     ·rename_i cs v e hg0
      split at h
      ·rename_i hc
       rw [if_pos hc]
       split at h
       ·rename_i hm; rw [if_pos hm]; exact ⟨h, refl _, refl _⟩
       ·rename_i hm
        rw [if_neg hm]
        refine ⟨h, boxes_sub' (fun i cs' hg => ?_), boxes_sub' (fun i cs' hg => ?_)⟩
        ·simp only [get_put]
         split
         ·rename_i e; subst e; rw [hg0] at hg; cases hg
         ·exact hg
        ·simp only [get_put] at hg
         split at hg
         ·rename_i e; subst e; rw [hg0] at hg; cases hg
         ·exact hg
      ·exact h.elim
     ·exact h.elim
    ·exact h.elim
  ·exact h.elim

theorem hidI_sub {ρ : Opd → AVal} {a b : Nat} (h : ∀ t ∈ mskT a, t ∈ mskT b) : ∀ i ∈ hidI ρ ((a - 6) / 3), i ∈ hidI ρ ((b - 6) / 3) := by
 intro i hi
 have key : ∀ (l l' : List AVal), (∀ x ∈ l, x ∈ l') → ∀ i ∈ refsL l, i ∈ refsL l' := by
  intro l l' hl i hi
  induction l with
  | nil => simp [refsL] at hi
  | cons x r ih =>
   simp only [refsL, List.mem_append] at hi
   rcases hi with e | e
   ·exact mem_refsL (hl x (by simp)) e
   ·exact ih (fun y hy => hl y (by simp [hy])) e
 refine key _ _ (fun x hx => ?_) i hi
 obtain ⟨t, ht, rfl⟩ := List.mem_map.1 hx
 exact List.mem_map.2 ⟨t, h t ht, rfl⟩

theorem put_ins {s : Sto} {i k : Nat} {o p : Obj} (hk : get s k = none) (hi : i ≠ k) : put (ins s k p) i o = ins (put s i o) k p := by
 induction s with
 | nil => simp only [ins, put, if_neg (Ne.symm hi)]
 | cons x r ih =>
  obtain ⟨j, q⟩ := x
  simp only [get] at hk
  split at hk
  ·cases hk
  ·rename_i hj
   by_cases h1 : j < k
   ·simp only [ins, if_pos h1, put, if_neg (Ne.symm hi)]
    by_cases h2 : j = i
    ·simp only [if_pos h2, ins, if_pos h1]
    ·simp only [if_neg h2, ins, if_pos h1]
   ·simp only [ins, if_neg h1, put]
    by_cases h2 : j = i
    ·simp only [if_pos h2, ins, if_neg h1]
    ·simp only [if_neg h2, ins, if_neg h1, ih hk]

theorem appk_det {ρ : Opd → AVal} {s : Sto} {es bytes : Nat} {z : List AVal} {x y : Opd} {Q : AVal × Sto → Prop} (h : (opFn ρ s (.appk es bytes z x y)).All Q) :
  ∃ a s', opFn ρ s (.appk es bytes z x y) = .ret (a, s') ∧ (∀ k, get s' k = none → get s k = none) ∧ ∀ k p, get s k = none → opFn ρ (ins s k p) (.appk es bytes z x y) = .ret (a, ins s' k p) := by
 simp only [opFn] at h ⊢
 split at h
 ·rename_i id ver off n hx
  split at h
  ·rename_i ys m hs
   split at h
   ·rename_i cs v e hg
    split at h
    ·rename_i hc
     have hsub : ∀ k p, get s k = none → sliceOf (ins s k p) es (ρ y) = some (ys, m) := fun k p hk => sliceOf_sub (ins_sub hk p) hs
     have hget : ∀ k p, get s k = none → get (ins s k p) id = some (.arr cs v e) := fun k p hk => by
      rw [get_ins hk]
      split
      ·rename_i e1; subst e1; rw [hk] at hg; cases hg
      ·exact hg
     by_cases hm : m = 0
     ·refine ⟨.sl id ver 0 n, s, ?_, fun k h => h, fun k p hk => ?_⟩
      ·simp only [if_pos hc, if_pos hm]; rfl
      ·simp only [hsub k p hk, hget k p hk, if_pos hc, if_pos hm]; rfl
     ·refine ⟨.sl id (ver + 1) 0 (n + m), put s id (.arr (cs ++ ys) (ver + 1) es), ?_, fun k h => ?_, fun k p hk => ?_⟩
      ·simp only [if_pos hc, if_neg hm]
      ·rw [get_put] at h
       split at h
       ·rename_i e1
        cases hk : get s k with
        | none => rfl
        | some o => rw [hk] at h; cases h
       ·exact h
      ·have hne : id ≠ k := fun e1 => by subst e1; rw [hk] at hg; cases hg
       simp only [hsub k p hk, hget k p hk, if_pos hc, if_neg hm]
       rw [put_ins hk hne]
    ·exact h.elim
   ·exact h.elim
  ·exact h.elim
 ·exact h.elim

theorem swap_ok {x y : Nat × AOper} (h : okSwap x y = true) {Q : St → Prop} (hQ : QC Q) {st : St} (hq : (evOperD call C G rb x.1 x.2 st).All (fun st => (evOperD call C G rb y.1 y.2 st).All Q)) :
  (evOperD call C G rb y.1 y.2 st).All (fun st => (evOperD call C G rb x.1 x.2 st).All Q) := by
 obtain ⟨env, s⟩ := st
 simp only [okSwap, apart, Bool.and_eq_true] at h
 obtain ⟨⟨h1, h2⟩, h3⟩ := h
 simp only [evOperD_eq, T.All_bind, T.All] at hq ⊢
 have hx : ∀ b s, oc call C G rb x.1 x.2 (setE env y.2.dst b) s = oc call C G rb x.1 x.2 env s := fun b s => oc_set (fun d hd => (apart1_spec h2 d hd).1) s
 have hy : ∀ a s, oc call C G rb y.1 y.2 (setE env x.2.dst a) s = oc call C G rb y.1 y.2 env s := fun a s => oc_set (fun d hd => (apart1_spec h1 d hd).1) s
 simp only [hx]
 simp only [hy] at hq
 have hQ' : ∀ a b s, Q ⟨setE (setE env x.2.dst a) y.2.dst b, s⟩ → Q ⟨setE (setE env y.2.dst b) x.2.dst a, s⟩ := fun a b s => hQ _ _ s (setE_comm h1 env a b)
 simp only [Bool.or_eq_true, Bool.and_eq_true] at h3
 rcases h3 with ((((((((⟨hkx, h3⟩ | ⟨hky, h3⟩) | h3) | h3) | h3) | h3) | h3) | h3) | h3) | h3
 ·obtain ⟨u, u1, u2, u3⟩ := oc_quiet (rb := rb) (call := call) (C := C) (G := G) (o := x.2) (env := env) hkx
  simp only [u1, T.All_bind, T.All] at hq ⊢
  have hc := T.All_comm hq
  rcases h3 with (hky | hky) | hp
  ·obtain ⟨v, v1, v2, v3⟩ := oc_quiet (rb := rb) (call := call) (C := C) (G := G) (o := y.2) (env := env) hky
   simp only [v1, T.All_bind, T.All] at hc ⊢
   exact T.All_mono hc (fun b hb => T.All_mono hb (fun a ha => hQ' a b s ha))
  ·have hky : y.1 = 2 := by simpa using hky
   rw [hky] at hc ⊢
   exact T.All_mono (oc_sub hc) (fun b ⟨hb, hs⟩ => u2 _ _ _ hs (T.All_mono hb (fun a ha => hQ' a b.1 b.2 ha)))
  ·exact T.All_mono hc (fun b hb => u3 hp _ _ _ (T.All_mono hb (fun a ha => hQ' a b.1 b.2 ha)))
 ·obtain ⟨v, v1, v2, v3⟩ := oc_quiet (rb := rb) (call := call) (C := C) (G := G) (o := y.2) (env := env) hky
  simp only [v1, T.All_bind, T.All] at hq ⊢
  have : (oc call C G rb x.1 x.2 env s).All (fun a => (v s).All (fun b => Q ⟨setE (setE env x.2.dst a.1) y.2.dst b, a.2⟩)) := T.All_mono hq (fun a ha => v3 h3 _ _ _ ha)
  exact T.All_mono (T.All_comm this) (fun b hb => T.All_mono hb (fun a ha => hQ' a.1 b a.2 ha))
 ·have hx4 : isH x.1 = true := by
   unfold hidBy at h3
   split at h3
   ·simp only [Bool.and_eq_true] at h3; exact h3.1.2
   ·cases h3
  obtain ⟨u, u1, u2⟩ := oc_hid (rb := rb) (call := call) (C := C) (G := G) (o := x.2) (env := env) hx4
  simp only [u1, T.All_bind, T.All] at hq ⊢
  have hc := T.All_comm hq
  exact T.All_mono (oc_st h3 hc) (fun b ⟨hb, hs⟩ => by rw [u2 _ _ hs]; exact T.All_mono hb (fun a ha => hQ' a b.1 b.2 ha))
 ·have hy4 : isH y.1 = true := by
   unfold hidBy at h3
   split at h3
   ·simp only [Bool.and_eq_true] at h3; exact h3.1.2
   ·cases h3
  obtain ⟨v, v1, v2⟩ := oc_hid (rb := rb) (call := call) (C := C) (G := G) (o := y.2) (env := env) hy4
  simp only [v1, T.All_bind, T.All] at hq ⊢
  have : (oc call C G rb x.1 x.2 env s).All (fun a => (v s).All (fun b => Q ⟨setE (setE env x.2.dst a.1) y.2.dst b, a.2⟩)) := T.All_mono (oc_st h3 hq) (fun a ⟨ha, hs⟩ => by rw [← v2 _ _ hs]; exact ha)
  exact T.All_mono (T.All_comm this) (fun b hb => T.All_mono hb (fun a ha => hQ' a.1 b a.2 ha))
 ·obtain ⟨kx, x⟩ := x
  obtain ⟨ky, y⟩ := y
  unfold resPair at h3
  split at h3
  ·rename_i i j hx1 hy1
   simp only [Bool.and_eq_true, beq_iff_eq, bne_iff_ne, ne_eq] at h3 hx1 hy1
   obtain ⟨⟨rfl, rfl⟩, hij⟩ := h3
   -- what each of them does, whichever is first
   have hox : ∀ s, oc call C G rb 2 x env s = match wantedA env x.guard with
     | none => .fail
     | some false => .ret (undefA, s)
     | some true => aOpC call C rb (evOpd G env) s x.op := fun s => by
    unfold oc
    cases wantedA env x.guard with
    | none => rfl
    | some b => cases b <;> simp only [dOp]
   have hoy : ∀ s, oc call C G rb 2 y env s = match wantedA env y.guard with
     | none => .fail
     | some false => .ret (undefA, s)
     | some true => aOpC call C rb (evOpd G env) s y.op := fun s => by
    unfold oc
    cases wantedA env y.guard with
    | none => rfl
    | some b => cases b <;> simp only [dOp]
   simp only [hox, hoy] at hq ⊢
   cases hwx : wantedA env x.guard with
   | none => rw [hwx] at hq; exact hq.elim
   | some bx =>
    rw [hwx] at hq
    cases bx with
    | false =>
     simp only [T.All] at hq ⊢
     cases hwy : wantedA env y.guard with
     | none => rw [hwy] at hq; exact hq.elim
     | some by_ =>
      rw [hwy] at hq
      cases by_ with
      | false => exact hQ' _ _ _ hq
      | true => exact T.All_mono hq (fun b hb => hQ' _ _ _ hb)
    | true =>
     cases hwy : wantedA env y.guard with
     | none =>
      rw [hwy] at hq
      exact (T.All_false hq).elim
     | some by_ =>
      rw [hwy] at hq
      cases by_ with
      | false =>
       simp only [T.All] at hq ⊢
       exact T.All_mono hq (fun b hb => hQ' _ _ _ hb)
      | true =>
       simp only at hq ⊢
       obtain ⟨tx, x1, x2⟩ := res_spec (call := call) (C := C) (rb := rb) (ρ := evOpd G env) hx1
       obtain ⟨ty, y1, y2⟩ := res_spec (call := call) (C := C) (rb := rb) (ρ := evOpd G env) hy1
       have hne : rb + i ≠ rb + j := by omega
       have g1 := x2 s _ hq
       rw [x1 s g1] at hq
       have k1 : get s (rb + j) = none := by
        cases hk : get s (rb + j) with
        | none => rfl
        | some o =>
         refine (T.All_false (T.All_mono hq (fun a ha => ?_))).elim
         have := y2 _ _ ha
         simp only [get_ins g1, if_neg hne, hk] at this
         cases this
       rw [y1 s k1]
       have hq2 : tx.All (fun a => ty.All (fun b => Q ⟨setE (setE env x.dst a.1) y.dst b.1, ins (ins s (rb + i) a.2) (rb + j) b.2⟩)) := T.All_mono hq (fun a ha => by
        rw [y1 _ (by rw [get_ins g1, if_neg hne]; exact k1)] at ha
        exact ha)
       refine T.All_mono (T.All_comm hq2) (fun b hb => ?_)
       rw [x1 _ (by rw [get_ins k1, if_neg (Ne.symm hne)]; exact g1)]
       refine T.All_mono hb (fun a ha => ?_)
       rw [ins_comm (Ne.symm hne)]
       exact hQ' _ _ _ ha
  ·cases h3
 ·simp only [boxBy, Bool.and_eq_true, beq_iff_eq] at h3
  obtain ⟨⟨hx4, hy0⟩, hya⟩ := h3
  rw [hx4, hy0] at hq ⊢
  obtain ⟨u, u1, u2⟩ := oc_box (rb := rb) (call := call) (C := C) (G := G) (o := x.2) (env := env)
  simp only [u1, T.All_bind, T.All] at hq ⊢
  have hc := T.All_comm hq
  exact T.All_mono (oc_app hya hc) (fun b ⟨hb, hs, _⟩ => u2 _ _ _ hs (T.All_mono hb (fun a ha => hQ' a b.1 b.2 ha)))
 ·simp only [boxBy, Bool.and_eq_true, beq_iff_eq] at h3
  obtain ⟨⟨hy4, hx0⟩, hxa⟩ := h3
  rw [hy4, hx0] at hq ⊢
  obtain ⟨v, v1, v2⟩ := oc_box (rb := rb) (call := call) (C := C) (G := G) (o := y.2) (env := env)
  simp only [v1, T.All_bind, T.All] at hq ⊢
  have : (oc call C G rb 3 x.2 env s).All (fun a => (v s).All (fun b => Q ⟨setE (setE env x.2.dst a.1) y.2.dst b, a.2⟩)) := T.All_mono (oc_app hxa hq) (fun a ⟨ha, _, hs⟩ => v2 _ _ _ hs ha)
  exact T.All_mono (T.All_comm this) (fun b hb => T.All_mono hb (fun a ha => hQ' a.1 b a.2 ha))
 ·simp only [onlyBy, Bool.and_eq_true, List.all_eq_true, List.contains_eq_mem, decide_eq_true_eq] at h3
  obtain ⟨⟨hx4, hy4⟩, hsub⟩ := h3
  have hss := hidI_sub (ρ := evOpd G env) hsub
  obtain ⟨u, u1, u2⟩ := oc_only (rb := rb) (call := call) (C := C) (G := G) (o := x.2) (env := env) hx4
  simp only [u1, T.All_bind, T.All] at hq ⊢
  have hc := T.All_comm hq
  exact T.All_mono (oc_keep hy4 hc) (fun b ⟨hb, hs⟩ => u2 _ _ _ (fun i hi => hs i (hss i hi)) (T.All_mono hb (fun a ha => hQ' a b.1 b.2 ha)))
 ·simp only [onlyBy, Bool.and_eq_true, List.all_eq_true, List.contains_eq_mem, decide_eq_true_eq] at h3
  obtain ⟨⟨hy4, hx4⟩, hsub⟩ := h3
  have hss := hidI_sub (ρ := evOpd G env) hsub
  obtain ⟨v, v1, v2⟩ := oc_only (rb := rb) (call := call) (C := C) (G := G) (o := y.2) (env := env) hy4
  simp only [v1, T.All_bind, T.All] at hq ⊢
  have : (oc call C G rb x.1 x.2 env s).All (fun a => (v s).All (fun b => Q ⟨setE (setE env x.2.dst a.1) y.2.dst b, a.2⟩)) := T.All_mono (oc_keep hx4 hq) (fun a ⟨ha, hs⟩ => v2 _ _ _ (fun i hi => (hs i (hss i hi)).symm) ha)
  exact T.All_mono (T.All_comm this) (fun b hb => T.All_mono hb (fun a ha => hQ' a.1 b a.2 ha))
 ·obtain ⟨kx, x⟩ := x
  obtain ⟨ky, y⟩ := y
  unfold stRes at h3
  split at h3
  ·rename_i es bytes z a b hop
   simp only [Bool.and_eq_true, beq_iff_eq, Option.isSome_iff_exists] at h3 hop
   obtain ⟨⟨rfl, rfl⟩, j, hj⟩ := h3
   have hox : ∀ s, oc call C G rb 3 x env s = match wantedA env x.guard with
     | none => .fail
     | some false => .ret (undefA, s)
     | some true => opFn (evOpd G env) s (.appk es bytes z a b) := fun s => by
    unfold oc
    cases wantedA env x.guard with
    | none => rfl
    | some c => cases c <;> simp only [dOp, hop, stOp]
   have hoy : ∀ s, oc call C G rb 2 y env s = match wantedA env y.guard with
     | none => .fail
     | some false => .ret (undefA, s)
     | some true => aOpC call C rb (evOpd G env) s y.op := fun s => by
    unfold oc
    cases wantedA env y.guard with
    | none => rfl
    | some c => cases c <;> simp only [dOp]
   simp only [hox, hoy] at hq ⊢
   cases hwx : wantedA env x.guard with
   | none => rw [hwx] at hq; exact hq.elim
   | some bx =>
    rw [hwx] at hq
    cases bx with
    | false =>
     simp only [T.All] at hq ⊢
     cases hwy : wantedA env y.guard with
     | none => rw [hwy] at hq; exact hq.elim
     | some by_ =>
      rw [hwy] at hq
      cases by_ with
      | false => exact hQ' _ _ _ hq
      | true => exact T.All_mono hq (fun b hb => hQ' _ _ _ hb)
    | true =>
     simp only at hq
     obtain ⟨r, s', d1, d2, d3⟩ := appk_det hq
     rw [d1] at hq
     simp only [T.All] at hq
     cases hwy : wantedA env y.guard with
     | none => rw [hwy] at hq; exact hq.elim
     | some by_ =>
      rw [hwy] at hq
      cases by_ with
      | false =>
       simp only [T.All] at hq ⊢
       rw [d1]
       exact hQ' _ _ _ hq
      | true =>
       simp only at hq ⊢
       obtain ⟨ty, y1, y2⟩ := res_spec (call := call) (C := C) (rb := rb) (ρ := evOpd G env) hj
       have g' := y2 _ _ hq
       have g := d2 _ g'
       rw [y1 _ g'] at hq
       rw [y1 _ g]
       refine T.All_mono hq (fun c hc => ?_)
       rw [d3 _ _ g]
       exact hQ' _ _ _ hc
  ·rename_i jx es f args hop
   simp only [Bool.and_eq_true, beq_iff_eq] at h3 hop
   obtain ⟨⟨rfl, rfl⟩, h3⟩ := h3
   split at h3
   ·rename_i j hj
    simp only [bne_iff_ne, ne_eq] at h3
    have hox : ∀ s, oc call C G rb 2 x env s = match wantedA env x.guard with
      | none => .fail
      | some false => .ret (undefA, s)
      | some true => cOqr call C (rb + jx) (evOpd G env) s es f args := fun s => by
     unfold oc
     cases wantedA env x.guard with
     | none => rfl
     | some c =>
      cases c with
      | false => rfl
      | true => simp only [dOp, hop, aOpC]
    have hoy : ∀ s, oc call C G rb 2 y env s = match wantedA env y.guard with
      | none => .fail
      | some false => .ret (undefA, s)
      | some true => aOpC call C rb (evOpd G env) s y.op := fun s => by
     unfold oc
     cases wantedA env y.guard with
     | none => rfl
     | some c => cases c <;> simp only [dOp]
    simp only [hox, hoy] at hq ⊢
    cases hwx : wantedA env x.guard with
    | none => rw [hwx] at hq; exact hq.elim
    | some bx =>
     rw [hwx] at hq
     cases bx with
     | false =>
      simp only [T.All] at hq ⊢
      cases hwy : wantedA env y.guard with
      | none => rw [hwy] at hq; exact hq.elim
      | some by_ =>
       rw [hwy] at hq
       cases by_ with
       | false => exact hQ' _ _ _ hq
       | true => exact T.All_mono hq (fun b hb => hQ' _ _ _ hb)
     | true =>
      simp only at hq
      cases hwy : wantedA env y.guard with
      | none =>
       rw [hwy] at hq
       exact (T.All_false hq).elim
      | some by_ =>
       rw [hwy] at hq
       cases by_ with
       | false =>
        simp only [T.All] at hq ⊢
        exact T.All_mono hq (fun b hb => hQ' _ _ _ hb)
       | true =>
        simp only at hq ⊢
        obtain ⟨g1, as, g2, g3⟩ := cOqr_spec hq
        obtain ⟨ty, y1, y2⟩ := res_spec (call := call) (C := C) (rb := rb) (ρ := evOpd G env) hj
        have hne : rb + jx ≠ rb + j := by omega
        have k1 : get s (rb + j) = none := by
         cases hk : get s (rb + j) with
         | none => rfl
         | some o =>
          refine (T.All_false (T.All_mono g3 (fun a ha => ?_))).elim
          have := y2 _ _ ha
          simp only [get_ins g1, if_neg hne, hk] at this
          cases this
        rw [y1 s k1]
        have hq2 := T.All_mono g3 (fun a ha => by
         rw [y1 _ (by rw [get_ins g1, if_neg hne]; exact k1)] at ha
         exact ha)
        refine T.All_mono (T.All_comm hq2) (fun b hb => ?_)
        refine cOqr_of (by rw [get_ins k1, if_neg (Ne.symm hne)]; exact g1) (mapM_mono (fun a b' => purA_sub (ins_sub k1 b.2) false a b') g2) (T.All_mono hb (fun a ha => ?_))
        rw [ins_comm (Ne.symm hne)]
        exact hQ' _ _ _ ha
   ·cases h3
  ·cases h3

theorem front_ok {y : Nat × AOper} {Q : St → Prop} (hQ : QC Q) (l2 : List (Nat × AOper)) : ∀ (l1 : List (Nat × AOper)), (∀ x ∈ l1, okSwap x y = true) → ∀ (st : St), (evOpsD call C G rb (l1 ++ y :: l2) st).All Q →
  (evOperD call C G rb y.1 y.2 st).All (fun st => (evOpsD call C G rb (l1 ++ l2) st).All Q) := by
 intro l1
 induction l1 with
 | nil =>
  intro _ st h
  simp only [List.nil_append, evOpsD, T.All_bind] at h ⊢
  exact h
 | cons x r ih =>
  intro hl st h
  simp only [List.cons_append, evOpsD, T.All_bind] at h ⊢
  have h' : (evOperD call C G rb x.1 x.2 st).All (fun st => (evOperD call C G rb y.1 y.2 st).All (fun st => (evOpsD call C G rb (r ++ l2) st).All Q)) :=
   T.All_mono h (fun st hst => ih (fun z hz => hl z (by simp [hz])) st hst)
  exact swap_ok (hl x (by simp)) (evOpsD_QC hQ _) h'

end
end Fw
end

