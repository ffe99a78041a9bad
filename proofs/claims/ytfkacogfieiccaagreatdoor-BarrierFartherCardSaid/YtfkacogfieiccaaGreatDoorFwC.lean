/- The evaluator and its soundness, a part: what an operation of the language does to values without addresses; no condition. -/
import Derived.Test.YtfkacogfieiccaaGreatDoorFwB
import Derived.AtR
import Derived.Orders
import Derived.ProofKit
import Derived.OpenShut
import Derived.Carry
import Derived.LaidMore
import Derived.LaidHandle
import Derived.FnData
import Derived.Stop.Joined
import Derived.Lib.Join
import Derived.Laws.BitsLemmas
import Derived.Lib.Bytealg
import Derived.Lib.ItoaNum
import Derived.Lib.LaidTab
import Derived.Sort.Grow
import Derived.Deep.Draws
section
/-
  New variables under numbers of their own.
-/
namespace Fw
open Go

theorem mem_ins {s : Sto} {i : Nat} {o : Obj} {x : Nat × Obj} (h : x ∈ ins s i o) : x = (i, o) ∨ x ∈ s := by
 induction s with
 | nil => simp [ins] at h; exact .inl h
 | cons y r ih =>
  obtain ⟨k, p⟩ := y
  simp only [ins] at h
  split at h
  ·rcases List.mem_cons.1 h with e | e
   ·exact .inl e
   ·exact .inr e
  ·rcases List.mem_cons.1 h with e | e
   ·exact .inr (e ▸ List.mem_cons_self)
   ·rcases ih e with e | e
    ·exact .inl e
    ·exact .inr (List.mem_cons_of_mem _ e)

theorem keysDesc_ins {s : Sto} (hs : keysDesc s) {i : Nat} (h : get s i = none) (o : Obj) : keysDesc (ins s i o) := by
 induction s with
 | nil => simp [ins, keysDesc]
 | cons y r ih =>
  obtain ⟨k, p⟩ := y
  simp only [get] at h
  split at h
  ·cases h
  ·rename_i hk
   simp only [ins]
   split
   ·rename_i hlt
    refine ⟨fun x hx => ?_, hs⟩
    rcases List.mem_cons.1 hx with e | e
    ·subst e; exact hlt
    ·have := hs.1 x e; omega
   ·refine ⟨fun x hx => ?_, ih hs.2 h⟩
    rcases mem_ins hx with e | e
    ·subst e; simp only; omega
    ·exact hs.1 x e

section
variable (CM : Nat → Code → ACode → Prop)
variable {CM}

theorem Own.newAt {m : Mem} {s : Sto} {k : Nat} (hq : get s k = none) {o : Obj} {x : Option (Nat × Nat)} {b : Nat} (h : Own (upd m (k) x) (ins s k o) b) : Own m s b ∨ ∃ z, x = some (b, z) := by
 obtain ⟨i, p, z, h1, h2, h3⟩ := h
 rw [get_ins hq] at h1
 split at h1
 ·rename_i e; subst e; rw [upd_same] at h3; exact .inr ⟨z, h3⟩
 ·rename_i e; rw [upd_ne _ _ (Ne.symm e)] at h3; exact .inl ⟨i, p, z, h1, h2, h3⟩

theorem SRep.newAt {base : Nat} {Im0 : Nat → Prop} {w w' : World} {m : Mem} {s : Sto} (h : SRep CM base Im0 w m s) {k : Nat} (hq : get s k = none) (e : Ext w w') (hbase : base ≤ w.heap.size) (o : Obj) (x : Option (Nat × Nat))
  (hx : ∀ b z, x = some (b, z) → w.heap.size ≤ b ∧ b < w'.heap.size)
  (ho : ∀ I' m' s', Keeps w (Im base Im0 m s) w' I' → KeepsO m s m' s' → get s' (k) = some o → m' (k) = x → (∀ b z, x = some (b, z) → mutO o = false → I' b) → ORep CM w' I' m' s' (k) o) :
  SRep CM base Im0 w' (upd m (k) x) (ins s k o) ∧ (∀ lo, Evo lo w m s w' (upd m (k) x) (ins s k o)) := by
 have hko : KeepsO m s (upd m (k) x) (ins s k o) := fun i p hg => by
  have : i ≠ k := fun e => by subst e; rw [hq] at hg; cases hg
  exact ⟨p, by rw [get_ins hq, if_neg (Ne.symm this)]; exact hg, rfl, rfl, Nat.le_refl _, fun _ => ⟨upd_ne _ _ this, rfl⟩⟩
 have hev : ∀ lo, Evo lo w m s w' (upd m (k) x) (ins s k o) := fun lo =>
  ⟨e.os, e.tape, e.output, e.size, fun _ _ hb _ => e.heap hb, fun b hb hw => by
   rcases Own.newAt hq hw with hw | ⟨z, hz⟩
   ·exact hw
   ·have := (hx b z hz).1; omega, fun i _ p hg => hko i p hg, fun _ lp hb => ⟨lp, e.heap hb⟩⟩
 refine ⟨⟨keysDesc_ins h.keys hq o, fun i p hg => ?_, fun i j p q b z z' hi hj hmi hmj => ?_, fun i p b z hi hm => ?_⟩, hev⟩
 ·rw [get_ins hq] at hg
  split at hg
  ·rename_i e1; subst e1; cases hg
   refine ho _ _ _ (hev 0).keeps hko (by rw [get_ins hq, if_pos rfl]) (upd_same _ _ _) (fun b z hz hmu => ⟨fun hlt => absurd (hx b z hz).1 (by omega), fun hw => ?_⟩)
   obtain ⟨i, q, z', g1, g2, g3⟩ := hw
   rw [get_ins hq] at g1
   split at g1
   ·cases g1; rw [hmu] at g2; cases g2
   ·rename_i hne
    rw [upd_ne _ _ (Ne.symm hne)] at g3
    have := (h.rng i q b z' g1 g3).2
    have := (hx b z hz).1
    omega
  ·rename_i e1
   exact (h.obj i p hg).mono (hev 0).keeps (fun j _ q hq => hko j q hq) (upd_ne _ _ (Ne.symm e1)) (fun b z hm => e.same b (h.rng i p b z hg hm).2)
 ·rw [get_ins hq] at hi hj
  split at hi <;> split at hj
  ·rename_i e1 e2; omega
  ·rename_i e1 e2
   subst e1
   rw [upd_same] at hmi
   rw [upd_ne _ _ (Ne.symm e2)] at hmj
   have := (hx b z hmi).1
   have := (h.rng j q b z' hj hmj).2
   omega
  ·rename_i e1 e2
   subst e2
   rw [upd_same] at hmj
   rw [upd_ne _ _ (Ne.symm e1)] at hmi
   have := (hx b z' hmj).1
   have := (h.rng i p b z hi hmi).2
   omega
  ·rename_i e1 e2
   rw [upd_ne _ _ (Ne.symm e1)] at hmi
   rw [upd_ne _ _ (Ne.symm e2)] at hmj
   exact h.inj i j p q b z z' hi hj hmi hmj
 ·rw [get_ins hq] at hi
  split at hi
  ·rename_i e1; subst e1; rw [upd_same] at hm; have := hx b z hm; omega
  ·rename_i e1; rw [upd_ne _ _ (Ne.symm e1)] at hm; have := h.rng i p b z hi hm; have := e.size; omega

end

section
variable {CM : Nat → Code → ACode → Prop} {base : Nat} {Im0 : Nat → Prop} {w : World} {m : Mem} {s : Sto} {P : Program} {ρ : Operand → Value} {ρa : Opd → AVal} {Q : AVal × Sto → Prop}

theorem new_arrAt (h : SRep CM base Im0 w m s) {k : Nat} (hq : get s k = none) (hb : base ≤ w.heap.size) (cur : Array Value) (t : Nat) (fr : Nat × Nat) (hfr : NoFrz fr cur.size) (ps : List PVal) (v es : Nat) (hl : ps.length ≤ cur.size) (hc : CellsP w (Im base Im0 m s) cur ps) :
  SRep CM base Im0 (w.alloc (.cells cur t fr)) (upd m (k) (some (w.heap.size, cur.size))) (ins s k (.arr ps v es)) ∧
  (∀ lo, Evo lo w m s (w.alloc (.cells cur t fr)) (upd m (k) (some (w.heap.size, cur.size))) (ins s k (.arr ps v es))) :=
 h.newAt hq (Ext.alloc w _) hb _ _ (fun b z hx => by cases hx; simp) (fun I' m' s' hk _ hg hm _ => .inr ⟨w.heap.size, cur.size, cur, t, fr, hm, alloc_new w _, hfr, rfl, hl, hc.mono hk⟩)

theorem new_boxAt (h : SRep CM base Im0 w m s) {k : Nat} (hq : get s k = none) (hb : base ≤ w.heap.size) (cur : Array Value) (t : Nat) (cs : List AVal) (hl : cs.length = cur.size) (hc : CellsA w (Im base Im0 m s) m s cur cs) :
  SRep CM base Im0 (w.alloc (.cells cur t)) (upd m (k) (some (w.heap.size, cur.size))) (ins s k (.box cs)) ∧
  (∀ lo, Evo lo w m s (w.alloc (.cells cur t)) (upd m (k) (some (w.heap.size, cur.size))) (ins s k (.box cs))) :=
 h.newAt hq (Ext.alloc w _) hb _ _ (fun b z hx => by cases hx; simp) (fun I' m' s' hk hko hg hm _ => ⟨w.heap.size, cur.size, cur, t, (0, 0), hm, alloc_new w _, nofrz0 _, rfl, hl, fun j u c hu hcc => (hc j u c hu hcc).mono hk hko⟩)

theorem ok_allocr {k : Nat} {o : Oper} {isArr : Bool} {es : Nat} {zero : List AVal} (hm : mAlloc P o.op zero = true) (h : SRep CM base Im0 w m s) (hb : base ≤ w.heap.size) (hq : (rOp k s isArr es zero).All Q) :
  Post CM base Im0 w m s Q ((execOp ρ o).run P w) := by
 unfold mAlloc at hm
 split at hm
 ·rename_i t ht
  obtain ⟨i, z, hi, hz, hc⟩ := mZero_spec hm
  have hrun : (execOp ρ o).run P w = .ok (.value (.pointer (some ⟨w.heap.size, 0, none⟩))) (w.alloc (.cells z.cells t)) := by
   simp [execOp, ht, Instr.alloc, run_zero hi hz, newVar, run_newRow]
  unfold rOp at hq
  split at hq
  rename_i hk0
  have hk : get s k = none := by simpa using hk0
  split at hq
  ·split at hq
   ·rename_i ps hps
    obtain ⟨hl, hcc⟩ := cellsP_of_const (w := w) hc hps (Im base Im0 m s)
    obtain ⟨hs', hev⟩ := new_arrAt h hk hb z.cells t (0, 0) (nofrz0 _) ps 0 es (by simpa using Nat.le_of_eq hl.symm) (by simpa using hcc)
    exact ⟨_, _, _, _, _, hq, hs', hev, ptr0_rep (by rw [get_ins hk, if_pos rfl]) rfl rfl (upd_same _ _ _), .inl hrun⟩
   ·exact hq.elim
  ·obtain ⟨hl, hcc⟩ := cellsA_of_const (w := w) (m := m) (s := s) hc (Im base Im0 m s)
   obtain ⟨hs', hev⟩ := new_boxAt h hk hb z.cells t zero (by simpa using hl.symm) (by simpa using hcc)
   exact ⟨_, _, _, _, _, hq, hs', hev, ptr0_rep (by rw [get_ins hk, if_pos rfl]) rfl rfl (upd_same _ _ _), .inl hrun⟩
  ·exact hq.elim
 ·cases hm

theorem ok_mkslicer {k : Nat} {o : Oper} {es : Nat} {zero : List AVal} {y z : Opd} (hm : mMkslice P o.op es zero y z = true) (h : SRep CM base Im0 w m s) (hb : base ≤ w.heap.size) (hρ : OpdOk w (Im base Im0 m s) m s ρ ρa) (hq : (mOpr k s es zero (ρa y) (ρa z)).All Q) :
  Post CM base Im0 w m s Q ((execOp ρ o).run P w) := by
 unfold mMkslice at hm
 split at hm
 ·rename_i t lo co hx
  simp only [Bool.and_eq_true] at hm
  obtain ⟨⟨h1, h2⟩, h3⟩ := hm
  split at h3
  ·rename_i e hu
   simp only [Bool.and_eq_true] at h3
   obtain ⟨h3, h4⟩ := h3
   obtain ⟨i, zv, hi, hz, hcz⟩ := mZero_spec h3
   rw [hi] at h4
   simp only [Bool.and_eq_true, beq_iff_eq, decide_eq_true_eq] at h4
   obtain ⟨⟨rfl, h5⟩, h6⟩ := h4
   unfold mOpr at hq
   split at hq
   ·rename_i l c hl hc
    obtain ⟨k1, e1⟩ := toInt64_spec (hρ lo y h1) hl
    obtain ⟨k2, e2⟩ := toInt64_spec (hρ co z h2) hc
    split at hq
    ·rename_i hcond
     obtain ⟨c0, c1, c2, c3⟩ := hcond
     have hk : get s k = none := by simpa using c0
     split at hq
     ·rename_i ps hps
      obtain ⟨hzl, hzc⟩ := cellsP_of_const (w := w) hcz hps (Im base Im0 m s)
      obtain ⟨l, rfl⟩ : ∃ k : Nat, l = (k : Int) := ⟨l.toNat, by omega⟩
      obtain ⟨c, rfl⟩ : ∃ k : Nat, c = (k : Int) := ⟨c.toNat, by omega⟩
      have hlim : lim = 1073741824 := rfl
      have w1 := i64_in (l : Int) (by omega) (by omega)
      have w2 := i64_in (c : Int) (by omega) (by omega)
      have hbc : i.bytes * c ≤ 1024 * 1073741824 := Nat.mul_le_mul h6 (by omega)
      have hbl : i.bytes * l ≤ 1024 * 1073741824 := Nat.mul_le_mul h6 (by omega)
      have n1 : ¬ (281474976710656 < (i.bytes : Int) * (c : Int)) := by
       have : ((i.bytes * c : Nat) : Int) = (i.bytes : Int) * (c : Int) := by simp
       omega
      have n2 : ¬ ((c : Int) < 0) := by omega
      have n3 : ¬ ((l : Int) < 0) := by omega
      have n4 : ¬ ((c : Int) < (l : Int)) := by omega
      have as1 : ∀ (k : IntKind) (n : Int) (W : World), (asInt (.int k n)).run P W = .ok n W := fun _ _ _ => rfl
      have hps' : ps.length = zv.cells.size := by rw [← hzl]; simp
      have hzs : zv.cells.size = zero.length := by
       obtain ⟨a, _⟩ := constC_rep hcz w (fun _ => True)
       simpa using a
      have key : ∃ cur : Array Value, cur.size = c * i.size ∧ CellsP w (Im base Im0 m s) cur (List.replicate l ps).flatten ∧ (execOp ρ o).run P w = .ok (.value (.slice (some ⟨w.heap.size, 0, none⟩) l c)) (w.alloc (.cells cur e)) := by
       by_cases h0 : c * i.size = 0
       ·refine ⟨(Array.range (c * i.size)).map ((#[] : Array Value)[· % (#[] : Array Value).size]!), by simp, fun j u cc hu => by rw [h0] at hu; simp at hu, ?_⟩
        simp [execOp, hx, Instr.makeSlice, run_underlying hu, e1, e2, as1, run_info hi, w1, w2, n1, n2, n3, n4, run_size hi, h0, run_newRow]
       ·refine ⟨(Array.range (c * i.size)).map (zv.cells[· % zv.cells.size]!), by simp, fun j u cc hu hcc => ?_, ?_⟩
        ·have hpos : 0 < zv.cells.size := by
          rw [hzs, h5]
          rcases Nat.eq_zero_or_pos i.size with h | h
          ·rw [h] at h0; simp at h0
          ·exact h
         obtain ⟨a1, a2⟩ := zeros_eq zv.cells _ hpos j u hu
         rw [flatten_rep] at hcc
         split at hcc
         ·rw [hps'] at hcc
          exact hzc _ u cc (by simpa using a2) hcc
         ·cases hcc
        ·simp [execOp, hx, Instr.makeSlice, run_underlying hu, e1, e2, as1, run_info hi, w1, w2, n1, n2, n3, n4, run_size hi, h0, run_newRow, run_zero hi hz]
      obtain ⟨cur, k1, k2, k3⟩ := key
      have hfl : (List.replicate l ps).flatten.length = l * i.size := by
       rw [List.length_flatten]; simp; rw [hps', hzs, h5]
      have hlc : l * i.size ≤ c * i.size := Nat.mul_le_mul_right _ (by omega)
      obtain ⟨hs', hev⟩ := new_arrAt h hk hb cur e (0, 0) (nofrz0 _) (List.replicate l ps).flatten 0 i.size (by omega) k2
      refine ⟨_, _, _, _, _, hq, hs', hev, ?_, .inl k3⟩
      refine .sl _ _ _ _ _ _ (by rw [get_ins hk, if_pos rfl]) rfl (Nat.le_refl _) (fun _ => .inr ⟨w.heap.size, cur.size, c, upd_same _ _ _, rfl, by omega, by simp only [esO]; omega⟩) rfl
     ·exact hq.elim
    ·exact hq.elim
   ·exact hq.elim
  ·cases h3
 ·cases hm

theorem ok_bslicer {k : Nat} {o : Oper} {es : Nat} {zero : List AVal} {n : Nat} {ps : List (Nat × Opd)} (hm : mBslice P o.op es zero n ps = true) (h : SRep CM base Im0 w m s) (hb : base ≤ w.heap.size) (hρ : OpdOk w (Im base Im0 m s) m s ρ ρa)
  (hq : (bOpr k ρa s es zero n ps).All Q) : Post CM base Im0 w m s Q ((execOp ρ o).run P w) := by
 unfold bOpr at hq
 split at hq
 ·rename_i hk0
  have hk : get s k = none := by simpa using hk0
  split at hq
  ·rename_i cs hf
   obtain ⟨hes, hcl, e, cells, hrun, hsz, hcc⟩ := bslice_run hm hρ hf
   split at hq
   ·rename_i qs hqs
    obtain ⟨hl, hc⟩ := pcells_cells hsz hcc hqs
    obtain ⟨hs', hev⟩ := new_arrAt h hk hb cells e (0, 0) (nofrz0 _) qs 0 es (by omega) hc
    exact ⟨_, _, _, _, _, hq, hs', hev, sl_rep (by rw [get_ins hk, if_pos rfl]) (upd_same _ _ _) (by omega), .inl hrun⟩
   ·exact hq.elim
  ·exact hq.elim
 ·exact hq.elim

theorem giveAt_ok {w' : World} {I : Nat → Prop} (h : SRep CM base Im0 w m s) (hb : base ≤ w.heap.size) (hI : ∀ b, b < w.heap.size → I b → Im base Im0 m s b) {v : Value} {cs : List PVal} {n e : Nat} (hf : FinOk CM w I w' v (.own cs n e))
  {k es : Nat} (hk : get s k = none) (he : e = es ∨ e = 0) (hq : Q (.sl k 0 0 n, ins s k (.arr cs 0 es))) : Good CM base Im0 w m s Q v w' := by
 obtain ⟨ex, m1, s1, a, h1, h2, h3⟩ := hf
 have h3' : fin1 s1 a = some (.own cs n e) := by
  unfold finR at h3
  split at h3
  ·simp only [Option.map_eq_some_iff] at h3
   obtain ⟨x, _, hx⟩ := h3
   cases hx
  ·exact h3
 obtain ⟨m', s', ids, Jn, g1, g2, g3, g4⟩ := fin1_given h1 h2 h3'
 cases g2 with
 | oth u r hr _ _ => exact absurd rfl (hr _ _ _)
 | own u id cs' n' es' ho hid hl =>
  cases hl
  obtain ⟨v', hg, hn, he0, hsl⟩ := ho
  have hee : e = es := by omega
  subst hee
  have ad : Adds w' w.heap.size Jn (fun b => ∃ id' ∈ [id], ∃ z, m' id' = some (b, z)) m s (upd m k (m' id)) (ins s k (.arr cs 0 e)) := by
   refine ⟨keysDesc_ins h.keys hk _, fun i o hi => ?_, fun i o hi => ?_, fun i j o o' b z z' hi hj hlb hmi hmj => ?_⟩
   ·have hne : k ≠ i := fun e => by subst e; rw [hk] at hi; cases hi
    exact ⟨by rw [get_ins hk, if_neg hne]; exact hi, upd_ne _ _ (Ne.symm hne)⟩
   ·rw [get_ins hk] at hi
    split at hi
    ·rename_i e1
     subst e1
     cases hi
     refine .inr ⟨cs, e, rfl, ?_⟩
     rcases g1.obj id _ hg with ⟨b1, b2⟩ | ⟨b, z, cur, el, fr, b1, b2, b3, b4, b5, b6⟩
     ·exact .inl ⟨by rw [upd_same]; exact b1, b2⟩
     ·have := g1.rng id _ b z hg b1
      exact .inr ⟨b, z, cur, el, fr, by rw [upd_same]; exact b1, by omega, ⟨id, by simp, z, b1⟩, b2, b3, b4, b5, fun j u c hu hc => (b6 j u c hu hc).toJ g3⟩
    ·rename_i e1
     exact .inl ⟨hi, upd_ne _ _ (Ne.symm e1)⟩
   ·rw [get_ins hk] at hi hj
    split at hi <;> split at hj
    ·rename_i e1 e2; omega
    ·rename_i e1 e2
     rw [upd_ne _ _ (Ne.symm e2)] at hmj
     have := (h.rng j o' b z' hj hmj).2
     omega
    ·rename_i e1 e2
     rw [upd_ne _ _ (Ne.symm e1)] at hmi
     have := (h.rng i o b z hi hmi).2
     omega
    ·rename_i e1 e2
     rw [upd_ne _ _ (Ne.symm e1)] at hmi
     rw [upd_ne _ _ (Ne.symm e2)] at hmj
     exact h.inj i j o o' b z z' hi hj hmi hmj
  obtain ⟨r1, r2, r3⟩ := ad.rep h ex hb (fun b hj => ⟨fun hlt => hI b hlt ((g4 b hj).1 hlt), (g4 b hj).2⟩)
  refine ⟨_, _, _, hq, r1, r2, .sl _ k 0 0 n _ (by rw [get_ins hk, if_pos rfl]) rfl (Nat.le_refl _) (fun _ => by rw [upd_same]; exact hsl) ?_⟩
  rcases hsl with ⟨_, a0, rfl⟩ | ⟨_, _, _, _, rfl, _⟩ <;> rfl

theorem giveQ_ok {w' : World} {I : Nat → Prop} (h : SRep CM base Im0 w m s) (hb : base ≤ w.heap.size) {v : Value} {cs : List PVal} {n e : Nat} (hf : FinOk CM w I w' v (.own cs n e)) (hs : ∀ c ∈ cs, scalarP c = true)
  {k es : Nat} (hk : get s k = none) (he : e = es ∨ e = 0) (hq : Q (.sl k 0 0 n, ins s k (.arr cs 0 es))) : Good CM base Im0 w m s Q v w' := by
 obtain ⟨ex, m', s', a, g1, h2, h3⟩ := hf
 have h3' : fin1 s' a = some (.own cs n e) := by
  unfold finR at h3
  split at h3
  ·simp only [Option.map_eq_some_iff] at h3
   obtain ⟨x, _, hx⟩ := h3
   cases hx
  ·exact h3
 rcases fin1_spec g1 h2 h3' with ⟨id, ver, cs', n', es', _, e2, ho⟩ | ⟨k1, _⟩
 ·cases e2
  obtain ⟨v', hg, hn, he0, hsl⟩ := ho
  have hee : e = es := by omega
  subst hee
  have ad : Adds w' w.heap.size (fun _ => False) (fun b => ∃ id' ∈ [id], ∃ z, m' id' = some (b, z)) m s (upd m k (m' id)) (ins s k (.arr cs 0 e)) := by
   refine ⟨keysDesc_ins h.keys hk _, fun i o hi => ?_, fun i o hi => ?_, fun i j o o' b z z' hi hj hlb hmi hmj => ?_⟩
   ·have hne : k ≠ i := fun e => by subst e; rw [hk] at hi; cases hi
    exact ⟨by rw [get_ins hk, if_neg hne]; exact hi, upd_ne _ _ (Ne.symm hne)⟩
   ·rw [get_ins hk] at hi
    split at hi
    ·rename_i e1
     subst e1
     cases hi
     refine .inr ⟨cs, e, rfl, ?_⟩
     rcases g1.obj id _ hg with ⟨b1, b2⟩ | ⟨b, z, cur, el, fr, b1, b2, b3, b4, b5, b6⟩
     ·exact .inl ⟨by rw [upd_same]; exact b1, b2⟩
     ·have := g1.rng id _ b z hg b1
      exact .inr ⟨b, z, cur, el, fr, by rw [upd_same]; exact b1, by omega, ⟨id, by simp, z, b1⟩, b2, b3, b4, b5, fun j u c hu hc => scalarP_rep (b6 j u c hu hc) (hs c (List.mem_of_getElem? hc)) _⟩
    ·rename_i e1
     exact .inl ⟨hi, upd_ne _ _ (Ne.symm e1)⟩
   ·rw [get_ins hk] at hi hj
    split at hi <;> split at hj
    ·rename_i e1 e2; omega
    ·rename_i e1 e2
     rw [upd_ne _ _ (Ne.symm e2)] at hmj
     have := (h.rng j o' b z' hj hmj).2
     omega
    ·rename_i e1 e2
     rw [upd_ne _ _ (Ne.symm e1)] at hmi
     have := (h.rng i o b z hi hmi).2
     omega
    ·rename_i e1 e2
     rw [upd_ne _ _ (Ne.symm e1)] at hmi
     rw [upd_ne _ _ (Ne.symm e2)] at hmj
     exact h.inj i j o o' b z z' hi hj hmi hmj
  obtain ⟨r1, r2, r3⟩ := ad.rep h ex hb (fun b hj => hj.elim)
  refine ⟨_, _, _, hq, r1, r2, .sl _ k 0 0 n _ (by rw [get_ins hk, if_pos rfl]) rfl (Nat.le_refl _) (fun _ => by rw [upd_same]; exact hsl) ?_⟩
  rcases hsl with ⟨_, a0, rfl⟩ | ⟨_, _, _, _, rfl, _⟩ <;> rfl
 ·exact absurd rfl (k1 _ _ _)

end
end Fw
end

section
/-
  One operation of a frame.
-/
namespace Fw
open Go

def mGuard (ops : Array Oper) : Option (Nat × Bool) → Option (Nat × Bool) → Bool
 | none, none => true
 | some (j, w), some (d, w') => w == w' && (match (ops[j]?).bind (·.dst) with | some d' => d' == d | none => false)
 | _, _ => false

def mDst (nt : Nat) : Option Nat → Option Nat → Bool
 | none, none => true
 | some d, some d' => d == d' && decide (d < nt)
 | _, _ => false

def notDefer : Op → Bool
 | .defer _ => false
 | _ => true

def mAny (P : Program) (o : Op) : AOp → Bool
 | .call _ _ _ c args => mCall o c args
 | .callr _ _ f args => mCall o (.fn f) args
 | .callq _ _ f args => mCall o (.fn f) args
 | op => mOp P o op

def mOper (P : Program) (ops : Array Oper) (nt : Nat) (o : Oper) (ao : AOper) : Bool :=
 mDst nt o.dst ao.dst && mGuard ops o.guard ao.guard && notDefer o.op && mAny P o.op ao.op

structure At (CM : Nat → Code → ACode → Prop) (G : Nat → Option (List PVal)) (base : Nat) (Im0 : Nat → Prop) (w : World) (m : Mem) (s : Sto) (tm : Array Value) (env : Env) : Prop where
 srep : SRep CM base Im0 w m s
 hb : base ≤ w.heap.size
 env : EnvRep w (Im base Im0 m s) m s tm env
 glob : GOk G w (Im base Im0 m s)

section
variable {rb : Nat} {CM : Nat → Code → ACode → Prop} {base : Nat} {Im0 : Nat → Prop} {w w' : World} {m m' : Mem} {s s' : Sto} {P : Program} {G : Nat → Option (List PVal)} {call : CallF} {C : Nat → List AVal → Option (T AVal)}
 {tm : Array Value} {env : Env} {ds : List Deferred}

theorem At.opd (h : At CM G base Im0 w m s tm env) : OpdOk w (Im base Im0 m s) m s (Act.eval ⟨tm, ds⟩) (evOpd G env) := by
 intro x y hm
 unfold mOpd at hm
 split at hm
 ·simp at hm; subst hm; exact h.env _
 ·exact constA_rep hm _ _ _ _
 ·simp at hm
  subst hm
  rename_i g
  simp only [evOpd]
  cases hg : G g with
  | none => exact .any _
  | some cs => exact .p _ _ (h.glob g cs hg).1
 ·simp at hm
  subst hm
  exact .p _ _ (.clo _ _ _ [] [] rfl rfl (fun j u c hu => by simp at hu) (fun j u c hu => by simp at hu))
 ·cases hm

theorem At.evo (h : At CM G base Im0 w m s tm env) (h' : SRep CM base Im0 w' m' s') (e : ∀ lo, Evo lo w m s w' m' s') : At CM G base Im0 w' m' s' tm env where
 srep := h'
 hb := Nat.le_trans h.hb (e 0).size
 env := h.env.evo (e (nextId s)) (fun _i _o hg => get_lt h.srep.keys hg)
 glob := h.glob.mono (e 0).keeps

theorem At.set (h : At CM G base Im0 w m s tm env) {d : Option Nat} {v : Value} {a : AVal} (hd : ∀ x, d = some x → x < tm.size) (ha : ARep w (Im base Im0 m s) m s v a) :
  At CM G base Im0 w m s (Act.put ⟨tm, ds⟩ d v).tmps (setE env d a) where
 srep := h.srep
 hb := h.hb
 glob := h.glob
 env t := by
  cases d with
  | none => exact h.env t
  | some x =>
   have hx := hd x rfl
   simp only [Act.put, setE, look]
   by_cases hxt : x = t
   ·subst hxt
    rw [if_pos rfl]
    simp [hx]
    exact ha
   ·rw [if_neg hxt]
    have := h.env t
    simp only [Array.getD_eq_getD_getElem?, Array.getElem?_setIfInBounds_ne hxt] at this ⊢
    exact this

theorem put_size (d : Option Nat) (v : Value) : (Act.put ⟨tm, ds⟩ d v).tmps.size = tm.size := by cases d <;> simp [Act.put]

theorem wanted_ok {ops : Array Oper} {o : Oper} {ag : Option (Nat × Bool)} (hm : mGuard ops o.guard ag = true) {I : Nat → Prop} (he : EnvRep w I m s tm env) {r : Bool} (hw : wantedA env ag = some r) : Region.wanted o (yielded ops tm) = r := by
 unfold mGuard at hm
 unfold Region.wanted
 split at hm
 ·rename_i h1
  simp only [wantedA, Option.some.injEq] at hw
  rw [h1]; exact hw
 ·rename_i j w0 d w1 h1
  simp only [Bool.and_eq_true, beq_iff_eq] at hm
  obtain ⟨rfl, hm⟩ := hm
  rw [h1]
  simp only
  split at hm
  ·rename_i d' hd
   simp only [beq_iff_eq] at hm
   subst hm
   have ha := he d'
   simp only [wantedA] at hw
   simp only [yielded, hd, Option.bind_some]
   split at hw
   ·rename_i b hb
    rw [hb] at ha
    have := inv_bool ha
    rw [Array.getD_eq_getD_getElem?] at this
    cases hx : tm[d']? with
    | none => rw [hx] at this; simp [undef] at this
    | some u =>
     rw [hx] at this
     simp at this
     subst this
     simp only [Option.some.injEq] at hw
     subst hw
     cases b <;> cases w0 <;> rfl
   ·rename_i hb
    rw [hb] at ha
    obtain ⟨cs, hcs, _⟩ := inv_tup ha
    rw [Array.getD_eq_getD_getElem?] at hcs
    simp only [Option.some.injEq] at hw
    subst hw
    cases hx : tm[d']? with
    | none => simp
    | some u =>
     rw [hx] at hcs
     simp at hcs
     subst hcs
     rfl
   ·cases hw
  ·cases hm
 ·cases hm

theorem Post.runs {Q : AVal × Sto → Prop} {r : Result Next} (h : Post CM base Im0 w m s Q r) : Runs P r w (Good CM base Im0 w m s Q) := by
 obtain ⟨a, s', w', m', v, h1, h2, h3, h4, h5⟩ := h
 rcases h5 with h5 | ⟨h5, rfl⟩
 ·exact .inl ⟨v, w', h5, a, s', m', h1, h2, h3, h4⟩
 ·exact .inr (.inl ⟨w', h5, a, s', m', h1, h2, h3, h4⟩)

theorem evOp_ok (hcall : CallOk CM P G call) (hC : COk CM P G C) {o : Oper} {ao : AOp} (hm : mAny P o.op ao = true) (h : At CM G base Im0 w m s tm env) {Q : AVal × Sto → Prop} (hq : (evOp call C (evOpd G env) s ao).All Q) :
  Runs P ((execOp (Act.eval ⟨tm, ds⟩) o).run P w) w (Good CM base Im0 w m s Q) := by
 have gen : mOp P o.op ao = true → (opFn (evOpd G env) s ao).All Q → Runs P ((execOp (Act.eval ⟨tm, ds⟩) o).run P w) w (Good CM base Im0 w m s Q) :=
  fun h1 h2 => (ok_op h1 h.srep h.hb h.opd (fun _ => rfl) h2).runs
 cases ao
 case call snap scal adopt c args => exact callOp_ok hcall hC hm h.srep h.hb h.glob h.opd (fun _ => rfl) hq
 case callr j es f args => simp only [evOp, opFn] at hq; exact hq.elim
 case callq j es f args => simp only [evOp, opFn] at hq; exact hq.elim
 all_goals exact gen hm hq

theorem callr_ok {ρ : Operand → Value} {ρa : Opd → AVal} {Q : AVal × Sto → Prop} (hcall : CallOk CM P G call) (hC : COk CM P G C) {o : Oper} {k es f : Nat} {args : List Opd} (hm : mCall o.op (.fn f) args = true) (h : SRep CM base Im0 w m s) (hb : base ≤ w.heap.size)
  (hg : GOk G w (Im base Im0 m s)) (hρ : OpdOk w (Im base Im0 m s) m s ρ ρa) (hρf : ∀ f, ρ (.func f) = .func (.func f) #[] #[]) (hq : (cOpr call C k ρa s es f args).All Q) :
  Runs P ((execOp ρ o).run P w) w (Good CM base Im0 w m s Q) := by
 unfold mCall at hm
 split at hm
 ·rename_i cl hop
  split at hm
  ·rename_i x hcl
   simp only [Bool.and_eq_true] at hm
   obtain ⟨h1, h2⟩ := hm
   unfold cOpr at hq
   split at hq
   ·rename_i hc
    obtain ⟨hk0, hp⟩ := hc
    have hk : get s k = none := by simpa using hk0
    obtain ⟨fn, fs, cs, e1, e2, e3, e4⟩ := callee_ok h1 hρ hρf (show callee ρa (.fn f) = some (.fn f, [], []) from rfl)
    obtain ⟨l1, l2⟩ := mOpds_spec h2 hρ
    have hargs : RArgs w (Im base Im0 m s) m s (cl.args.map ρ) (args.map ρa) := ⟨by simpa using l1, fun j u a hu ha => l2 j u a (by simpa using hu) ha⟩
    have hall := (e2.append hargs).append e3
    simp only [List.nil_append, List.append_nil] at hall
    generalize args.map ρa = as at hq hall hp
    have hrun : (execOp ρ o).run P w = (invoke (.fn fn cs) (fs ++ cl.args.map ρ)).run P w := by
     simp [execOp, hop, resolve, hcl, Deferred.ofValue, e1]
    rw [hrun]
    subst e4
    have hinv : (invoke (.fn (.func f) cs) (fs ++ cl.args.map ρ)).run P w = (callFunc f (fs ++ cl.args.map ρ ++ cs)).run P w := rfl
    rw [hinv]
    refine Enters.runs ?_
    simp only [List.all_eq_true] at hp
    have hpa : RArgs w (Im base Im0 m s) (fun _ => none) [] (fs ++ cl.args.map ρ ++ cs) (as.map normA) := by
     refine ⟨by simp only [List.length_map]; exact hall.1, fun j u a hu ha => ?_⟩
     rw [List.getElem?_map] at ha
     cases hx : as[j]? with
     | none => rw [hx] at ha; cases ha
     | some q =>
      rw [hx] at ha; cases ha
      exact ((hall.2 j u q hu hx).anew (hp q (List.mem_of_getElem? hx)) _ _).normA
    rw [T.All_bind, T.All_bind] at hq
    refine (callPure_ok hcall hC hg hpa hq).mono (fun v w' ⟨r, hr, hf⟩ => ?_)
    unfold rowR at hr
    split at hr
    ·rename_i cs' n' e'
     split at hr
     ·rename_i he
      exact giveAt_ok h hb (fun b _ hb => hb) hf hk he hr
     ·exact hr.elim
    ·exact hr.elim
   ·exact hq.elim
  ·cases hm
 ·cases hm

theorem callq_ok {ρ : Operand → Value} {ρa : Opd → AVal} {Q : AVal × Sto → Prop} (hcall : CallOk CM P G call) (hC : COk CM P G C) {o : Oper} {k es f : Nat} {args : List Opd} (hm : mCall o.op (.fn f) args = true) (h : SRep CM base Im0 w m s) (hb : base ≤ w.heap.size)
  (hg : GOk G w (Im base Im0 m s)) (hρ : OpdOk w (Im base Im0 m s) m s ρ ρa) (hρf : ∀ f, ρ (.func f) = .func (.func f) #[] #[]) (hq : (cOqr call C k ρa s es f args).All Q) :
  Runs P ((execOp ρ o).run P w) w (Good CM base Im0 w m s Q) := by
 unfold mCall at hm
 split at hm
 ·rename_i cl hop
  split at hm
  ·rename_i x hcl
   simp only [Bool.and_eq_true] at hm
   obtain ⟨h1, h2⟩ := hm
   unfold cOqr at hq
   split at hq
   ·rename_i hk0
    have hk : get s k = none := by simpa using hk0
    split at hq
    ·rename_i as' has'
     obtain ⟨fn, fs, cs, e1, e2, e3, e4⟩ := callee_ok h1 hρ hρf (show callee ρa (.fn f) = some (.fn f, [], []) from rfl)
     obtain ⟨l1, l2⟩ := mOpds_spec h2 hρ
     have hargs : RArgs w (Im base Im0 m s) m s (cl.args.map ρ) (args.map ρa) := ⟨by simpa using l1, fun j u a hu ha => l2 j u a (by simpa using hu) ha⟩
     have hall := (e2.append hargs).append e3
     simp only [List.nil_append, List.append_nil] at hall
     generalize args.map ρa = as at has' hall
     have hrun : (execOp ρ o).run P w = (invoke (.fn fn cs) (fs ++ cl.args.map ρ)).run P w := by
      simp [execOp, hop, resolve, hcl, Deferred.ofValue, e1]
     rw [hrun]
     subst e4
     have hinv : (invoke (.fn (.func f) cs) (fs ++ cl.args.map ρ)).run P w = (callFunc f (fs ++ cl.args.map ρ ++ cs)).run P w := rfl
     rw [hinv]
     refine Enters.runs ?_
     obtain ⟨ml, me⟩ := mapM_spec has'
     have hpa : RArgs w (fun _ => True) (fun _ => none) [] (fs ++ cl.args.map ρ ++ cs) as' := by
      refine ⟨by rw [ml]; exact hall.1, fun j u a hu ha => ?_⟩
      obtain ⟨q, hx⟩ := getElem?_of_lt as j (by have := lt_of_some ha; omega)
      exact purA_rep h false (fun _ => True) (fun _ _ => trivial) (fun _ _ _ => trivial) _ _ (hall.2 j u q hu hx) (me j q a hx ha)
     rw [T.All_bind, T.All_bind] at hq
     refine (callPure_ok hcall hC (hg.mono (fun b o _ hb _ => ⟨trivial, hb⟩)) hpa hq).mono (fun v w' ⟨r, hr, hf⟩ => ?_)
     unfold rowQ at hr
     split at hr
     ·rename_i cs' n' e'
      split at hr
      ·rename_i he
       have hs := he.2
       rw [List.all_eq_true] at hs
       exact giveQ_ok h hb hf hs hk he.1 hr
      ·exact hr.elim
     ·exact hr.elim
    ·exact hq.elim
   ·exact hq.elim
  ·cases hm
 ·cases hm

theorem runs_step {R : Value → World → Prop} {ops : Array Oper} {i : Nat} {rest : List Nat} {k : List Item} {cs : List Frame} {b : Frame} {a : Act} {sem : Sem Next} (h : Runs P (sem.run P w) w R)
  (hs : stepG P true { frame := b.atR a (.inRegion ops (i :: rest) :: k), callers := cs, status := .running, dying := none } w = stepG.apply P true (b.atR a (.inRegion ops (i :: rest) :: k)) cs none sem w) :
  ∃ v w', R v w' ∧ Steps P (lone (b.atR a (.inRegion ops (i :: rest) :: k)) cs w) (lone ((b.atR a (.inRegion ops (i :: rest) :: k)).finish v) cs w') := by
 rcases h with ⟨v, w', h1, h2⟩ | ⟨w', h1, h2⟩ | ⟨f, vs, h1, h2⟩ | ⟨l, lf, tm, x, y, h1, h2⟩
 ·exact ⟨v, w', h2, .one (step_lone_go (by rw [hs]; simp [stepG.apply, h1]))⟩
 ·exact ⟨undef, w', h2, .one (step_lone_go (by rw [hs]; simp [stepG.apply, h1]))⟩
 ·obtain ⟨e, w'', fr, ⟨v, rfl, hR⟩, hc, _, hl⟩ := h2 (b.atR a (.inRegion ops (i :: rest) :: k) :: cs)
  have henter : step P (lone (b.atR a (.inRegion ops (i :: rest) :: k)) cs w) = .next (lone (Frame.enter P f vs .normal) (b.atR a (.inRegion ops (i :: rest) :: k) :: cs) w) :=
   step_lone_go (by rw [hs]; simp [stepG.apply, h1, Frame.atR])
  exact ⟨v, w'', hR, .head henter (Steps.trans hc (.one (step_leave_returned hl)))⟩
 ·obtain ⟨v, w'', hR, hst⟩ := h2 (b.atR a (.inRegion ops (i :: rest) :: k)) cs
  have henter : step P (lone (b.atR a (.inRegion ops (i :: rest) :: k)) cs w) = .next (lone (Frame.round l lf tm x y .normal) (b.atR a (.inRegion ops (i :: rest) :: k) :: cs) w) :=
   step_lone_go (by rw [hs]; simp [stepG.apply, h1, Frame.atR])
  exact ⟨v, w'', hR, .head henter hst⟩

def OpTo (CM : Nat → Code → ACode → Prop) (P : Program) (G : Nat → Option (List PVal)) (base : Nat) (Im0 : Nat → Prop) (w : World) (m : Mem) (s : Sto) (tm : Array Value) (Q : St → Prop) (mach : Machine) (mach' : Array Value → World → Machine) : Prop :=
 ∃ st' w' m' tm', Q st' ∧ At CM G base Im0 w' m' st'.sto tm' st'.env ∧ tm'.size = tm.size ∧ (∀ lo, Evo lo w m s w' m' st'.sto) ∧ Steps P mach (mach' tm' w')

theorem nil_le (s : Sto) : Sub [] s := fun i o h => by cases h

theorem oc_ok (hcall : CallOk CM P G call) (hC : COk CM P G C) {kind : Nat} {nt : Nat} {ops : Array Oper} {i : Nat} {o : Oper} {ao : AOper} (ho : ops[i]? = some o) (hm : mOper P ops nt o ao = true) (h : At CM G base Im0 w m s tm env)
  (hnt : nt ≤ tm.size) {Q : St → Prop} (hq : (oc call C G rb kind ao env s).All (fun x => Q ⟨setE env ao.dst x.1, x.2⟩)) (b : Frame) (rest : List Nat) (k : List Item) (cs : List Frame) :
  OpTo CM P G base Im0 w m s tm Q (lone (b.atR ⟨tm, ds⟩ (.inRegion ops (i :: rest) :: k)) cs w) (fun tm' w' => lone (b.atR ⟨tm', ds⟩ (.inRegion ops rest :: k)) cs w') := by
 simp only [mOper, Bool.and_eq_true] at hm
 obtain ⟨⟨⟨hm1, hm2⟩, hm3⟩, hm4⟩ := hm
 have hdst : o.dst = ao.dst ∧ ∀ x, ao.dst = some x → x < tm.size := by
  unfold mDst at hm1
  split at hm1
  ·rename_i h1 h2; exact ⟨by rw [h1, h2], fun x hx => by rw [h2] at hx; cases hx⟩
  ·rename_i d d' h1 h2
   simp only [Bool.and_eq_true, beq_iff_eq, decide_eq_true_eq] at hm1
   obtain ⟨rfl, hlt⟩ := hm1
   exact ⟨by rw [h1, h2], fun x hx => by rw [h2] at hx; cases hx; omega⟩
  ·cases hm1
 have hput : ∀ v, (Act.put ⟨tm, ds⟩ ao.dst v) = ⟨(Act.put ⟨tm, ds⟩ ao.dst v).tmps, ds⟩ := fun v => by cases ao.dst <;> rfl
 unfold oc at hq
 split at hq
 ·exact hq.elim
 ·rename_i hw
  have hwant := wanted_ok hm2 h.env hw
  have hs := stepR_op_skip (P := P) (b := b) (a := ⟨tm, ds⟩) (k := k) (cs := cs) (w := w) (ops := ops) (i := i) (rest := rest) (by simp [ho, hwant])
  rw [ho] at hs
  simp only [Option.bind_some, hdst.1] at hs
  rw [hput] at hs
  exact ⟨_, w, m, _, hq, h.set hdst.2 (rep_undef _), put_size _ _, fun lo => Evo.refl .., .one hs⟩
 ·rename_i hw
  have hwant := wanted_ok hm2 h.env hw
  have hr : Runs P ((execOp (Act.eval ⟨tm, ds⟩) o).run P w) w (Good CM base Im0 w m s (fun x => Q ⟨setE env ao.dst x.1, x.2⟩)) := by
   by_cases hk2 : kind = 2 ∧ isRes ao.op = true
   ·obtain ⟨rfl, hres⟩ := hk2
    simp only [dOp] at hq
    generalize ao.op = op at hres hq hm4
    cases op <;> first | cases hres | skip
    ·exact (ok_allocr hm4 h.srep h.hb hq).runs
    ·exact (ok_bslicer hm4 h.srep h.hb h.opd hq).runs
    ·exact callr_ok hcall hC hm4 h.srep h.hb h.glob h.opd (fun _ => rfl) hq
    ·exact callq_ok hcall hC hm4 h.srep h.hb h.glob h.opd (fun _ => rfl) hq
    ·exact (ok_mkslicer hm4 h.srep h.hb h.opd hq).runs
   have hres : kind = 2 → isRes ao.op = false := fun e => by
    cases hh : isRes ao.op with
    | false => rfl
    | true => exact absurd ⟨e, hh⟩ hk2
   have hev : (evOp call C (evOpd G env) s ao.op).All (fun x => Q ⟨setE env ao.dst x.1, x.2⟩) := by
    unfold dOp at hq
    split at hq
    ·exact hq
    ·rw [T.All_bind] at hq
     exact T.All_mono (qOp_sound hq) (fun x ⟨h1, h2⟩ => by obtain ⟨a, s'⟩ := x; simp only at h2; subst h2; exact h1)
    ·rw [aOpC_eq (hres rfl)] at hq; exact aOp_sound (hres rfl) hq
    ·exact stOp_sound hq
    ·rw [T.All_bind] at hq
     exact T.All_mono (qOp_sound (qOp_sub (boxes_le _) hq)) (fun x ⟨h1, h2⟩ => by obtain ⟨a, s'⟩ := x; simp only at h2; subst h2; exact h1)
    ·rw [T.All_bind] at hq
     exact T.All_mono (qOp_sound (qOp_sub (nil_le _) hq)) (fun x ⟨h1, h2⟩ => by obtain ⟨a, s'⟩ := x; simp only at h2; subst h2; exact h1)
    ·split at hq
     ·rw [T.All_bind] at hq
      exact T.All_mono (qOp_sound (qOp_sub (hide_le _ _) hq)) (fun x ⟨h1, h2⟩ => by obtain ⟨a, s'⟩ := x; simp only at h2; subst h2; exact h1)
     ·split at hq
      ·rw [T.All_bind] at hq
       exact T.All_mono (qOp_sound (qOp_sub (only_le _ _) hq)) (fun x ⟨h1, h2⟩ => by obtain ⟨a, s'⟩ := x; simp only at h2; subst h2; exact h1)
      ·rw [T.All_bind] at hq
       refine T.All_mono hq (fun x hx => ?_)
       split at hx
       ·exact hx
       ·exact hx.elim
   exact evOp_ok hcall hC (ds := ds) hm4 h hev
  have hstep := stepGR_op (P := P) (b := b) (a := ⟨tm, ds⟩) (k := k) (cs := cs) (w := w) (rest := rest) ho hwant
  rw [Oper.semAt_eq _ _ _ (fun c hc => by rw [hc] at hm3; cases hm3)] at hstep
  obtain ⟨v, w', ⟨a, s', m', g1, g2, g3, g4⟩, hst⟩ := runs_step hr hstep
  rw [Frame.finish_atR, ho] at hst
  simp only [Option.bind_some, hdst.1] at hst
  rw [hput] at hst
  exact ⟨_, w', m', _, g1, (h.evo g2 g3).set hdst.2 g4, put_size _ _, g3, hst⟩

end
end Fw
end

section
/-
  Regions.
-/
namespace Fw
open Go

def mList (P : Program) (ops : Array Oper) (nt : Nat) : List Oper → List AOper → Bool
 | [], [] => true
 | o :: r, a :: q => mOper P ops nt o a && mList P ops nt r q
 | _, _ => false

def emask (M : Nat → Nat) : List Edge → Nat
 | [] => 0
 | e :: r => if Region.binds .any e then (2 ^ e.on ||| M e.on) ||| emask M r else emask M r

def mkMasks : List Oper → List Nat → List Nat
 | [], acc => acc
 | o :: r, acc => mkMasks r (acc ++ [emask (fun i => acc.getD i 0) o.after.toList])

def pairsOk (M : Nat → Nat) : List (Nat × Nat × AOper) → Bool
 | [] => true
 | x :: r => r.all (fun y => (M y.1).testBit x.1 || okSwap x.2 y.2) && pairsOk M r

def zip3 : List (Nat × Nat) → List AOper → List (Nat × Nat × AOper)
 | x :: r, o :: q => (x.1, x.2, o) :: zip3 r q
 | _, _ => []

def backA (md : Region.Mode) (ops : Array Oper) : Bool :=
 (List.range ops.size).all fun i => match ops[i]? with
  | some o => o.after.toList.all fun e => !Region.binds md e || decide (e.on < i)
  | none => false

def acyc0 (md : Region.Mode) (ops : Array Oper) : Bool :=
 let L := Region.linearise md ops 0
 (List.range ops.size).all fun i => match ops[i]? with
  | some o => o.after.toList.all fun e => !Region.binds md e || (decide (L.idxOf e.on < L.idxOf i) && decide (e.on < ops.size))
  | none => false
def acyc (md : Region.Mode) (ops : Array Oper) : Bool := backA md ops || acyc0 md ops

def mDraw (P : Program) (ops : Array Oper) (nt : Nat) (perm : List (Nat × Nat)) (l : List AOper) : Bool :=
 let ms := mkMasks ops.toList []
 let M := fun i => ms.getD i 0
 perm.length == l.length && ((List.range ops.size).all fun i => (perm.map (·.1)).contains i) && nodupB (perm.map (·.1)) && perm.length == ops.size &&
 (if P.follows .mixedOrders || !Region.departs ops then acyc .any ops else acyc .text ops && acyc .gc ops) &&
 ((List.range ops.size).all fun i => match ops[i]? with
  | some o => M i == emask M o.after.toList
  | none => false) &&
 ((zip3 perm l).all fun x => match ops[x.1]? with
  | some o => mOper P ops nt o x.2.2
  | none => false) &&
 pairsOk M (zip3 perm l)

section
variable {rb : Nat} {CM : Nat → Code → ACode → Prop} {base : Nat} {Im0 : Nat → Prop} {w w' : World} {m m' : Mem} {s s' : Sto} {P : Program} {G : Nat → Option (List PVal)} {call : CallF} {C : Nat → List AVal → Option (T AVal)}
 {tm : Array Value} {env : Env} {ds : List Deferred}

theorem OpTo.trans {Q : St → Prop} {mach mach1 : Machine} {mach' : Array Value → World → Machine} {w1 : World} {m1 : Mem} {s1 : Sto} {tm1 : Array Value} (hsz : tm1.size = tm.size) (e : ∀ lo, Evo lo w m s w1 m1 s1) (hst : Steps P mach mach1)
  (h : OpTo CM P G base Im0 w1 m1 s1 tm1 Q mach1 mach') : OpTo CM P G base Im0 w m s tm Q mach mach' := by
 obtain ⟨st', w', m', tm', h1, h2, h3, h4, h5⟩ := h
 exact ⟨st', w', m', tm', h1, h2, h3.trans hsz, fun lo => (e lo).trans (h4 lo), hst.trans h5⟩

theorem evOper_oc (ao : AOper) (st : St) : evOper call C G st ao = (oc call C G 0 0 ao st.env st.sto).bind fun x => .ret ⟨setE st.env ao.dst x.1, x.2⟩ := by
 rw [← evOperD_eq]
 unfold evOper evOperD
 rfl

theorem ops_ok (hcall : CallOk CM P G call) (hC : COk CM P G C) {nt : Nat} {ops : Array Oper} {Q : St → Prop} (b : Frame) (k : List Item) (cs : List Frame) : ∀ (l : List AOper) (os : List Oper) (i : Nat), (∀ j o, os[j]? = some o → ops[i + j]? = some o) →
  mList P ops nt os l = true → ∀ (w : World) (m : Mem) (st : St) (tm : Array Value), At CM G base Im0 w m st.sto tm st.env → nt ≤ tm.size → (evOps call C G l st).All Q →
  OpTo CM P G base Im0 w m st.sto tm Q (lone (b.atR ⟨tm, ds⟩ (.inRegion ops (List.range' i os.length) :: k)) cs w) (fun tm' w' => lone (b.atR ⟨tm', ds⟩ k) cs w') := by
 intro l
 induction l with
 | nil =>
  intro os i ho hm w m st tm hat hnt hq
  cases os with
  | cons => cases hm
  | nil => exact ⟨st, w, m, tm, hq, hat, rfl, fun lo => Evo.refl .., .one stepR_region_end⟩
 | cons a r ih =>
  intro os i ho hm w m st tm hat hnt hq
  cases os with
  | nil => cases hm
  | cons o q =>
   simp only [mList, Bool.and_eq_true] at hm
   simp only [evOps, T.All_bind, evOper_oc, T.All] at hq
   obtain ⟨st1, w1, m1, tm1, h1, h2, h3, h4, h5⟩ := oc_ok (Q := fun st => (evOps call C G r st).All Q) hcall hC (ds := ds) (ho 0 o rfl) hm.1 hat hnt hq b (List.range' (i + 1) q.length) k cs
   exact OpTo.trans h3 h4 h5 (ih q (i + 1) (fun j o' hj => by have := ho (j + 1) o' (by simpa using hj); rwa [show i + 1 + j = i + (j + 1) by omega]) hm.2 w1 m1 st1 tm1 h2 (by omega) h1)

theorem region_ok (hcall : CallOk CM P G call) (hC : COk CM P G C) {nt : Nat} {ops : Array Oper} {Q : St → Prop} (b : Frame) (k : List Item) (cs : List Frame) {l : List AOper} {id : Nat} (hm : mList P ops nt ops.toList l = true)
  {st : St} (hat : At CM G base Im0 w m st.sto tm st.env) (hnt : nt ≤ tm.size) (hq : (evOps call C G l st).All Q) :
  OpTo CM P G base Im0 w m st.sto tm Q (lone (b.atR ⟨tm, ds⟩ (.code (.region id ops false) :: k)) cs w) (fun tm' w' => lone (b.atR ⟨tm', ds⟩ k) cs w') := by
 have := ops_ok hcall hC (ds := ds) b k cs l ops.toList 0 (fun j o hj => by simpa using hj) hm w m st tm hat hnt hq
 rw [Array.length_toList, ← List.range_eq_range'] at this
 exact OpTo.trans rfl (fun lo => Evo.refl ..) (.one stepR_region) this

/-! draws -/

theorem emask_spec {M : Nat → Nat} {p : Nat} : ∀ {l : List Edge}, (emask M l).testBit p = true → ∃ e ∈ l, Region.binds .any e = true ∧ (e.on = p ∨ (M e.on).testBit p = true) := by
 intro l
 induction l with
 | nil => intro h; simp [emask] at h
 | cons e r ih =>
  intro h
  simp only [emask] at h
  split at h
  ·rename_i hb
   simp only [Nat.testBit_or, Bool.or_eq_true, Nat.testBit_two_pow, decide_eq_true_eq] at h
   rcases h with (h | h) | h
   ·exact ⟨e, by simp, hb, .inl h⟩
   ·exact ⟨e, by simp, hb, .inr h⟩
   ·obtain ⟨e', h1, h2⟩ := ih h; exact ⟨e', by simp [h1], h2⟩
  ·obtain ⟨e', h1, h2⟩ := ih h; exact ⟨e', by simp [h1], h2⟩

structure DInv (P : Program) (ops : Array Oper) (nt : Nat) (M : Nat → Nat) (listed : Array Bool) (rem : List (Nat × Nat × AOper)) : Prop where
 size : listed.size = ops.size
 mem : ∀ i, i < ops.size → (listed.getD i true = false ↔ i ∈ rem.map (·.1))
 pairs : rem.Pairwise fun x y => (M y.1).testBit x.1 = true ∨ okSwap x.2 y.2 = true
 nodup : (rem.map (·.1)).Nodup
 closed : ∀ i, i < ops.size → listed.getD i true = true → ∀ p, (M i).testBit p = true → p < ops.size ∧ listed.getD p true = true
 ok : ∀ x ∈ rem, ∃ o, ops[x.1]? = some o ∧ mOper P ops nt o x.2.2 = true

theorem draw_sim (hcall : CallOk CM P G call) (hC : COk CM P G C) {nt : Nat} {ops : Array Oper} {Q : St → Prop} (hQ : QC Q) (b : Frame) (k : List Item) (cs : List Frame) {M : Nat → Nat}
  {md : Region.Mode} (hmd : ∀ e, Region.binds .any e = true → Region.binds md e = true)
  (rk : Nat → Nat) (hrk : ∀ (i : Nat) o, ops[i]? = some o → ∀ e ∈ o.after.toList, Region.binds md e = true → rk e.on < rk i ∧ e.on < ops.size)
  (hedge : ∀ (i : Nat) o, ops[i]? = some o → M i = emask M o.after.toList) :
  ∀ (fuel t : Nat) (listed : Array Bool) (rem : List (Nat × Nat × AOper)), DInv P ops nt M listed rem → rem.length ≤ fuel →
  ∀ (w : World) (m : Mem) (st : St) (tm : Array Value), At CM G base Im0 w m st.sto tm st.env → nt ≤ tm.size → (evOpsD call C G rb (rem.map (·.2)) st).All Q →
  OpTo CM P G base Im0 w m st.sto tm Q (lone (b.atR ⟨tm, ds⟩ (.inRegion ops (Region.linearise.go md ops fuel t listed []) :: k)) cs w) (fun tm' w' => lone (b.atR ⟨tm', ds⟩ k) cs w') := by
 intro fuel
 induction fuel with
 | zero =>
  intro t listed rem hi hl w m st tm hat hnt hq
  have : rem = [] := List.eq_nil_of_length_eq_zero (by omega)
  subst this
  exact ⟨st, w, m, tm, hq, hat, rfl, fun lo => Evo.refl .., .one stepR_region_end⟩
 | succ fuel ih =>
  intro t listed rem hi hl w m st tm hat hnt hq
  simp only [Region.linearise.go]
  change OpTo CM P G base Im0 w m st.sto tm Q (lone (b.atR ⟨tm, ds⟩ (.inRegion ops (match (Region.ready md ops listed)[t % (Region.ready md ops listed).length]? with
   | some i => Region.linearise.go md ops fuel (t / (Region.ready md ops listed).length) (listed.setIfInBounds i true) [i]
   | none => [].reverse) :: k)) cs w) _
  cases hr : (Region.ready md ops listed)[t % (Region.ready md ops listed).length]? with
  | none =>
   have hnil : Region.ready md ops listed = [] := by
    cases hx : Region.ready md ops listed with
    | nil => rfl
    | cons x xs =>
     rw [hx] at hr
     have hlt : t % (x :: xs).length < (x :: xs).length := Nat.mod_lt _ (by simp)
     rw [List.getElem?_eq_getElem hlt] at hr
     cases hr
   have : rem = [] := by
    cases hrem : rem with
    | nil => rfl
    | cons x xs =>
     exfalso
     -- the least one that is not listed is ready
     have hex : ∃ i, i < ops.size ∧ listed.getD i true = false := by
      obtain ⟨o, ho, _⟩ := hi.ok x (by rw [hrem]; simp)
      have hlt := (Array.getElem?_eq_some_iff.1 ho).1
      exact ⟨x.1, hlt, (hi.mem x.1 hlt).2 (by rw [hrem]; simp)⟩
     have key : ∀ n i, rk i < n → i < ops.size → listed.getD i true = false → False := by
      intro n
      induction n with
      | zero => intro i h; omega
      | succ n ihn =>
       intro i hin hlt hun
       by_cases hall : ∀ j, j < ops.size → rk j < rk i → listed.getD j true = true
       ·have hmem : i ∈ Region.ready md ops listed := by
         unfold Region.ready
         refine List.mem_filter.2 ⟨List.mem_range.2 hlt, ?_⟩
         obtain ⟨o, ho⟩ := agetElem?_of_lt ops i hlt
         simp only [hun, ho, Option.map_some, Option.getD_some, Bool.not_false, Bool.true_and]
         rw [← Array.all_toList, List.all_eq_true]
         intro e he
         by_cases hb : Region.binds md e = true
         ·obtain ⟨hr1, hr2⟩ := hrk i o ho e he hb
          have := hall e.on hr2 hr1
          have hsz := hi.size
          simp only [Bool.or_eq_true, Bool.not_eq_true']
          refine .inr ?_
          rw [Array.getD_eq_getD_getElem?, Array.getElem?_eq_getElem (by omega)] at this ⊢
          exact this
         ·simp only [Bool.or_eq_true, Bool.not_eq_true']
          exact .inl (by simpa using hb)
        rw [hnil] at hmem
        cases hmem
       ·obtain ⟨j, hj⟩ := Classical.not_forall.1 hall
        obtain ⟨hj0, hj⟩ := Classical.not_imp.1 hj
        obtain ⟨hj1, hj2⟩ := Classical.not_imp.1 hj
        exact ihn j (by omega) hj0 (by simpa using hj2)
     obtain ⟨i, h1, h2⟩ := hex
     exact key (rk i + 1) i (by omega) h1 h2
   subst this
   exact ⟨st, w, m, tm, hq, hat, rfl, fun lo => Evo.refl .., .one stepR_region_end⟩
  | some i =>
   simp only
   rw [linearise_go_acc, List.reverse_singleton, List.singleton_append]
   have hmem := List.mem_of_getElem? hr
   unfold Region.ready at hmem
   obtain ⟨hir, hcond⟩ := List.mem_filter.1 hmem
   have hlt := List.mem_range.1 hir
   obtain ⟨o, ho⟩ := agetElem?_of_lt ops i hlt
   simp only [ho, Option.map_some, Option.getD_some, Bool.and_eq_true, Bool.not_eq_true'] at hcond
   obtain ⟨hun, hdir⟩ := hcond
   rw [← Array.all_toList, List.all_eq_true] at hdir
   have hsz := hi.size
   have hdirect : ∀ e ∈ o.after.toList, Region.binds .any e = true → e.on < ops.size ∧ listed.getD e.on true = true := fun e he hb => by
    have := hdir e he
    simp only [hmd e hb, Bool.not_true, Bool.false_or] at this
    have hlt' := (hrk i o ho e he (hmd e hb)).2
    refine ⟨hlt', ?_⟩
    rw [Array.getD_eq_getD_getElem?, Array.getElem?_eq_getElem (by omega)] at this ⊢
    exact this
   have hpre : ∀ p, (M i).testBit p = true → p < ops.size ∧ listed.getD p true = true := fun p hp => by
    rw [hedge i o ho] at hp
    obtain ⟨e, he, hb, h1⟩ := emask_spec hp
    obtain ⟨h2, h3⟩ := hdirect e he hb
    rcases h1 with h1 | h1
    ·subst h1; exact ⟨h2, h3⟩
    ·exact hi.closed e.on h2 h3 p h1
   have hin := (hi.mem i hlt).1 hun
   obtain ⟨y, hy, rfl⟩ := List.mem_map.1 hin
   obtain ⟨l1, l2, hrem⟩ := List.append_of_mem hy
   subst hrem
   obtain ⟨o', ho', hmo⟩ := hi.ok y hy
   rw [ho] at ho'
   cases ho'
   have hpw := List.pairwise_append.1 hi.pairs
   have hnd := hi.nodup
   simp only [List.map_append, List.map_cons] at hnd
   have hnd' := List.nodup_append.1 hnd
   have hsw : ∀ x ∈ l1, okSwap x.2 y.2 = true := fun x hx => by
    rcases hpw.2.2 x hx y (by simp) with h1 | h1
    ·obtain ⟨h2, h3⟩ := hpre x.1 h1
     have := (hi.mem x.1 h2).2 (by simp; exact .inl ⟨_, _, hx⟩)
     rw [h3] at this; cases this
    ·exact h1
   simp only [List.map_append, List.map_cons] at hq
   have hfr := front_ok (y := y.2) hQ (l2.map (·.2)) (l1.map (·.2)) (fun x hx => by obtain ⟨x', hx', rfl⟩ := List.mem_map.1 hx; exact hsw x' hx') st hq
   rw [evOperD_eq, T.All_bind] at hfr
   simp only [T.All] at hfr
   rw [← List.map_append] at hfr
   obtain ⟨st1, w1, m1, tm1, h1, h2, h3, h4, h5⟩ := oc_ok (Q := fun st => (evOpsD call C G rb ((l1 ++ l2).map (·.2)) st).All Q) hcall hC (ds := ds) ho hmo hat hnt hfr b
    (Region.linearise.go md ops fuel (t / (Region.ready md ops listed).length) (listed.setIfInBounds y.1 true) []) k cs
   have hget : ∀ j, (listed.setIfInBounds y.1 true).getD j true = if y.1 = j then true else listed.getD j true := fun j => by
    by_cases hj : y.1 = j
    ·subst hj; rw [if_pos rfl]; simp only [Array.getD_eq_getD_getElem?]; rw [Array.getElem?_setIfInBounds_self_of_lt (by omega)]; rfl
    ·rw [if_neg hj]; simp only [Array.getD_eq_getD_getElem?]; rw [Array.getElem?_setIfInBounds_ne hj]
   have hyn : y.1 ∉ l1.map (·.1) ∧ y.1 ∉ l2.map (·.1) := ⟨fun hx => hnd'.2.2 y.1 hx y.1 (by simp) rfl, (List.nodup_cons.1 hnd'.2.1).1⟩
   refine OpTo.trans h3 h4 h5 (ih _ _ (l1 ++ l2) ⟨by simpa using hi.size, fun j hj => ?_, ?_, ?_, fun j hj hlj p hp => ?_, fun x hx => hi.ok x ?_⟩ (by simp at hl ⊢; omega) w1 m1 st1 tm1 h2 (by omega) h1)
   ·rw [hget]
    by_cases hyj : y.1 = j
    ·subst hyj
     simp only [if_true, Bool.true_eq_false, List.map_append, List.mem_append, false_iff, not_or]
     exact hyn
    ·rw [if_neg hyj, hi.mem j hj]
     simp only [List.map_append, List.map_cons, List.mem_append, List.mem_cons]
     constructor
     ·intro h
      rcases h with h | h | h
      ·exact .inl h
      ·exact absurd h.symm hyj
      ·exact .inr h
     ·intro h
      rcases h with h | h
      ·exact .inl h
      ·exact .inr (.inr h)
   ·exact List.pairwise_append.2 ⟨hpw.1, (List.pairwise_cons.1 hpw.2.1).2, fun a ha b hb => hpw.2.2 a ha b (by simp [hb])⟩
   ·rw [List.map_append]
    exact List.nodup_append.2 ⟨hnd'.1, (List.nodup_cons.1 hnd'.2.1).2, fun a ha b hb => hnd'.2.2 a ha b (by simp [hb])⟩
   ·rw [hget] at hlj ⊢
    by_cases hyj : y.1 = j
    ·subst hyj
     obtain ⟨q1, q2⟩ := hpre p hp
     exact ⟨q1, by split <;> first | rfl | exact q2⟩
    ·rw [if_neg hyj] at hlj
     obtain ⟨q1, q2⟩ := hi.closed j hj hlj p hp
     exact ⟨q1, by split <;> first | rfl | exact q2⟩
   ·simp only [List.mem_append, List.mem_cons] at hx ⊢
    rcases hx with hx | hx
    ·exact .inl hx
    ·exact .inr (.inr hx)

theorem pairsOk_spec {M : Nat → Nat} : ∀ {l : List (Nat × Nat × AOper)}, pairsOk M l = true → l.Pairwise fun x y => (M y.1).testBit x.1 = true ∨ okSwap x.2 y.2 = true := by
 intro l
 induction l with
 | nil => intro _; exact .nil
 | cons x r ih =>
  intro h
  simp only [pairsOk, Bool.and_eq_true, List.all_eq_true, Bool.or_eq_true] at h
  exact .cons h.1 (ih h.2)

theorem zip3_spec : ∀ {p : List (Nat × Nat)} {l : List AOper}, p.length = l.length → (zip3 p l).map (·.1) = p.map (·.1) ∧ (zip3 p l).map (·.2) = (p.map (·.2)).zip l ∧ (zip3 p l).length = p.length := by
 intro p
 induction p with
 | nil => intro l h; cases l <;> first | exact ⟨rfl, rfl, rfl⟩ | cases h
 | cons x r ih =>
  intro l h
  cases l with
  | nil => cases h
  | cons o q =>
   obtain ⟨h1, h2, h3⟩ := ih (l := q) (by simpa using h)
   exact ⟨by simp [zip3, h1], by simp [zip3, h2], by simp [zip3, h3]⟩

theorem draw_ok (hcall : CallOk CM P G call) (hC : COk CM P G C) {nt : Nat} {ops : Array Oper} {Q : St → Prop} (hQ : QC Q) (b : Frame) (k : List Item) (cs : List Frame) {perm : List (Nat × Nat)} {l : List AOper} {id : Nat} (hm : mDraw P ops nt perm l = true)
  {st : St} (hat : At CM G base Im0 w m st.sto tm st.env) (hnt : nt ≤ tm.size) (hq : (evOpsD call C G rb ((perm.map (·.2)).zip l) st).All Q) :
  OpTo CM P G base Im0 w m st.sto tm Q (lone (b.atR ⟨tm, ds⟩ (.code (.region id ops true) :: k)) cs w) (fun tm' w' => lone (b.atR ⟨tm', ds⟩ k) cs w') := by
 simp only [mDraw, Bool.and_eq_true, beq_iff_eq, List.all_eq_true] at hm
 obtain ⟨⟨⟨⟨⟨⟨⟨h1, h2⟩, h3⟩, h30⟩, h4⟩, h5⟩, h6⟩, h7⟩ := hm
 obtain ⟨z1, z2, z3⟩ := zip3_spec h1
 have hok : ∀ x ∈ zip3 perm l, ∃ o, ops[x.1]? = some o ∧ mOper P ops nt o x.2.2 = true := fun x hx => by
  have := h6 x hx
  split at this
  ·rename_i o ho; exact ⟨o, ho, this⟩
  ·cases this
 have hedge : ∀ i o, ops[i]? = some o → (mkMasks ops.toList []).getD i 0 = emask (fun i => (mkMasks ops.toList []).getD i 0) o.after.toList := fun i o ho => by
  have := h5 i (List.mem_range.2 (Array.getElem?_eq_some_iff.1 ho).1)
  rw [ho] at this
  simpa using this
 have hnd := nodupB_spec h3
 have hfull : ∀ i, i < ops.size → i ∈ perm.map (·.1) := fun i hi => by simpa using h2 i (List.mem_range.2 hi)
 have hinv : DInv P ops nt (fun i => (mkMasks ops.toList []).getD i 0) (Array.replicate ops.size false) (zip3 perm l) :=
  ⟨by simp, fun i hi => ⟨fun _ => by rw [z1]; exact hfull i hi, fun _ => by simp [hi]⟩, pairsOk_spec h7, by rw [z1]; exact hnd, fun i hi hl => by simp [hi] at hl, hok⟩
 let t := w.tape w.drawn (.order b.fn id)
 have hac : ∀ md, acyc md ops = true → ∃ rk : Nat → Nat, ∀ (i : Nat) o, ops[i]? = some o → ∀ e ∈ o.after.toList, Region.binds md e = true → rk e.on < rk i ∧ e.on < ops.size := fun md ha => by
  simp only [acyc, Bool.or_eq_true] at ha
  rcases ha with ha | ha
  ·refine ⟨fun i => i, fun i o ho e he hb => ?_⟩
   simp only [backA, List.all_eq_true] at ha
   have hi := (Array.getElem?_eq_some_iff.1 ho).1
   have := ha i (List.mem_range.2 hi)
   rw [ho] at this
   simp only [List.all_eq_true] at this
   have := this e he
   simp [hb] at this
   exact ⟨this, by omega⟩
  ·refine ⟨fun i => (Region.linearise md ops 0).idxOf i, fun i o ho e he hb => ?_⟩
   simp only [acyc0, List.all_eq_true] at ha
   have := ha i (List.mem_range.2 (Array.getElem?_eq_some_iff.1 ho).1)
   rw [ho] at this
   simp only [List.all_eq_true] at this
   have := this e he
   simpa [hb] using this
 have hsch : ∃ md t', acyc md ops = true ∧ (∀ e, Region.binds .any e = true → Region.binds md e = true) ∧ Region.schedule (P.follows .mixedOrders) ops t = Region.linearise.go md ops ops.size t' (Array.replicate ops.size false) [] := by
  simp only [Region.schedule, Region.linearise]
  split
  ·rename_i hc
   rw [if_pos hc] at h4
   exact ⟨.any, t, h4, fun e h => h, rfl⟩
  ·rename_i hc
   rw [if_neg hc, Bool.and_eq_true] at h4
   refine ⟨if t % 2 == 0 then .text else .gc, t / 2, by split <;> simp [h4], fun e h => ?_, rfl⟩
   obtain ⟨on, g⟩ := e
   cases g <;> first | rfl | (exfalso; revert h; simp [Region.binds])
 obtain ⟨md, t', hmac, hmd, hsch⟩ := hsch
 obtain ⟨rk, hrk⟩ := hac md hmac
 have hat' : At CM G base Im0 { w with drawn := w.drawn + 1 } m st.sto tm st.env := hat.evo (hat.srep.ext (Ext.drew w)) (fun lo => (Ext.drew w).evo lo m st.sto)
 have := draw_sim hcall hC (ds := ds) hQ b k cs hmd rk hrk hedge ops.size t' (Array.replicate ops.size false) (zip3 perm l) hinv (by omega) { w with drawn := w.drawn + 1 } m st tm hat' hnt (by rw [z2]; exact hq)
 rw [← hsch] at this
 exact OpTo.trans rfl (fun lo => (Ext.drew w).evo lo m st.sto) (.one stepR_region_draw) this

end
end Fw
end

section
/-
  Code: what a run of a piece of code of a frame comes to.
-/

namespace Fw
open Go

def mCode (P : Program) (nt : Nat) : Code → ACode → Bool
 | _, .fail => true
 | .skip, .skip => true
 | .label _, .skip => true
 | .region _ ops false, .ops l _ => mList P ops nt ops.toList l
 | .region _ ops true, .opsd perm l _ => mDraw P ops nt perm l
 | .seq a b, .seq a' b' => mCode P nt a a' && mCode P nt b b'
 | .cond c a b, .cond c' a' b' => mOpd c c' && mCode P nt a a' && mCode P nt b b'
 | .block id b, .block id' b' => id == id' && mCode P nt b b'
 | .loop b, .loop _ _ b' => mCode P nt b b'
 | .rangeFunc f ps a b, .rfun f' ps' a' b' => mOpd f f' && ps.toList == ps' && ps'.all (fun p => decide (p < nt)) && mCode P nt a a' && mCode P nt b b'
 | .exit id, .exit id' => id == id'
 | .ret, .ret => true
 | .scope b, .scope b' => mCode P nt b b'
 | _, _ => false

def CMP (P : Program) (n : Nat) (c : Code) (ac : ACode) : Prop := ∃ nt, nt ≤ n ∧ mCode P nt c ac = true

inductive Marks (w : World) (m : Mem) (s : Sto) (n0 : Nat) : List Deferred → Prop
 | nil : Marks w m s n0 []
 | cons (r : Nat) (ds : List Deferred) : w.heap[r]? = some (.deferred (some [])) → ¬ Own m s r → n0 ≤ r → (∀ d ∈ ds, d ≠ { target := .collected r, args := #[] }) → Marks w m s n0 ds →
   Marks w m s n0 ({ target := .collected r, args := #[] } :: ds)

theorem Marks.evo {w w' : World} {m m' : Mem} {s s' : Sto} {n0 lo : Nat} {ds : List Deferred} (h : Marks w m s n0 ds) (e : Evo lo w m s w' m' s') : Marks w' m' s' n0 ds := by
 induction h with
 | nil => exact .nil
 | cons r ds h1 h2 h3 h4 _ ih => exact .cons r ds (e.keep r _ h1 h2) (fun ho => h2 (e.own r (heap_lt h1) ho)) h3 h4 ih

theorem Marks.lt {w : World} {m : Mem} {s : Sto} {n0 : Nat} {ds : List Deferred} (h : Marks w m s n0 ds) {r : Nat} (hr : { target := .collected r, args := #[] } ∈ ds) : r < w.heap.size := by
 induction h with
 | nil => cases hr
 | cons r' ds h1 h2 h3 h4 _ ih =>
  rcases List.mem_cons.1 hr with e | e
  ·cases e; exact heap_lt h1
  ·exact ih e

structure FrOk (b : Frame) (w : World) (m : Mem) (s : Sto) (n0 : Nat) (ds : List Deferred) : Prop where
 marks : Marks w m s n0 ds
 size : n0 ≤ w.heap.size
 round : ∀ l, b.roundOf = some l → ds = [] ∧ ∃ lp, w.heap[l]? = some (Go.Obj.loop lp)

theorem FrOk.evo {b : Frame} {w w' : World} {m m' : Mem} {s s' : Sto} {n0 lo : Nat} {ds : List Deferred} (h : FrOk b w m s n0 ds) (e : Evo lo w m s w' m' s') : FrOk b w' m' s' n0 ds :=
 ⟨h.marks.evo e, Nat.le_trans h.size e.size, fun l hl => let ⟨a, lp, c⟩ := h.round l hl; ⟨a, e.loops l lp c⟩⟩

def Arr (P : Program) (b : Frame) (k : List Item) (cs : List Frame) (mach : Machine) (tm : Array Value) (ds : List Deferred) (w : World) : Ex → Prop
 | .normal => Steps P mach (lone (b.atR ⟨tm, ds⟩ k) cs w)
 | .ret => ∃ t, Steps P mach (lone (b.atR ⟨tm, ds⟩ (.code .ret :: t)) cs w)
 | .exit id => ∃ t, exitTo id t = exitTo id k ∧ Steps P mach (lone (b.atR ⟨tm, ds⟩ (.code (.exit id) :: t)) cs w)

theorem Arr.head {P : Program} {b : Frame} {k : List Item} {cs : List Frame} {mach mach1 : Machine} {tm : Array Value} {ds : List Deferred} {w : World} {ex : Ex} (h : Steps P mach mach1) (h2 : Arr P b k cs mach1 tm ds w ex) : Arr P b k cs mach tm ds w ex := by
 cases ex with
 | normal => exact h.trans h2
 | ret => exact let ⟨t, a⟩ := h2; ⟨t, h.trans a⟩
 | exit id => exact let ⟨t, e, a⟩ := h2; ⟨t, e, h.trans a⟩

theorem Arr.jump {P : Program} {b : Frame} {k k' : List Item} {cs : List Frame} {mach : Machine} {tm : Array Value} {ds : List Deferred} {w : World} {ex : Ex} (h : Arr P b k cs mach tm ds w ex) (hn : ex ≠ .normal) (hk : ∀ id, exitTo id k = exitTo id k') :
  Arr P b k' cs mach tm ds w ex := by
 cases ex with
 | normal => exact absurd rfl hn
 | ret => exact h
 | exit id => exact let ⟨t, e, a⟩ := h; ⟨t, e.trans (hk id), a⟩

def CodeTo (CM : Nat → Code → ACode → Prop) (P : Program) (G : Nat → Option (List PVal)) (base : Nat) (Im0 : Nat → Prop) (lo n0 : Nat) (b : Frame) (k : List Item) (cs : List Frame) (w : World) (m : Mem) (s : Sto) (tm : Array Value)
  (Q : Ex × St → Prop) (mach : Machine) : Prop :=
 ∃ ex st' w' m' tm' ds', Q (ex, st') ∧ At CM G base Im0 w' m' st'.sto tm' st'.env ∧ tm'.size = tm.size ∧ Evo lo w m s w' m' st'.sto ∧ FrOk b w' m' st'.sto n0 ds' ∧ Arr P b k cs mach tm' ds' w' ex

section
variable {CM : Nat → Code → ACode → Prop} {base : Nat} {Im0 : Nat → Prop} {lo n0 : Nat} {w w' : World} {m m' : Mem} {s s' : Sto} {P : Program} {G : Nat → Option (List PVal)} {call : CallF} {C : Nat → List AVal → Option (T AVal)}
 {tm : Array Value} {env : Env} {ds : List Deferred} {b : Frame} {k : List Item} {cs : List Frame}

theorem look_restrict (env : Env) (live : List Nat) (t : Nat) : look (restrict env live) t = look env t ∨ look (restrict env live) t = .any := by
 unfold restrict
 induction live with
 | nil => exact .inr rfl
 | cons x r ih =>
  simp only [List.map_cons, look]
  split
  ·rename_i e; subst e; exact .inl rfl
  ·exact ih

theorem restrict_congr {e1 e2 : Env} (h : ∀ t, look e1 t = look e2 t) (live : List Nat) : restrict e1 live = restrict e2 live := by
 unfold restrict
 exact List.map_congr_left (fun t _ => by rw [h])

theorem At.restrict (h : At CM G base Im0 w m s tm env) (live : List Nat) : At CM G base Im0 w m s tm (restrict env live) where
 srep := h.srep
 hb := h.hb
 glob := h.glob
 env t := by
  rcases look_restrict env live t with e | e
  ·rw [e]; exact h.env t
  ·rw [e]; exact .any _

theorem At.gc (h : At CM G base Im0 w m s tm env) (lo : Nat) : At CM G base Im0 w m (gc lo env s) tm env ∧ Evo lo w m s w m (Fw.gc lo env s) := by
 obtain ⟨h1, h2, h3⟩ := gc_rep h.srep lo env
 exact ⟨⟨h1, h.hb, gc_env h.srep lo env h.env, h.glob.mono h2.keeps⟩, h2⟩

theorem CodeTo.pre {Q : Ex × St → Prop} {mach mach1 : Machine} {w1 : World} {m1 : Mem} {s1 : Sto} {tm1 : Array Value} (hsz : tm1.size = tm.size) (e : Evo lo w m s w1 m1 s1) (hst : Steps P mach mach1)
  (h : CodeTo CM P G base Im0 lo n0 b k cs w1 m1 s1 tm1 Q mach1) : CodeTo CM P G base Im0 lo n0 b k cs w m s tm Q mach := by
 obtain ⟨ex, st', w', m', tm', ds', h1, h2, h3, h4, h5, h6⟩ := h
 exact ⟨ex, st', w', m', tm', ds', h1, h2, h3.trans hsz, e.trans h4, h5, h6.head hst⟩

theorem OpTo.code {Q : St → Prop} {K : Ex × St → Prop} {mach : Machine} (hf : FrOk b w m s n0 ds) (h : OpTo CM P G base Im0 w m s tm Q mach (fun tm' w' => lone (b.atR ⟨tm', ds⟩ k) cs w')) {live : List Nat}
  (hQ : ∀ st, Q st → K (.normal, ⟨Fw.restrict st.env live, st.sto⟩)) : CodeTo CM P G base Im0 lo n0 b k cs w m s tm K mach := by
 obtain ⟨st', w', m', tm', h1, h2, h3, h4, h5⟩ := h
 exact ⟨.normal, _, w', m', tm', ds, hQ st' h1, h2.restrict live, h3, h4 lo, hf.evo (h4 lo), h5⟩

theorem loop_ok {nt : Nat} {step : St → T (Ex × St)} {c : Code} (hstep : ∀ (Q : Ex × St → Prop) (w : World) (m : Mem) (st : St) (tm : Array Value) (ds : List Deferred), At CM G base Im0 w m st.sto tm st.env → nt ≤ tm.size → FrOk b w m st.sto n0 ds → (step st).All Q →
   CodeTo CM P G base Im0 lo n0 b (.inLoop c :: k) cs w m st.sto tm Q (lone (b.atR ⟨tm, ds⟩ (.code c :: .inLoop c :: k)) cs w)) {Q : Ex × St → Prop} : ∀ (n : Nat) (w : World) (m : Mem) (st : St) (tm : Array Value) (ds : List Deferred), At CM G base Im0 w m st.sto tm st.env → nt ≤ tm.size → FrOk b w m st.sto n0 ds → (loopN step n st).All Q →
   CodeTo CM P G base Im0 lo n0 b k cs w m st.sto tm Q (lone (b.atR ⟨tm, ds⟩ (.code c :: .inLoop c :: k)) cs w) := by
 intro n
 induction n with
 | zero => intro w m st tm ds _ _ _ hq; exact hq.elim
 | succ n ih =>
  intro w m st tm ds hat hnt hf hq
  simp only [loopN, T.All_bind] at hq
  obtain ⟨ex, st', w', m', tm', ds', h1, h2, h3, h4, h5, h6⟩ := hstep _ w m st tm ds hat hnt hf hq
  cases ex with
  | normal =>
   simp only at h1
   exact CodeTo.pre h3 h4 (Steps.trans h6 (.one stepR_inLoop)) (ih w' m' st' tm' ds' h2 (by omega) h5 h1)
  | ret => exact ⟨.ret, st', w', m', tm', ds', h1, h2, h3, h4, h5, h6⟩
  | exit id => exact ⟨.exit id, st', w', m', tm', ds', h1, h2, h3, h4, h5, h6.jump (by simp) (fun id => by simp [exitTo])⟩

end
end Fw
end

section
/-
  Loops over functions; code.
-/
namespace Fw
open Go

section
variable {CM : Nat → Code → ACode → Prop} {base : Nat} {Im0 : Nat → Prop} {lo n0 : Nat} {w w' : World} {m m' : Mem} {s s' : Sto} {P : Program} {G : Nat → Option (List PVal)} {call : CallF} {C : Nat → List AVal → Option (T AVal)}
 {tm : Array Value} {env : Env} {ds : List Deferred} {b : Frame} {k : List Item} {cs : List Frame}

theorem run_getLoop {l : Nat} {lp : Loop} (h : w.heap[l]? = some (Go.Obj.loop lp)) : (Instr.getLoop l).run P w = .ok lp w := by
 simp [Instr.getLoop, show (getObj l).run P w = .ok (.loop lp) w by simp [getObj, Sem.run, h], Result.andThen]

theorem run_setObj_loop {l : Nat} {lp : Loop} (o : Go.Obj) (h : w.heap[l]? = some (Go.Obj.loop lp)) : (setObj l o).run P w = .ok () (setB w l o) := by
 simp [setObj, Sem.run, h, setB]

theorem run_beginRound {l : Nat} {lp : Loop} (h : w.heap[l]? = some (Go.Obj.loop lp)) (hs : lp.state = .ready) : (Instr.beginRound l).run P w = .ok () (setB w l (.loop { lp with state := .busy })) := by
 simp only [Instr.beginRound, Sem.run_bind, run_getLoop h, Result.andThen_ok, run_setObj_loop _ h, hs]
 rfl

theorem run_endRound {l : Nat} {lp : Loop} (j : Option Code) (h : w.heap[l]? = some (Go.Obj.loop lp)) : (Instr.endRound l j).run P w = .ok (.bool j.isNone) (setB w l (.loop { lp with state := if j.isNone then .ready else .done, pending := j })) := by
 simp only [Instr.endRound, Sem.run_bind, run_getLoop h, Result.andThen_ok, run_setObj_loop _ h]
 rfl

theorem run_endLoop {l : Nat} {lp : Loop} (h : w.heap[l]? = some (Go.Obj.loop lp)) (hs : lp.state ≠ .busy) : (Instr.endLoop l).run P w = .ok lp.pending (setB w l (.loop { lp with state := .exhausted })) := by
 have : (lp.state == LoopState.busy) = false := by simpa using hs
 simp only [Instr.endLoop, Sem.run_bind, run_getLoop h, Result.andThen_ok, this, Bool.false_eq_true, if_false, run_setObj_loop _ h]
 rfl

theorem enter_ok (hs : SRep CM base Im0 w m s) (hf : FrOk b w m s n0 ds) (ps : Array Tmp) (as bd : Code) :
  ∃ w0 mark df, (Instr.enterLoop b.fn tm ps as bd b.roundOf).run P w = .ok (w0.heap.size, mark) (w0.alloc (.loop { state := .ready, pending := none, fn := b.fn, tmps := tm, params := ps, assign := as, body := bd, defers := df })) ∧
   Ext w w0 ∧ FrOk b w0 m s n0 (mark ++ ds) := by
 cases hr : b.roundOf with
 | none =>
  refine ⟨w.alloc (.deferred (some [])), [{ target := .collected w.heap.size, args := #[] }], w.heap.size, ?_, Ext.alloc .., ?_⟩
  ·simp [Instr.enterLoop, Result.andThen]
   rfl
  ·have e := (Ext.alloc w (.deferred (some []))).evo 0 m s
   refine ⟨.cons _ _ (alloc_new w _) (fun ⟨i, o, z, h1, _, h3⟩ => ?_) hf.size (fun d hd he => ?_) (hf.marks.evo e), Nat.le_trans hf.size e.size, fun l hl => by rw [hr] at hl; cases hl⟩
   ·have := (hs.rng i o _ z h1 h3).2; omega
   ·subst he; have := hf.marks.lt hd; omega
 | some l =>
  obtain ⟨h1, lp, h2⟩ := hf.round l hr
  refine ⟨w, [], lp.defers, ?_, Ext.refl w, ?_⟩
  ·simp [Instr.enterLoop, run_getLoop h2, Result.andThen]
   try rfl
  ·simpa using hf

theorem stepR_rfun' {a : Act} {g : Operand} {ps : Array Tmp} {as bd : Code} {l : Nat} {mark : List Deferred} {w1 w2 w3 : World} {d : Deferred} {f : Nat} {args : Array Value}
  (he : (Instr.enterLoop b.fn a.tmps ps as bd b.roundOf).run P w = .ok (l, mark) w1)
  (hres : (resolve a.eval { callee := .value g, args := #[.const (.func (.yield l) #[] #[])], argTypes := #[] } 0).run P w1 = .ok d w2) (hinv : (invoke d.target d.args).run P w2 = .ok (.enter f args) w3) :
  step P (lone (b.atR a (.code (.rangeFunc g ps as bd) :: k)) cs w) = .next (lone (Frame.enter P f args .normal) (b.atR { a with defers := mark ++ a.defers } (.inRangeFunc l :: k) :: cs) w3) :=
 step_lone_go (by
  have hev := Frame.eval_atR b { a with defers := mark ++ a.defers } (.inRangeFunc l :: k)
  simp only [Frame.atR] at hev
  have hres' : Sem.run P (resolve ({ tmps := a.tmps, defers := mark ++ a.defers } : Act).eval { callee := .value g, args := #[.const (.func (.yield l) #[] #[])], argTypes := #[] } 0) w1 = .ok d w2 := hres
  simp [stepG, stepG.exec, Frame.atR, Sem.runT_eq, he, GStep.bare_after, stepG.apply, hev, Sem.run_bind, hres', hinv, Result.andThen])

theorem stepR_rfun {g : Operand} {ps : Array Tmp} {as bd : Code} {l : Nat} {mark : List Deferred} {w1 : World} {f : Nat} {fs caps : Array Value}
  (he : (Instr.enterLoop b.fn tm ps as bd b.roundOf).run P w = .ok (l, mark) w1) (hg : Act.eval ⟨tm, ds⟩ g = .func (.func f) fs caps) {args : Array Value}
  (hargs : fs ++ #[.func (.yield l) #[] #[]] ++ caps = args) (hinv : (callFunc f args).run P w1 = .ok (.enter f args) w1) :
  step P (lone (b.atR ⟨tm, ds⟩ (.code (.rangeFunc g ps as bd) :: k)) cs w) = .next (lone (Frame.enter P f args .normal) (b.atR ⟨tm, mark ++ ds⟩ (.inRangeFunc l :: k) :: cs) w1) := by
 refine stepR_rfun' (a := ⟨tm, ds⟩) (d := { target := .fn (.func f) caps, args := fs ++ #[.func (.yield l) #[] #[]] }) he (w2 := w1) ?_ ?_
 ·have hm : Array.map (Act.eval ⟨tm, ds⟩) #[.const (.func (.yield l) #[] #[])] = #[.func (.yield l) #[] #[]] := by simp [Act.eval]
  simp only [resolve, hg, Deferred.ofValue, hm]
  rfl
 ·subst hargs; exact hinv

theorem finish_inRangeFunc {a : Act} (l : Nat) (v : Value) : (b.atR a (.inRangeFunc l :: k)).finish v = b.atR a (.endRangeFunc l :: k) := by
 simp [Frame.finish, Frame.atR]

theorem stepR_endRfun {a : Act} {l : Nat} {jump : Option Code} (h : (Instr.endLoop l).run P w = .ok jump w') :
  step P (lone (b.atR a (.endRangeFunc l :: k)) cs w) = .next (lone (b.atR a ((jump.map Item.code).toList ++ k)) cs w') :=
 step_lone_go (by simp [stepG, stepG.exec, Frame.atR, Sem.runT_eq, h, GStep.bare_after])

theorem put_loop (h : SRep CM base Im0 w m s) {i : Nat} {env : Env} {ps : List Nat} {as bd : ACode} {j j' : Option ACode} {st st' : Nat} (hg : get s i = some (.loop env ps as bd j st)) {l z : Nat} {lp : Loop} (hm : m i = some (l, z)) (hl : w.heap[l]? = some (Go.Obj.loop lp))
  (p' : Option Code) (t' : LoopState) (hj : JRep p' j') (ht : t' = stOf st') :
  SRep CM base Im0 (setB w l (.loop { lp with pending := p', state := t' })) m (Fw.put s i (.loop env ps as bd j' st')) ∧ ∀ lo, Evo lo w m s (setB w l (.loop { lp with pending := p', state := t' })) m (Fw.put s i (.loop env ps as bd j' st')) := by
 obtain ⟨bk, z', lp', h1, h2, h3, h4, h5, h6, h7, h8, h9⟩ := h.obj i _ hg
 rw [hm] at h1; cases h1
 rw [hl] at h2; cases h2
 have hupd : upd m i (m i) = m := by funext x; unfold upd; split <;> simp_all
 have := h.put (w' := setB w l (.loop { lp with pending := p', state := t' })) (o' := .loop env ps as bd j' st') hg (m i) rfl rfl rfl (by rw [setB_size]; exact Nat.le_refl _)
  (fun c hc hz => setB_ne w _ (fun e => by subst e; have := hz z hm; cases this))
  (fun c z2 lp2 hc hlp => by rw [hm] at hc; cases hc; exact ⟨_, setB_same w _ (heap_lt hl)⟩)
  (fun c z2 hc => .inl ⟨z2, hc⟩) rfl rfl (Nat.le_refl _) (fun _ => ⟨rfl, rfl⟩) (fun h => h)
  (fun I' hk hko _ => ⟨l, z, { lp with pending := p', state := t' }, by rw [upd_same]; exact hm, setB_same w _ (heap_lt hl), h3, h4, h5, h6, fun t => (h7 t).mono hk hko, hj, ht⟩)
 rw [hupd] at this
 exact this

end
end Fw
end

section
/-
  Code: each piece.
-/
namespace Fw
open Go

section
variable {base : Nat} {Im0 : Nat → Prop} {lo n0 : Nat} {w w' : World} {m m' : Mem} {s s' : Sto} {P : Program} {G : Nat → Option (List PVal)} {call : CallF} {C : Nat → List AVal → Option (T AVal)}
 {tm : Array Value} {env : Env} {ds : List Deferred}

theorem rfun_ok (hcall : CallOk (CMP P) P G call) {nt : Nat} {f : Operand} {f' : Opd} {ps : Array Tmp} {ps' : List Nat} {as bd : Code} {as' bd' : ACode} (hm1 : mOpd f f' = true) (hm2 : ps.toList = ps') (hm3 : ∀ p ∈ ps', p < nt) (hm4 : mCode P nt as as' = true) (hm5 : mCode P nt bd bd' = true)
  (b : Frame) (k : List Item) (cs : List Frame) {st : St} (hat : At (CMP P) G base Im0 w m st.sto tm st.env) (hnt : nt ≤ tm.size) (hf : FrOk b w m st.sto n0 ds) {Q : Ex × St → Prop} (hq : (evCode call C G lo (.rfun f' ps' as' bd') st).All Q) :
  CodeTo (CMP P) P G base Im0 lo n0 b k cs w m st.sto tm Q (lone (b.atR ⟨tm, ds⟩ (.code (.rangeFunc f ps as bd) :: k)) cs w) := by
 simp only [evCode] at hq
 split at hq
 ·rename_i g first caps hcal
  rw [T.All_bind] at hq
  obtain ⟨w0, mark, df, he, hext, hf0⟩ := enter_ok (tm := tm) hat.srep hf ps as bd
  have hat0 : At (CMP P) G base Im0 w0 m st.sto tm st.env := hat.evo (hat.srep.ext hext) (fun lo => hext.evo lo m st.sto)
  generalize hL : ({ state := .ready, pending := none, fn := b.fn, tmps := tm, params := ps, assign := as, body := bd, defers := df } : Loop) = L at he
  have L1 : L.params = ps := by rw [← hL]
  have L2 : L.tmps = tm := by rw [← hL]
  have L3 : L.assign = as := by rw [← hL]
  have L4 : L.body = bd := by rw [← hL]
  have L5 : L.pending = none := by rw [← hL]
  have L6 : L.state = .ready := by rw [← hL]
  obtain ⟨hs1, ev1⟩ := hat0.srep.new (Ext.alloc w0 (.loop L)) hat0.hb (.loop st.env ps' as' bd' none 0) (some (w0.heap.size, 0)) (fun b z hx => by cases hx; simp)
   (fun I' m' s' hk hko hg hmm _ => ⟨w0.heap.size, 0, L, hmm, alloc_new w0 _, by rw [L1]; exact hm2, by rw [L2]; exact fun p hp => Nat.lt_of_lt_of_le (hm3 p hp) hnt, by rw [L2, L3]; exact ⟨nt, hnt, hm4⟩, by rw [L2, L4]; exact ⟨nt, hnt, hm5⟩,
    by rw [L2]; exact fun t => (hat0.env t).mono hk hko, by rw [L5]; trivial, by rw [L6]; rfl⟩)
  have hat1 := hat0.evo hs1 ev1
  have hf1 := hf0.evo (ev1 0)
  have hgid : get ((nextId st.sto, Obj.loop st.env ps' as' bd' none 0) :: st.sto) (nextId st.sto) = some (.loop st.env ps' as' bd' none 0) := by rw [get_new, if_pos rfl]
  have hmid : upd m (nextId st.sto) (some (w0.heap.size, 0)) (nextId st.sto) = some (w0.heap.size, 0) := upd_same _ _ _
  obtain ⟨fn, fs, cps, e1, e2, e3, e4⟩ := callee_ok (x := f) (c := .val f') (by cases f <;> exact hm1) (hat1.opd (ds := ds)) (fun _ => rfl) hcal
  simp only at e4
  subst e4
  have hargs := (e2.append (⟨rfl, fun j u a hu ha => by
    match j with
    | 0 => simp at hu ha; subst hu ha; exact .yld _ _ _ _ hgid rfl rfl hmid
    | j + 1 => simp at ha⟩ : RArgs (w0.alloc (.loop L)) (Im base Im0 (upd m (nextId st.sto) (some (w0.heap.size, 0))) ((nextId st.sto, Obj.loop st.env ps' as' bd' none 0) :: st.sto)) (upd m (nextId st.sto) (some (w0.heap.size, 0))) ((nextId st.sto, Obj.loop st.env ps' as' bd' none 0) :: st.sto) #[.func (.yield w0.heap.size) #[] #[]] [.yld (nextId st.sto)])).append e3
  have hc := hcall (.fn g) _ _ _ hq base Im0 _ _ _ hs1 hat1.hb hat1.glob hargs
  simp only at hc
  obtain ⟨hc1, hc2⟩ := hc
  have henter := stepR_rfun (k := k) (cs := cs) he e1 rfl hc1
  obtain ⟨e, w2, fr, ⟨v, rfl, a, s2, m2, q1, q2, q3, q4⟩, hst, _, hleave⟩ := hc2 (b.atR ⟨tm, mark ++ ds⟩ (.inRangeFunc w0.heap.size :: k) :: cs)
  have hback := step_leave_returned (c := b.atR ⟨tm, mark ++ ds⟩ (.inRangeFunc w0.heap.size :: k)) (cs := cs) hleave
  rw [finish_inRangeFunc] at hback
  have hat2 := hat1.evo q2 q3
  have hf2 := hf1.evo (q3 0)
  simp only at q1
  split at q1
  ·rename_i e1' p1 a1 b1 j n hg2
   split at q1
   ·exact q1.elim
   ·rename_i hn
    obtain ⟨o', k1, k2, k3, k4, k5⟩ := (q3 (nextId st.sto + 1)).obj (nextId st.sto) (by omega) _ hgid
    rw [hg2] at k1; cases k1
    have hm2' := (k5 rfl).1.trans hmid
    obtain ⟨bk, z', lp, r1, r2, r3, r4, r5, r6, r7, r8, r9⟩ := q2.obj _ _ hg2
    rw [hm2'] at r1; cases r1
    have hend := run_endLoop (P := P) r2 (by rw [r9]; intro hb; apply hn; unfold stOf at hb; split at hb <;> first | rfl | cases hb)
    obtain ⟨hs3, ev3⟩ := put_loop q2 hg2 hm2' r2 lp.pending .exhausted r8 (st' := 3) rfl
    have hat3 := hat2.evo hs3 ev3
    obtain ⟨hat4, ev4⟩ := hat3.gc lo
    have hf4 := (hf2.evo (ev3 0)).evo ev4
    have hsteps := Steps.trans (Steps.head henter (Steps.trans hst (.one hback))) (.one (stepR_endRfun (a := ⟨tm, mark ++ ds⟩) (k := k) (cs := cs) hend))
    have evo : Evo lo w m st.sto _ _ _ := (hext.evo lo m st.sto).trans ((ev1 lo).trans ((q3 lo).trans ((ev3 lo).trans ev4)))
    unfold JRep at r8
    split at r8
    ·rename_i hp
     rw [hp] at hsteps hat4 hf4 evo
     exact ⟨.normal, _, _, _, tm, _, q1, hat4, rfl, evo, hf4, hsteps⟩
    ·rename_i i j hp
     subst r8
     rw [hp] at hsteps hat4 hf4 evo
     exact ⟨.exit _, _, _, _, tm, _, q1, hat4, rfl, evo, hf4, k, rfl, hsteps⟩
    ·rename_i hp
     rw [hp] at hsteps hat4 hf4 evo
     exact ⟨.ret, _, _, _, tm, _, q1, hat4, rfl, evo, hf4, k, hsteps⟩
    ·exact r8.elim
  ·exact q1.elim
 ·exact hq.elim

end
end Fw
end

section
/-
  Code: all of it.
-/
namespace Fw
open Go

section
variable {base : Nat} {Im0 : Nat → Prop} {lo n0 : Nat} {w w' : World} {m m' : Mem} {s s' : Sto} {P : Program} {G : Nat → Option (List PVal)} {call : CallF} {C : Nat → List AVal → Option (T AVal)}
 {tm : Array Value} {env : Env} {ds : List Deferred}

theorem code_ok (hcall : CallOk (CMP P) P G call) (hC : COk (CMP P) P G C) {nt : Nat} : ∀ (ac : ACode) (c : Code), mCode P nt c ac = true → ∀ (b : Frame) (k : List Item) (cs : List Frame) (Q : Ex × St → Prop) (w : World) (m : Mem) (st : St) (tm : Array Value) (ds : List Deferred),
  At (CMP P) G base Im0 w m st.sto tm st.env → nt ≤ tm.size → FrOk b w m st.sto n0 ds → (evCode call C G lo ac st).All Q →
  CodeTo (CMP P) P G base Im0 lo n0 b k cs w m st.sto tm Q (lone (b.atR ⟨tm, ds⟩ (.code c :: k)) cs w) := by
 intro ac
 induction ac with
 | fail => intro c _ b k cs Q w m st tm ds _ _ _ hq; exact hq.elim
 | skip =>
  intro c hm b k cs Q w m st tm ds hat hnt hf hq
  cases c <;> (try (first | (exfalso; simp [mCode] at hm; done) | (rename_i d; exfalso; cases d <;> simp [mCode] at hm <;> done)))
  ·exact ⟨.normal, st, w, m, tm, ds, hq, hat, rfl, Evo.refl .., hf, .one stepR_skip⟩
  ·exact ⟨.normal, st, w, m, tm, ds, hq, hat, rfl, Evo.refl .., hf, .one stepR_label⟩
 | ops l live =>
  intro c hm b k cs Q w m st tm ds hat hnt hf hq
  cases c <;> (try (first | (exfalso; simp [mCode] at hm; done) | (rename_i d; exfalso; cases d <;> simp [mCode] at hm <;> done)))
  rename_i id ops d
  cases d <;> (try (exfalso; simp [mCode] at hm; done))
  simp only [mCode] at hm
  simp only [evCode, T.All_bind] at hq
  exact OpTo.code (Q := fun st => Q (.normal, ⟨Fw.restrict st.env live, st.sto⟩)) hf (region_ok hcall hC (ds := ds) b k cs hm hat hnt hq) (fun st h => h)
 | opsd perm l live =>
  intro c hm b k cs Q w m st tm ds hat hnt hf hq
  cases c <;> (try (first | (exfalso; simp [mCode] at hm; done) | (rename_i d; exfalso; cases d <;> simp [mCode] at hm <;> done)))
  rename_i id ops d
  cases d <;> (try (exfalso; simp [mCode] at hm; done))
  simp only [mCode] at hm
  simp only [evCode, T.All_bind] at hq
  exact OpTo.code (Q := fun st => Q (.normal, ⟨Fw.restrict st.env live, st.sto⟩)) hf (draw_ok hcall hC (ds := ds) (fun e1 e2 s he h => by simp only at h ⊢; rwa [← restrict_congr he]) b k cs hm hat hnt hq) (fun st h => h)
 | seq x y ihx ihy =>
  intro c hm b k cs Q w m st tm ds hat hnt hf hq
  cases c <;> (try (first | (exfalso; simp [mCode] at hm; done) | (rename_i d; exfalso; cases d <;> simp [mCode] at hm <;> done)))
  rename_i x' y'
  simp only [mCode, Bool.and_eq_true] at hm
  simp only [evCode, T.All_bind] at hq
  obtain ⟨ex, st', w', m', tm', ds', h1, h2, h3, h4, h5, h6⟩ := ihx x' hm.1 b (.code y' :: k) cs _ w m st tm ds hat hnt hf hq
  cases ex with
  | normal => exact CodeTo.pre h3 h4 (Steps.head stepR_seq h6) (ihy y' hm.2 b k cs Q w' m' st' tm' ds' h2 (by omega) h5 h1)
  | ret => exact ⟨.ret, st', w', m', tm', ds', h1, h2, h3, h4, h5, (Arr.head (.one stepR_seq) h6).jump (by simp) (fun id => by simp [exitTo])⟩
  | exit id => exact ⟨.exit id, st', w', m', tm', ds', h1, h2, h3, h4, h5, (Arr.head (.one stepR_seq) h6).jump (by simp) (fun id => by simp [exitTo])⟩
 | cond x y z ihy ihz =>
  intro c hm b k cs Q w m st tm ds hat hnt hf hq
  cases c <;> (try (first | (exfalso; simp [mCode] at hm; done) | (rename_i d; exfalso; cases d <;> simp [mCode] at hm <;> done)))
  rename_i x' y' z'
  simp only [mCode, Bool.and_eq_true] at hm
  simp only [evCode] at hq
  split at hq
  ·rename_i t ht
   have hv := hat.opd (ds := ds) x' x hm.1.1
   have : evOpd G st.env x = .p (.bool t) := by
    generalize evOpd G st.env x = v at ht
    unfold asB at ht
    split at ht
    ·cases ht; rfl
    ·cases ht
   rw [this] at hv
   have hs := stepR_cond (P := P) (b := b) (a := ⟨tm, ds⟩) (k := k) (cs := cs) (w := w) (x := y') (y := z') (inv_bool hv)
   cases t with
   | true =>
    simp only [if_true] at hq hs
    exact CodeTo.pre rfl (Evo.refl ..) (.one hs) (ihy y' hm.1.2 b k cs Q w m st tm ds hat hnt hf hq)
   | false =>
    simp only [Bool.false_eq_true, if_false] at hq hs
    exact CodeTo.pre rfl (Evo.refl ..) (.one hs) (ihz z' hm.2 b k cs Q w m st tm ds hat hnt hf hq)
  ·exact hq.elim
 | block id x ih =>
  intro c hm b k cs Q w m st tm ds hat hnt hf hq
  cases c <;> (try (first | (exfalso; simp [mCode] at hm; done) | (rename_i d; exfalso; cases d <;> simp [mCode] at hm <;> done)))
  rename_i id' x'
  simp only [mCode, Bool.and_eq_true, beq_iff_eq] at hm
  obtain ⟨rfl, hm⟩ := hm
  simp only [evCode, T.All_bind] at hq
  obtain ⟨ex, st', w', m', tm', ds', h1, h2, h3, h4, h5, h6⟩ := ih x' hm b (.inBlock id' :: k) cs _ w m st tm ds hat hnt hf hq
  have h7 := Arr.head (.one stepR_block) h6
  cases ex with
  | normal => exact ⟨.normal, st', w', m', tm', ds', h1, h2, h3, h4, h5, Steps.trans h7 (.one stepR_inBlock)⟩
  | ret => exact ⟨.ret, st', w', m', tm', ds', h1, h2, h3, h4, h5, h7⟩
  | exit j =>
   obtain ⟨t, ht, hst⟩ := h7
   simp only at h1
   split at h1
   ·rename_i e; subst e
    exact ⟨.normal, st', w', m', tm', ds', h1, h2, h3, h4, h5, Steps.trans hst (.one (stepR_exit (by rw [ht]; simp [exitTo])))⟩
   ·rename_i e
    exact ⟨.exit j, st', w', m', tm', ds', h1, h2, h3, h4, h5, t, by rw [ht]; simp [exitTo, Ne.symm e], hst⟩
 | loop g live x ih =>
  intro c hm b k cs Q w m st tm ds hat hnt hf hq
  cases c <;> (try (first | (exfalso; simp [mCode] at hm; done) | (rename_i d; exfalso; cases d <;> simp [mCode] at hm <;> done)))
  rename_i x'
  simp only [mCode] at hm
  simp only [evCode] at hq
  refine CodeTo.pre rfl (Evo.refl ..) (.one stepR_loop) (loop_ok (nt := nt) (fun Q w m st tm ds hat hnt hf hq => ?_) loopFuel w m st tm ds hat hnt hf hq)
  have hr := hat.restrict live
  cases g with
  | false =>
   simp only [Bool.false_eq_true, if_false] at hq
   exact ih x' hm b (.inLoop x' :: k) cs Q w m ⟨restrict st.env live, st.sto⟩ tm ds hr hnt hf hq
  | true =>
   simp only [if_true] at hq
   obtain ⟨hg, ev⟩ := hr.gc lo
   exact CodeTo.pre rfl ev (.refl ..) (ih x' hm b (.inLoop x' :: k) cs Q w m ⟨restrict st.env live, gc lo (restrict st.env live) st.sto⟩ tm ds hg hnt (hf.evo ev) hq)
 | rfun f ps x y ihx ihy =>
  intro c hm b k cs Q w m st tm ds hat hnt hf hq
  cases c <;> (try (first | (exfalso; simp [mCode] at hm; done) | (rename_i d; exfalso; cases d <;> simp [mCode] at hm <;> done)))
  simp only [mCode, Bool.and_eq_true, beq_iff_eq, List.all_eq_true, decide_eq_true_eq] at hm
  obtain ⟨⟨⟨⟨h1, h2⟩, h3⟩, h4⟩, h5⟩ := hm
  exact rfun_ok hcall h1 h2 h3 h4 h5 b k cs hat hnt hf hq
 | exit id =>
  intro c hm b k cs Q w m st tm ds hat hnt hf hq
  cases c <;> (try (first | (exfalso; simp [mCode] at hm; done) | (rename_i d; exfalso; cases d <;> simp [mCode] at hm <;> done)))
  simp only [mCode, beq_iff_eq] at hm
  subst hm
  exact ⟨.exit _, st, w, m, tm, ds, hq, hat, rfl, Evo.refl .., hf, k, rfl, .refl ..⟩
 | ret =>
  intro c hm b k cs Q w m st tm ds hat hnt hf hq
  cases c <;> (try (first | (exfalso; simp [mCode] at hm; done) | (rename_i d; exfalso; cases d <;> simp [mCode] at hm <;> done)))
  exact ⟨.ret, st, w, m, tm, ds, hq, hat, rfl, Evo.refl .., hf, k, .refl ..⟩
 | scope x ih =>
  intro c hm b k cs Q w m st tm ds hat hnt hf hq
  cases c <;> (try (first | (exfalso; simp [mCode] at hm; done) | (rename_i d; exfalso; cases d <;> simp [mCode] at hm <;> done)))
  rename_i x'
  simp only [mCode] at hm
  simp only [evCode] at hq
  obtain ⟨ex, st', w', m', tm', ds', h1, h2, h3, h4, h5, h6⟩ := ih x' hm b (.inScope x' :: k) cs _ w m st tm ds hat hnt hf hq
  have hs : step P (lone (b.atR ⟨tm, ds⟩ (.code (.scope x') :: k)) cs w) = .next (lone (b.atR ⟨tm, ds⟩ (.code x' :: .inScope x' :: k)) cs w) := step_lone_go (by simp [stepG, stepG.exec, Frame.atR])
  have h7 := Arr.head (.one hs) h6
  cases ex with
  | normal =>
   have hs' : step P (lone (b.atR ⟨tm', ds'⟩ (.inScope x' :: k)) cs w') = .next (lone (b.atR ⟨tm', ds'⟩ k) cs w') := step_lone_go (by simp [stepG, stepG.exec, Frame.atR])
   exact ⟨.normal, st', w', m', tm', ds', h1, h2, h3, h4, h5, Steps.trans h7 (.one hs')⟩
  | ret => exact ⟨.ret, st', w', m', tm', ds', h1, h2, h3, h4, h5, h7⟩
  | exit j => exact ⟨.exit j, st', w', m', tm', ds', h1, h2, h3, h4, h5, h7.jump (by simp) (fun id => by simp [exitTo])⟩

end
end Fw
end

section
/-
  Results; marks that are taken; functions that are called.
-/
namespace Fw
open Go

def mRes (P : Program) : ResultVar → ARes → Bool
 | .tmp t, .tmp t' => t == t'
 | .cell a ty, .cell a' agg sz => a == a' && (match P.info? ty, P.underlying ty with
  | some i, some d => i.size == sz && aggD d == agg
  | _, _ => false)
 | _, _ => false

def mRess (P : Program) : List ResultVar → List ARes → Bool
 | [], [] => true
 | r :: q, a :: l => mRes P r a && mRess P q l
 | _, _ => false

def resF (tm : Array Value) (r : ResultVar) : Sem Value := match r with
 | .tmp t => pure (tm.getD t undef)
 | .cell a t => do loadVar t (← asAddr (tm.getD a undef))

def mFn (P : Program) (fn : Func) (af : AFunc) : Bool := match fn.body with
 | some c => !(fn.name == "runtime.NumGoroutine") && mRess P fn.results.toList af.results && mCode P fn.ntmps c af.body
 | none => false

section
variable {CM : Nat → Code → ACode → Prop} {base : Nat} {Im0 : Nat → Prop} {lo n0 : Nat} {w w' : World} {m m' : Mem} {s s' : Sto} {P : Program} {G : Nat → Option (List PVal)} {call : CallF} {C : Nat → List AVal → Option (T AVal)}
 {tm : Array Value} {env : Env} {ds : List Deferred}

theorem ress_ok (hat : At CM G base Im0 w m s tm env) : ∀ (rs : List ResultVar) (as : List ARes) (vs : List AVal), mRess P rs as = true → as.mapM (resA s env) = some vs →
  ∃ us : List Value, (rs.mapM (resF tm)).run P w = .ok us w ∧ us.length = vs.length ∧ ∀ (j : Nat) u a, us[j]? = some u → vs[j]? = some a → ARep w (Im base Im0 m s) m s u a := by
 intro rs
 induction rs with
 | nil =>
  intro as vs hm hv
  cases as with
  | nil => simp at hv; subst hv; exact ⟨[], rfl, rfl, fun j u a hu => by simp at hu⟩
  | cons => cases hm
 | cons r q ih =>
  intro as vs hm hv
  cases as with
  | nil => cases hm
  | cons a l =>
   simp only [mRess, Bool.and_eq_true] at hm
   rw [List.mapM_cons] at hv
   cases hx : resA s env a with
   | none => rw [hx] at hv; simp at hv
   | some x =>
    rw [hx] at hv
    cases hy : l.mapM (resA s env) with
    | none => rw [hy] at hv; simp at hv
    | some y =>
     rw [hy] at hv
     simp at hv
     subst hv
     obtain ⟨us, h1, h2, h3⟩ := ih l y hm.2 hy
     have head : ∃ u, (resF tm r).run P w = .ok u w ∧ ARep w (Im base Im0 m s) m s u x := by
      have hm1 := hm.1
      unfold mRes at hm1
      split at hm1
      ·simp only [beq_iff_eq] at hm1
       subst hm1
       simp only [resA, Option.some.injEq] at hx
       subst hx
       exact ⟨_, rfl, hat.env _⟩
      ·simp only [Bool.and_eq_true, beq_iff_eq] at hm1
       obtain ⟨rfl, hm2⟩ := hm1
       split at hm2
       ·rename_i i d hi hd
        simp only [Bool.and_eq_true, beq_iff_eq] at hm2
        simp only [resA] at hx
        obtain ⟨ad, v, e1, e2, e3⟩ := loadA_rep hat.srep (hat.env _) hx hi hd hm2.1 hm2.2
        exact ⟨v, by simp only [resF, e1]; simpa [asAddr, Result.andThen] using e2, e3⟩
       ·cases hm2
      ·cases hm1
     obtain ⟨u, k1, k2⟩ := head
     refine ⟨u :: us, ?_, by simp [h2], fun j v a hu ha => ?_⟩
     ·rw [List.mapM_cons, Sem.run_bind, k1]
      simp only [Result.andThen_ok, Sem.run_bind, h1]
      rfl
     ·cases j with
      | zero => simp at hu ha; subst hu ha; exact k2
      | succ j => exact h3 j v a (by simpa using hu) (by simpa using ha)

theorem results_ok (hat : At CM G base Im0 w m s tm env) {fn : Func} {af : AFunc} {v : AVal} (hm : mRess P fn.results.toList af.results = true) (hv : evRes af ⟨env, s⟩ = some v) :
  ∃ u, (results fn tm).run P w = .ok u w ∧ ARep w (Im base Im0 m s) m s u v := by
 simp only [evRes, Option.map_eq_some_iff] at hv
 obtain ⟨vs, h1, rfl⟩ := hv
 obtain ⟨us, k1, k2, k3⟩ := ress_ok (P := P) hat _ _ vs hm h1
 have hr : (results fn tm).run P w = .ok (if h : us.toArray.size = 1 then us.toArray[0] else .tuple us.toArray) w := by
  have : (fn.results.mapM (resF tm)).run P w = .ok us.toArray w := by
   rw [Array.mapM_eq_mapM_toList, map_eq_pure_bind, Sem.run_bind, k1]; rfl
  have hres : results fn tm = (do let vs ← fn.results.mapM (resF tm); pure (if h : vs.size = 1 then vs[0] else .tuple vs)) := rfl
  rw [hres, Sem.run_bind, this]
  rfl
 refine ⟨_, hr, ?_⟩
 match us, vs, k2, k3 with
 | [], [], _, _ => exact .tup _ _ rfl (fun j u a hu => by simp at hu)
 | [u], [a], _, k3 => exact k3 0 u a rfl rfl
 | u :: u' :: us, a :: a' :: vs, k2, k3 =>
  simp only [List.size_toArray, List.length_cons, retA]
  rw [dif_neg (by omega)]
  exact .tup _ _ (by simpa using k2) (fun j x y hx hy => k3 j x y (by simpa using hx) hy)

structure Off (n0 : Nat) (w w' : World) : Prop where
 os : w'.os = w.os
 tape : w'.tape = w.tape
 output : w'.output = w.output
 size : w'.heap.size = w.heap.size
 same : ∀ (b : Nat) (o : Go.Obj), w.heap[b]? = some o → (∀ c, o ≠ Go.Obj.deferred c) → w'.heap[b]? = some o
 low : ∀ (b : Nat), b < n0 → w'.heap[b]? = w.heap[b]?

theorem marks_off (hk : Marks w m s n0 ds) : ∀ (fr : Frame) (cs : List Frame), fr.mode = .returning → fr.defers = ds → ∃ w', Off n0 w w' ∧ Steps P (lone fr cs w) (lone { fr with defers := [] } cs w') := by
 induction ds generalizing w with
 | nil =>
  intro fr cs hm hd
  refine ⟨w, ⟨rfl, rfl, rfl, rfl, fun _ _ h _ => h, fun _ _ => rfl⟩, ?_⟩
  have : { fr with defers := [] } = fr := by rw [← hd]
  rw [this]
  exact .refl ..
 | cons d ds ih =>
  intro fr cs hm hd
  cases hk with
  | cons r _ h1 h2 h3 h4 h5 =>
  have htake : (Instr.takeDeferred r).run P w = .ok [] (setB w r (.deferred none)) := by
   simp [Instr.takeDeferred, show (getObj r).run P w = .ok (.deferred (some [])) w by simp [getObj, Sem.run, h1], show (setObj r (.deferred none)).run P w = .ok () (setB w r (.deferred none)) by simp [setObj, Sem.run, h1, setB], Result.andThen]
  have hstep : step P (lone fr cs w) = .next (lone { fr with defers := [] ++ ds } cs (setB w r (.deferred none))) :=
   step_lone_go (by simp [stepG, unwind, hm, hd, Sem.runT_eq, htake, GStep.bare_after])
  have hrest : Marks (setB w r (.deferred none)) m s n0 ds := by
   clear ih htake hstep hd
   induction h5 with
   | nil => exact .nil
   | cons r' ds h1' h2' h3' h4' h5' ih =>
    refine .cons r' ds ?_ h2' h3' h4' (ih (fun d hd => h4 d (by simp [hd])))
    rw [setB_ne _ _ (fun e => h4 { target := .collected r', args := #[] } (by simp) (by rw [e]))]
    exact h1'
  obtain ⟨w', ho, hst⟩ := ih hrest { fr with defers := [] ++ ds } cs hm (by simp)
  refine ⟨w', ⟨ho.os, ho.tape, ho.output, ho.size.trans (setB_size _ _ _), fun b o hb hno => ?_, fun b hb => ?_⟩, Steps.head hstep hst⟩
  ·refine ho.same b o ?_ hno
   rw [setB_ne _ _ (fun e => by subst e; rw [h1] at hb; cases hb; exact hno _ rfl)]
   exact hb
  ·rw [ho.low b hb, setB_ne _ _ (by omega)]

theorem Off.keeps (h : Off n0 w w') (I : Nat → Prop) : Keeps w I w' I := fun b o hi hb hd => ⟨hi, h.same b o hb (fun c e => by subst e; exact hd.elim)⟩

theorem Off.srep (h : Off n0 w w') (hs : SRep CM base Im0 w m s) : SRep CM base Im0 w' m s where
 keys := hs.keys
 inj := hs.inj
 rng i o b z hg hm := by rw [h.size]; exact hs.rng i o b z hg hm
 obj i o hg := by
  have ho := hs.obj i o hg
  refine ho.mono (h.keeps _) (fun j _ => KeepsO.refl m s j) rfl (fun b z hm => ?_)
  have : ∃ ob, w.heap[b]? = some ob ∧ ∀ c, ob ≠ Go.Obj.deferred c := by
   cases o with
   | arr cs v es =>
    rcases ho with ho | ⟨b', z', cur, e, fr, h1, h2, _⟩
    ·rw [hm] at ho; cases ho.1
    ·rw [hm] at h1; cases h1; exact ⟨_, h2, fun c hc => by cases hc⟩
   | frz cs v es =>
    rcases ho with ho | ⟨b', z', cur, e, fr, h1, h2, _⟩
    ·rw [hm] at ho; cases ho.1
    ·rw [hm] at h1; cases h1; exact ⟨_, h2, fun c hc => by cases hc⟩
   | box cs => obtain ⟨b', z', cur, e, fr, h1, h2, _⟩ := ho; rw [hm] at h1; cases h1; exact ⟨_, h2, fun c hc => by cases hc⟩
   | map ks vs => obtain ⟨b', z', es, clock, h1, h2, _⟩ := ho; rw [hm] at h1; cases h1; exact ⟨_, h2, fun c hc => by cases hc⟩
   | fmap ks vs => obtain ⟨b', z', es, clock, h1, h2, _⟩ := ho; rw [hm] at h1; cases h1; exact ⟨_, h2, fun c hc => by cases hc⟩
   | siter l pos => obtain ⟨b', z', st, h1, h2, _⟩ := ho; rw [hm] at h1; cases h1; exact ⟨_, h2, fun c hc => by cases hc⟩
   | miter ks vs cur =>
    obtain ⟨b', z', ob, h1, h2, h3⟩ := ho
    rw [hm] at h1; cases h1
    refine ⟨_, h2, fun c hc => ?_⟩
    rcases h3 with ⟨_, _, _, h3, _⟩ | ⟨_, _, _, _, h3, _⟩ <;> rw [h3] at hc <;> cases hc
   | loop env ps as b j st => obtain ⟨bk, z', lp, h1, h2, _⟩ := ho; rw [hm] at h1; cases h1; exact ⟨_, h2, fun c hc => by cases hc⟩
  obtain ⟨ob, h1, h2⟩ := this
  rw [h1]; exact h.same b ob h1 h2

theorem Off.at (h : Off n0 w w') (hat : At CM G base Im0 w m s tm env) : At CM G base Im0 w' m s tm env where
 srep := h.srep hat.srep
 hb := by rw [h.size]; exact hat.hb
 env t := (hat.env t).mono (h.keeps _) (KeepsO.refl m s)
 glob := hat.glob.mono (h.keeps _)

theorem Off.evo {w1 : World} {m1 : Mem} {s1 : Sto} (h : Off n0 w w') (hn : w1.heap.size ≤ n0) (e : Evo lo w1 m1 s1 w m s) : Evo lo w1 m1 s1 w' m s where
 os := h.os.trans e.os
 tape := h.tape.trans e.tape
 output := h.output.trans e.output
 size := by rw [h.size]; exact e.size
 keep b o hb hn' := by rw [h.low b (Nat.lt_of_lt_of_le (heap_lt hb) hn)]; exact e.keep b o hb hn'
 own := e.own
 obj := e.obj
 loops b lp hb := by obtain ⟨lp', h'⟩ := e.loops b lp hb; exact ⟨lp', h.same b _ h' (fun c hc => by cases hc)⟩

end
end Fw
end

section
/-
  Functions.
-/
namespace Fw
open Go

section
variable {base : Nat} {Im0 : Nat → Prop} {w : World} {m : Mem} {s : Sto} {P : Program} {G : Nat → Option (List PVal)} {call : CallF} {C : Nat → List AVal → Option (T AVal)}

theorem look_zip : ∀ (as : List AVal) (i t : Nat), look (zipArgs i as) t = .any ∨ ∃ j a, as[j]? = some a ∧ t = i + j ∧ look (zipArgs i as) t = a := by
 intro as
 induction as with
 | nil => intro i t; exact .inl rfl
 | cons a r ih =>
  intro i t
  simp only [zipArgs, look]
  split
  ·rename_i e; subst e; exact .inr ⟨0, a, rfl, rfl, rfl⟩
  ·rcases ih (i + 1) t with h | ⟨j, b, h1, h2, h3⟩
   ·exact .inl h
   ·exact .inr ⟨j + 1, b, by simpa using h1, by omega, h3⟩

theorem env_zip {I : Nat → Prop} {vs : Array Value} {as : List AVal} (h : RArgs w I m s vs as) (n : Nat) : EnvRep w I m s (vs ++ Array.replicate (n - vs.size) undef) (zipArgs 0 as) := by
 intro t
 rcases look_zip as 0 t with e | ⟨j, a, h1, h2, h3⟩
 ·rw [e]; exact .any _
 ·rw [h3]
  have hj := lt_of_some h1
  have ht : t = j := by omega
  subst ht
  have hlt : t < vs.size := by rw [h.1]; exact hj
  have : (vs ++ Array.replicate (n - vs.size) undef).getD t undef = vs[t] := by
   rw [Array.getD_eq_getD_getElem?, Array.getElem?_append_left hlt, Array.getElem?_eq_getElem hlt]; rfl
  rw [this]
  exact h.2 t _ a (Array.getElem?_eq_getElem hlt) h1

theorem env_fold {I : Nat → Prop} : ∀ (ps : List Nat) (vs : List Value) (as : List AVal) (tm : Array Value) (env : Env), ps.length = as.length → vs.length = as.length → (∀ p ∈ ps, p < tm.size) →
  (∀ (j : Nat) u a, vs[j]? = some u → as[j]? = some a → ARep w I m s u a) → EnvRep w I m s tm env →
  EnvRep w I m s ((ps.zip vs).foldl (fun t (p, v) => t.setIfInBounds p v) tm) ((ps.zip as).foldl (fun e x => (x.1, x.2) :: e) env) ∧ ((ps.zip vs).foldl (fun t (p, v) => t.setIfInBounds p v) tm).size = tm.size := by
 intro ps
 induction ps with
 | nil => intro vs as tm env _ _ _ _ he; exact ⟨he, rfl⟩
 | cons p r ih =>
  intro vs as tm env h1 h2 h3 h4 he
  cases as with
  | nil => cases h1
  | cons a q =>
   cases vs with
   | nil => cases h2
   | cons v l =>
    simp only [List.zip_cons_cons, List.foldl_cons]
    have := ih l q (tm.setIfInBounds p v) ((p, a) :: env) (by simpa using h1) (by simpa using h2) (fun x hx => by simpa using h3 x (by simp [hx])) (fun j u a hu ha => h4 (j + 1) u a (by simpa using hu) (by simpa using ha)) (fun t => by
     simp only [look]
     have hp := h3 p (by simp)
     by_cases e : p = t
     ·subst e
      rw [if_pos rfl]
      have : (tm.setIfInBounds p v).getD p undef = v := by simp [hp]
      rw [this]
      exact h4 0 v a rfl rfl
     ·rw [if_neg e]
      have := he t
      simp only [Array.getD_eq_getD_getElem?, Array.getElem?_setIfInBounds_ne e] at this ⊢
      exact this)
    exact ⟨this.1, this.2.trans (by simp)⟩

theorem callFunc_ok {f : Nat} {fn : Func} {c : Code} (hf : P.funcs[f]? = some fn) (hb : fn.body = some c) (hn : (fn.name == "runtime.NumGoroutine") = false) (vs : Array Value) (w : World) : (callFunc f vs).run P w = .ok (.enter f vs) w := by
 have hn' : fn.name ≠ "runtime.NumGoroutine" := by simpa using hn
 simp [callFunc, program, hf, hb, hn', Sem.run, Result.andThen]

theorem fn_ok (hcall : CallOk (CMP P) P G call) (hC : COk (CMP P) P G C) {f : Nat} {fn : Func} {af : AFunc} (hf : P.funcs[f]? = some fn) (hm : mFn P fn af = true) {as : List AVal} {Q : AVal × Sto → Prop}
  (hq : ((evCode call C G (nextId s) af.body ⟨zipArgs 0 as, s⟩).bind fun x => match x.1 with
   | .exit _ => (.fail : T (AVal × Sto))
   | _ => match evRes af x.2 with
    | some v => .ret (v, x.2.sto)
    | none => .fail).All Q)
  {vs : Array Value} (h : SRep (CMP P) base Im0 w m s) (hb : base ≤ w.heap.size) (hg : GOk G w (Im base Im0 m s)) (ha : RArgs w (Im base Im0 m s) m s vs as) : FnOk P f vs w (Good (CMP P) base Im0 w m s Q) := by
 unfold mFn at hm
 split at hm
 ·rename_i c hbody
  simp only [Bool.and_eq_true, Bool.not_eq_true'] at hm
  obtain ⟨⟨hm1, hm2⟩, hm3⟩ := hm
  refine ⟨callFunc_ok hf hbody hm1 vs w, fun cs => ?_⟩
  rw [T.All_bind] at hq
  let b : Frame := { (default : Frame) with fn := f, kind := .normal, roundOf := none }
  have henter : Frame.enter P f vs .normal = b.atR ⟨vs ++ Array.replicate (fn.ntmps - vs.size) undef, []⟩ [.code c] := by
   simp [Frame.enter, Frame.atR, hf, hbody, b]
  have hat : At (CMP P) G base Im0 w m s (vs ++ Array.replicate (fn.ntmps - vs.size) undef) (zipArgs 0 as) := ⟨h, hb, env_zip ha _, hg⟩
  have hnt : fn.ntmps ≤ (vs ++ Array.replicate (fn.ntmps - vs.size) undef).size := by simp; omega
  obtain ⟨ex, st', w', m', tm', ds', h1, h2, h3, h4, h5, h6⟩ := code_ok (lo := nextId s) (n0 := w.heap.size) hcall hC af.body c hm3 b [] cs _ w m ⟨zipArgs 0 as, s⟩ _ [] hat hnt ⟨.nil, Nat.le_refl _, fun l hl => by cases hl⟩ hq
  have fin : ∀ todo, Steps P (lone (Frame.enter P f vs .normal) cs w) (lone { b.atR ⟨tm', ds'⟩ todo with mode := .returning } cs w') → ∀ v, evRes af st' = some v → Q (v, st'.sto) →
    ∃ e w' fr, (∃ v, e = Ending.returned v ∧ Good (CMP P) base Im0 w m s Q v w') ∧ Comes P (lone (Frame.enter P f vs .normal) cs w) (lone fr cs w') e ∧ fr.fn = f ∧ fr.leaving P w' e := by
   intro todo hst v hv hQ
   obtain ⟨w2, off, hst2⟩ := marks_off h5.marks { b.atR ⟨tm', ds'⟩ todo with mode := .returning } cs rfl rfl
   have hat2 := off.at h2
   obtain ⟨u, hu, hrep⟩ := results_ok (P := P) (fn := fn) (af := af) hat2 hm2 hv
   exact ⟨.returned u, w2, _, ⟨u, rfl, v, st'.sto, m', hQ, hat2.srep, fun lo => (off.evo (Nat.le_refl _) h4).mono (fun i o _ hg => get_lt h.keys hg), hrep⟩, hst.trans hst2, rfl, rfl, rfl, rfl, fn, hf, hu⟩
  have go : ∀ {v : Option AVal}, T.All Q (match v with | some v => (.ret (v, st'.sto) : T (AVal × Sto)) | none => .fail) → ∃ x, v = some x ∧ Q (x, st'.sto) := by
   intro v hv
   cases v with
   | none => exact hv.elim
   | some x => exact ⟨x, rfl, hv⟩
  cases ex with
  | normal =>
   obtain ⟨v, hv, hQ⟩ := go h1
   refine fin [] ?_ v hv hQ
   rw [henter]
   exact Steps.trans h6 (.one (stepR_end rfl))
  | ret =>
   obtain ⟨v, hv, hQ⟩ := go h1
   obtain ⟨t, h6⟩ := h6
   refine fin (.code .ret :: t) ?_ v hv hQ
   rw [henter]
   exact Steps.trans h6 (.one (stepR_ret rfl))
  | exit id => exact h1.elim
 ·cases hm

end
end Fw
end

section
/-
  Rounds; the evaluator is sound.
-/
namespace Fw
open Go

section
variable {base : Nat} {Im0 : Nat → Prop} {w : World} {m : Mem} {s : Sto} {P : Program} {G : Nat → Option (List PVal)} {call : CallF} {C : Nat → List AVal → Option (T AVal)}

theorem zip_list {α β : Type} (a : Array α) (b : Array β) : (a.zip b).toList = a.toList.zip b.toList := by simp

def yldK (call : CallF) (C : Nat → List AVal → Option (T AVal)) (G : Nat → Option (List PVal)) (lo id : Nat) (b : ACode) (x : Ex × St) : T (AVal × Sto) := match x.1 with
 | .normal => match get x.2.sto id with
  | some (.loop e2 p2 a2 b2 none 0) =>
   (evCode call C G lo b ⟨x.2.env, put x.2.sto id (.loop e2 p2 a2 b2 none 1)⟩).bind fun y => match get y.2.sto id with
    | some (.loop e3 p3 a3 b3 _ _) =>
     let j := jumpOf y.1
     .ret (.p (.bool j.isNone), put y.2.sto id (.loop e3 p3 a3 b3 j (if j.isNone then 0 else 2)))
    | _ => .fail
  | _ => .fail
 | _ => .fail

theorem yld_ok (hcall : CallOk (CMP P) P G call) (hC : COk (CMP P) P G C) {id : Nat} {env : Env} {ps : List Nat} {as bd : ACode} (hgid : get s id = some (.loop env ps as bd none 0)) {args : List AVal} (hlen : ps.length = args.length) {Q : AVal × Sto → Prop}
  (hq : ((evCode call C G (nextId s) as ⟨(ps.zip args).foldl (fun e x => (x.1, x.2) :: e) env, s⟩).bind (yldK call C G (nextId s) id bd)).All Q)
  {vs : Array Value} (h : SRep (CMP P) base Im0 w m s) (hb : base ≤ w.heap.size) (hg : GOk G w (Im base Im0 m s)) (ha : RArgs w (Im base Im0 m s) m s vs args) {l z : Nat} (hmid : m id = some (l, z)) : RoundOk P l vs w (Good (CMP P) base Im0 w m s Q) := by
 obtain ⟨bk, z', lp, r1, r2, r3, r4, ⟨nx, r5, r5'⟩, ⟨ny, r6, r6'⟩, r7, r8, r9⟩ := h.obj id _ hgid
 rw [hmid] at r1; cases r1
 have hsz : vs.size = lp.params.size := by rw [ha.1, ← hlen, ← r3]; simp
 obtain ⟨he, hes⟩ := env_fold ps vs.toList args lp.tmps env hlen (by simpa using ha.1) r4 (fun j u a hu ha' => ha.2 j u a (by simpa using hu) ha') r7
 have hfold : (lp.params.zip vs).foldl (fun tmps (t, a) => tmps.setIfInBounds t a) lp.tmps = (ps.zip vs.toList).foldl (fun t (p, v) => t.setIfInBounds p v) lp.tmps := by
  rw [← Array.foldl_toList, zip_list, r3]
 have hyield : (Instr.yield l vs).run P w = .ok (.round l lp.fn ((ps.zip vs.toList).foldl (fun t (p, v) => t.setIfInBounds p v) lp.tmps) lp.assign lp.body) w := by
  simp only [Instr.yield, Sem.run_bind, run_getLoop r2, Result.andThen_ok, hsz, ne_eq, not_true_eq_false, if_false, hfold]
  rfl
 refine ⟨lp.fn, _, lp.assign, lp.body, hyield, fun c cs => ?_⟩
 generalize (ps.zip vs.toList).foldl (fun t (p, v) => t.setIfInBounds p v) lp.tmps = tm1 at he hes
 let b : Frame := { (default : Frame) with fn := lp.fn, kind := .normal, roundOf := some l }
 have hround : Frame.round l lp.fn tm1 lp.assign lp.body .normal = b.atR ⟨tm1, []⟩ [.code lp.assign, .beginRound, .code lp.body] := by
  simp [Frame.round, Frame.atR, b]
 rw [hround]
 rw [T.All_bind] at hq
 have hidlt := get_lt h.keys hgid
 obtain ⟨ex, st1, w1, m1, tm2, ds1, h1, h2, h3, h4, h5, h6⟩ := code_ok (lo := nextId s) (n0 := w.heap.size) hcall hC as lp.assign r5' b [.beginRound, .code lp.body] (c :: cs) _ w m ⟨_, s⟩ tm1 [] ⟨h, hb, he, hg⟩ (by omega) ⟨.nil, Nat.le_refl _, fun l' hl => by
  have : l = l' := by simpa [b] using hl
  subst this; exact ⟨rfl, lp, r2⟩⟩ hq
 cases ex with
 | ret => exact h1.elim
 | exit => exact h1.elim
 | normal =>
  obtain ⟨rfl, _⟩ := h5.round l rfl
  simp only [yldK] at h1
  split at h1
  ·rename_i e2 p2 a2 b2 hg2
   rw [T.All_bind] at h1
   obtain ⟨o', k1, k2, k3, k4, k5⟩ := h4.obj id hidlt _ hgid
   rw [hg2] at k1; cases k1
   have hmid1 := (k5 rfl).1.trans hmid
   obtain ⟨bk, z', lp1, q1, q2, q3, q4, q5, q6, q7, q8, q9⟩ := h2.srep.obj id _ hg2
   rw [hmid1] at q1; cases q1
   have hbeg := run_beginRound (P := P) q2 q9
   obtain ⟨hs3, ev3⟩ := put_loop h2.srep hg2 hmid1 q2 lp1.pending .busy q8 (st' := 1) rfl
   have hat3 := h2.evo hs3 ev3
   have hf3 := h5.evo (ev3 0)
   have hstep3 := stepR_beginRound (P := P) (b := b) (a := ⟨tm2, []⟩) (k := [.code lp.body]) (cs := c :: cs) rfl hbeg
   obtain ⟨ex, st2, w2, m2, tm3, ds2, p1, u2, u3, p4, p5, p6⟩ := code_ok (lo := nextId s) (n0 := w.heap.size) hcall hC bd lp.body r6' b [] (c :: cs) _ _ m1 ⟨st1.env, _⟩ tm2 [] hat3 (by omega) hf3 h1
   obtain ⟨rfl, _⟩ := p5.round l rfl
   have hg3 : get (put st1.sto id (.loop e2 p2 a2 b2 none 1)) id = some (.loop e2 p2 a2 b2 none 1) := by rw [get_put, if_pos rfl, hg2]; rfl
   split at p1
   ·rename_i e3 p3' a3 b3 _ _ hg4
    obtain ⟨o', k1, k2, k3, k4, k5⟩ := p4.obj id hidlt _ hg3
    rw [hg4] at k1; cases k1
    have hmid2 := (k5 rfl).1.trans hmid1
    obtain ⟨bk, z', lp2, t1, t2, t3, t4, t5, t6, t7, t8, t9⟩ := u2.srep.obj id _ hg4
    rw [hmid2] at t1; cases t1
    have evo : Evo (nextId s) w m s w2 m2 st2.sto := h4.trans ((ev3 _).trans p4)
    have sofar := Steps.trans h6 (.one hstep3)
    have fin : ∀ (j : Option Code), JRep j (jumpOf ex) → (∀ v w', (Instr.endRound l j).run P w2 = .ok v w' → Steps P (lone (b.atR ⟨tm1, []⟩ [.code lp.assign, .beginRound, .code lp.body]) (c :: cs) w) (lone (c.finish v) cs w')) →
      ∃ v w', Good (CMP P) base Im0 w m s Q v w' ∧ Steps P (lone (b.atR ⟨tm1, []⟩ [.code lp.assign, .beginRound, .code lp.body]) (c :: cs) w) (lone (c.finish v) cs w') := by
     intro j hj hst
     have hnone : (jumpOf ex).isNone = j.isNone := by
      unfold JRep at hj
      split at hj <;> first | (simp_all; done) | exact hj.elim
     obtain ⟨hs5, ev5⟩ := put_loop u2.srep hg4 hmid2 t2 j (if j.isNone then .ready else .done) hj (st' := if (jumpOf ex).isNone then 0 else 2) (by rw [hnone]; split <;> rfl)
     refine ⟨_, _, ⟨_, _, m2, p1, hs5, fun lo => (evo.trans (ev5 _)).mono (fun i o _ hg => get_lt h.keys hg), ?_⟩, hst _ _ (run_endRound j t2)⟩
     rw [hnone]; exact rep_bool _ _
    cases ex with
    | normal =>
     exact fin none trivial (fun v w' hr => Steps.trans sofar (Steps.trans p6 (.one (stepR_round_end rfl rfl hr))))
    | ret =>
     obtain ⟨t, p6⟩ := p6
     exact fin (some .ret) trivial (fun v w' hr => Steps.trans sofar (Steps.trans p6 (.one (stepR_round_ret rfl rfl hr))))
    | exit id' =>
     obtain ⟨t, ht, p6⟩ := p6
     exact fin (some (.exit id')) rfl (fun v w' hr => Steps.trans sofar (Steps.trans p6 (.one (stepR_round_exit rfl rfl (by rw [ht]; rfl) hr))))
   ·exact p1.elim
  ·exact h1.elim

def FOk (P : Program) (F : Nat → Option AFunc) : Prop := ∀ f af, F f = some af → ∃ fn, P.funcs[f]? = some fn ∧ mFn P fn af = true

theorem evFn_ok {F : Nat → Option AFunc} (hF : FOk P F) (hC : COk (CMP P) P G C) : ∀ d, CallOk (CMP P) P G (evFn F C G d) := by
 intro d
 induction d with
 | zero => intro t as s Q hq; exact hq.elim
 | succ d ih =>
  intro t as s Q hq base Im0 w m vs h hb hg ha
  cases t with
  | fn f =>
   simp only
   simp only [evFn] at hq
   split at hq
   ·exact hq.elim
   ·rename_i af haf
    obtain ⟨fn, h1, h2⟩ := hF f af haf
    exact fn_ok ih hC h1 h2 hq h hb hg ha
  | yld id =>
   simp only
   intro l z hmid
   simp only [evFn] at hq
   split at hq
   ·rename_i env ps as' bd hgid
    split at hq
    ·exact hq.elim
    ·rename_i hlen
     exact yld_ok ih hC hgid (by simpa using hlen) hq h hb hg ha hmid
   ·exact hq.elim

end
end Fw
end

section
/-
  What comes in: a datum that is read in memory, as values without references; how a call closes.
-/
namespace Fw
open Go

inductive Ty where
 | int (k : IntKind)
 | bool
 | flt (k : FloatKind)
 | str
 | sl (e : Ty)
 | st (fs : List Ty)
 | arr (n : Nat) (e : Ty)
 deriving Inhabited

mutual
def Ty.size : Ty → Nat
 | .st fs => Ty.sizes fs
 | .arr n e => n * e.size
 | _ => 1
def Ty.sizes : List Ty → Nat
 | [] => 0
 | f :: r => f.size + Ty.sizes r
end

mutual
def HasTy : Ty → List PVal → Prop
 | .int k, ps => ∃ n, ps = [.int k n] ∧ k.min ≤ n ∧ n ≤ k.max
 | .bool, ps => ∃ b, ps = [.bool b]
 | .flt k, ps => ∃ b, ps = [.flt k b] ∧ (match k with | .f32 => b < 2 ^ 32 | .f64 => b < 2 ^ 64)
 | .str, ps => ∃ l, ps = [.str l] ∧ l.length ≤ 9223372036854775807
 | .sl e, ps => ∃ rows : List (List PVal), ps = [.sl rows.flatten rows.length] ∧ (∀ r ∈ rows, HasTy e r ∧ r.length = e.size) ∧ rows.length ≤ 9223372036854775807
 | .st fs, ps => HasTys fs ps
 | .arr n e, ps => ∃ rows : List (List PVal), rows.length = n ∧ ps = rows.flatten ∧ ∀ r ∈ rows, HasTy e r ∧ r.length = e.size
def HasTys : List Ty → List PVal → Prop
 | [], ps => ps = []
 | f :: r, ps => ∃ a b, ps = a ++ b ∧ HasTy f a ∧ a.length = f.size ∧ HasTys r b
end

mutual
def isTy (P : Program) : Ty → TypeId → Bool
 | .int k, t => match P.underlying t with | some (.int k') => k' == k | _ => false
 | .bool, t => match P.underlying t with | some .bool => true | _ => false
 | .flt k, t => match P.underlying t with | some (.float k') => k' == k | _ => false
 | .str, t => match P.underlying t with | some .string => true | _ => false
 | .sl e, t => match P.underlying t with | some (.slice u) => isTy P e u && P.cellsOf u == e.size && decide (0 < e.size) | _ => false
 | .st fs, t => match P.underlying t with | some (.struct gs) => isTys P fs gs.toList 0 && P.cellsOf t == Ty.sizes fs | _ => false
 | .arr n e, t => match P.underlying t with | some (.array n' u) => n' == n && isTy P e u && P.cellsOf u == e.size && P.cellsOf t == n * e.size | _ => false
def isTys (P : Program) : List Ty → List Field → Nat → Bool
 | [], [], _ => true
 | f :: r, g :: q, o => isTy P f g.type && P.cellsOf g.type == f.size && g.offset == o && isTys P r q (o + f.size)
 | _, _, _ => false
end

section
variable {H : Type} {enc : TypeId × Value → H} {P : Program} {w : World} {spare : Nat → Bool} {held : Bool}

def Reps (w : World) (cs : List Value) (ps : List PVal) : Prop := ps.length = cs.length ∧ ∀ (j : Nat) u p, cs[j]? = some u → ps[j]? = some p → PRep w (fun _ => True) u p

theorem Reps.nil (w : World) : Reps w [] [] := ⟨rfl, fun j u p hu => by simp at hu⟩
theorem Reps.one {v : Value} {p : PVal} (h : PRep w (fun _ => True) v p) : Reps w [v] [p] := ⟨rfl, fun j u q hu hq => by
 match j with
 | 0 => simp at hu hq; subst hu hq; exact h
 | j + 1 => simp at hu⟩
theorem Reps.append {a b : List Value} {p q : List PVal} (h : Reps w a p) (k : Reps w b q) : Reps w (a ++ b) (p ++ q) := by
 refine ⟨by simp [h.1, k.1], fun j u x hu hx => ?_⟩
 by_cases hj : j < a.length
 ·rw [List.getElem?_append_left hj] at hu
  rw [List.getElem?_append_left (by rw [h.1]; exact hj)] at hx
  exact h.2 j u x hu hx
 ·rw [List.getElem?_append_right (by omega)] at hu
  rw [List.getElem?_append_right (by rw [h.1]; omega), h.1] at hx
  exact k.2 _ u x hu hx

theorem rows_read {n sz : Nat} {e : Ty} (row : Nat → List Value) (hrow : ∀ i, i < n → (row i).length = sz ∧ ∃ ps, HasTy e ps ∧ Reps w (row i) ps) (hsz : sz = e.size) :
  ∃ rows : List (List PVal), rows.length = n ∧ (∀ r ∈ rows, HasTy e r ∧ r.length = e.size) ∧ Reps w ((List.range n).flatMap row) rows.flatten := by
 induction n with
 | zero => exact ⟨[], rfl, fun r hr => (by cases hr), Reps.nil w⟩
 | succ n ih =>
  obtain ⟨rows, h1, h2, h3⟩ := ih (fun i hi => hrow i (by omega))
  obtain ⟨hl, ps, hp, hr⟩ := hrow n (by omega)
  refine ⟨rows ++ [ps], by simp [h1], fun r hr' => ?_, ?_⟩
  ·rcases List.mem_append.1 hr' with h | h
   ·exact h2 r h
   ·simp at h; subst h; exact ⟨hp, by rw [hr.1, hl, hsz]⟩
  ·rw [List.range_succ, List.flatMap_append, List.flatten_append]
   simpa using h3.append hr

theorem mapM_range {α : Type} {f : Nat → Option α} {n : Nat} {l : List α} (h : (List.range n).mapM f = some l) : l.length = n ∧ ∀ i, i < n → l[i]? = f i := by
 have h1 := mapM_some_length h
 refine ⟨by simpa using h1, fun i hi => ?_⟩
 have := mapM_some_get h i i (by simp [hi])
 exact this.symm

theorem cell_row_inv {a : Addr} {v : Value} (h : w.cell? a = some v) : a.spot = none ∧ ∃ cur e fr, w.heap[a.block]? = some (.cells cur e fr) ∧ cur[a.off]? = some v := by
 unfold World.cell? at h
 split at h
 ·rename_i c e fr hb
  split at h
  ·cases h
  ·rename_i hs
   exact ⟨by simpa using hs, c, e, fr, hb, h⟩
 ·cases h

theorem trod_float {base fuel : Nat} {t : TypeId} {cs : List Value} {x : DataW H × List MemPlace} {k : FloatKind} (ht : P.underlying t = some (.float k)) (h : DataW.trod enc P w base spare held fuel t cs = some x) : ∃ b, cs = [.float k b] ∧ (Lit.float k b).wf = true := by
 cases fuel with
 | zero => simp [DataW.trod] at h
 | succ n =>
  unfold DataW.trod at h
  rw [ht] at h
  split at h <;> simp_all

theorem trod_rep : ∀ (fuel : Nat) (T : Ty) (t : TypeId) (cs : List Value) (x : DataW H × List MemPlace), isTy P T t = true → DataW.trod enc P w 0 spare held fuel t cs = some x → ∃ ps, HasTy T ps ∧ Reps w cs ps := by
 intro fuel
 induction fuel with
 | zero => intro T t cs x _ h; simp [DataW.trod] at h
 | succ fuel ih =>
  intro T t cs x hT h
  cases T with
  | int k =>
   simp only [isTy] at hT
   split at hT
   ·rename_i k' hu
    simp only [beq_iff_eq] at hT
    subst hT
    obtain ⟨n, rfl, _, hw⟩ := DataW.trod_int hu h
    simp only [Lit.wf, Bool.and_eq_true, decide_eq_true_eq] at hw
    exact ⟨_, ⟨n, rfl, hw.1, hw.2⟩, Reps.one (.int ..)⟩
   ·cases hT
  | bool =>
   simp only [isTy] at hT
   split at hT
   ·rename_i hu
    obtain ⟨b, rfl, _⟩ := DataW.trod_bool hu h
    exact ⟨_, ⟨b, rfl⟩, Reps.one (.bool _)⟩
   ·cases hT
  | flt k =>
   simp only [isTy] at hT
   split at hT
   ·rename_i k' hu
    simp only [beq_iff_eq] at hT
    subst hT
    obtain ⟨b, rfl, hw⟩ := trod_float hu h
    refine ⟨_, ⟨b, rfl, ?_⟩, Reps.one (.flt ..)⟩
    cases k' <;> simpa [Lit.wf] using hw
   ·cases hT
  | str =>
   simp only [isTy] at hT
   split at hT
   ·rename_i hu
    obtain ⟨s, rfl, _, hs⟩ := DataW.trod_string hu h
    refine ⟨_, ⟨_, rfl, ?_⟩, Reps.one (.str s)⟩
    exact hs
   ·cases hT
  | sl e =>
   simp only [isTy] at hT
   split at hT
   ·rename_i u hu
    simp only [Bool.and_eq_true, beq_iff_eq, decide_eq_true_eq] at hT
    obtain ⟨⟨hT1, hT2⟩, hT3⟩ := hT
    rcases DataW.trod_slice hu h with ⟨rfl, _⟩ | ⟨a, len, cap, elems, rest, n, hn, rfl, _, _, hle, hmx, hel, hget, _, _⟩
    ·exact ⟨_, ⟨[], rfl, fun r hr => (by cases hr), by simp⟩, Reps.one (.sl0 ..)⟩
    ·cases hn
     have hrow : ∀ i, i < len → ∃ cs', w.cells? 0 (a.add (i * P.cellsOf u)) (P.cellsOf u) = some cs' ∧ ∃ ps, HasTy e ps ∧ Reps w cs' ps := by
      intro i hi
      have := hget i hi
      have hx : ∃ y, elems[i]? = some y := by rw [List.getElem?_eq_getElem (by omega)]; exact ⟨_, rfl⟩
      obtain ⟨y, hy⟩ := hx
      rw [hy] at this
      simp only [Option.bind_eq_some_iff] at this
      obtain ⟨cs', h1, h2⟩ := this
      exact ⟨cs', h1, ih e u cs' y hT1 h2⟩
     obtain ⟨b, off, spot⟩ := a
     by_cases hl0 : len = 0
     ·subst hl0
      exact ⟨_, ⟨[], rfl, fun r hr => (by cases hr), by simp⟩, Reps.one (.sl0 ..)⟩
     ·-- the block is one of cells
      have cellAt : ∀ i, i < len → ∀ k, k < e.size → ∃ v, w.cell? ((⟨b, off, spot⟩ : Addr).add (i * e.size) |>.add k) = some v := by
       intro i hi k hk
       obtain ⟨cs', h1, _⟩ := hrow i hi
       rw [hT2] at h1
       simp only [World.cells?, Nat.zero_le, if_true] at h1
       obtain ⟨g1, g2⟩ := mapM_range h1
       have := g2 k hk
       rw [List.getElem?_eq_getElem (by omega)] at this
       exact ⟨_, this.symm⟩
      obtain ⟨v0, hv0⟩ := cellAt 0 (by omega) 0 hT3
      have hspot : spot = none := by
       have := (cell_row_inv hv0).1
       simp only [Addr.add] at this
       split at this <;> first | (split at this <;> first | exact this | (simp_all; done)) | simp_all
      subst hspot
      simp only [addr_add] at cellAt hrow
      obtain ⟨_, cur, et, fr, hb, _⟩ := cell_row_inv hv0
      have hb' : w.heap[b]? = some (.cells cur et fr) := by simpa [addr_add] using hb
      let row : Nat → List Value := fun i => (cur.extract (off + i * e.size) (off + i * e.size + e.size)).toList
      have hcur : ∀ i, i < len → ∀ k, k < e.size → ∃ v, cur[off + i * e.size + k]? = some v := by
       intro i hi k hk
       obtain ⟨v, hv⟩ := cellAt i hi k hk
       rw [cell_row hb'] at hv
       exact ⟨v, hv⟩
      have hend : off + len * e.size ≤ cur.size := by
       obtain ⟨v, hv⟩ := hcur (len - 1) (by omega) (e.size - 1) (by omega)
       have := (Array.getElem?_eq_some_iff.1 hv).1
       have h1 : (len - 1) * e.size + e.size = len * e.size := by
        have : len = len - 1 + 1 := by omega
        rw [this, Nat.add_mul]; simp
       omega
      have hrow' : ∀ i, i < len → (row i).length = e.size ∧ ∃ ps, HasTy e ps ∧ Reps w (row i) ps := by
       intro i hi
       obtain ⟨cs', h1, ps, h2, h3⟩ := hrow i hi
       rw [hT2] at h1
       simp only [World.cells?, Nat.zero_le, if_true, addr_add] at h1
       obtain ⟨g1, g2⟩ := mapM_range h1
       have hle2 : off + i * e.size + e.size ≤ cur.size := by
        have : i * e.size + e.size ≤ len * e.size := by
         have h5 : (i + 1) * e.size ≤ len * e.size := Nat.mul_le_mul_right _ hi
         rw [Nat.add_mul] at h5; simpa using h5
        omega
       have hcs : row i = cs' := by
        apply List.ext_getElem?
        intro k
        by_cases hk : k < e.size
        ·rw [g2 k hk, cell_row hb']
         simp only [row, Array.getElem?_toList, Array.getElem?_extract]
         rw [if_pos (by omega)]
        ·rw [List.getElem?_eq_none (by simp only [row, Array.length_toList, Array.size_extract]; omega), List.getElem?_eq_none (by omega)]
       rw [hcs]
       exact ⟨g1, ps, h2, h3⟩
      obtain ⟨rows, g1, g2, g3⟩ := rows_read row hrow' rfl
      have hmx' : cap ≤ 9223372036854775807 := hmx
      refine ⟨_, ⟨rows, rfl, g2, by omega⟩, Reps.one ?_⟩
      have hflat : (List.range len).flatMap row = (cur.extract off (off + len * e.size)).toList := by
       have : ∀ n, n ≤ len → (List.range n).flatMap row = (cur.extract off (off + n * e.size)).toList := by
        intro n
        induction n with
        | zero => intro _; simp
        | succ n ihn =>
         intro hn
         rw [List.range_succ, List.flatMap_append, ihn (by omega)]
         simp only [List.flatMap_cons, List.flatMap_nil, List.append_nil, row]
         rw [← Array.toList_append, Nat.add_mul, Nat.one_mul, Array.extract_append_extract]
         congr 2
         ·omega
         ·omega
       exact this len (Nat.le_refl _)
      rw [hflat] at g3
      rw [g1]
      refine .sl b off len cap cur et fr rows.flatten trivial hb' ?_ hle (fun j u c hu hc => ?_)
      ·have := g3.1
       simp only [Array.length_toList, Array.size_extract] at this
       omega
      ·have hj : j < rows.flatten.length := by
        rcases Nat.lt_or_ge j rows.flatten.length with h | h
        ·exact h
        ·rw [List.getElem?_eq_none h] at hc; cases hc
       have hlen := g3.1
       refine g3.2 j u c ?_ hc
       simp only [Array.getElem?_toList, Array.getElem?_extract]
       simp only [Array.length_toList, Array.size_extract] at hlen
       rw [if_pos (by omega)]
       exact hu
   ·cases hT
  | st fs =>
   simp only [isTy] at hT
   split at hT
   ·rename_i gs hu
    simp only [Bool.and_eq_true, beq_iff_eq] at hT
    obtain ⟨hT1, hT2⟩ := hT
    obtain ⟨xs, n, hn, _, hcl, hxl, hget⟩ := DataW.trod_struct hu h
    cases hn
    have : ∀ (fs : List Ty) (gl : List Field) (o : Nat), isTys P fs gl o = true → (∀ g ∈ gl, ∃ y, DataW.trod enc P w 0 spare held fuel g.type ((cs.drop g.offset).take (P.cellsOf g.type)) = some y) → o + Ty.sizes fs = cs.length →
      ∃ ps, HasTys fs ps ∧ Reps w (cs.drop o) ps := by
     intro fs
     induction fs with
     | nil =>
      intro gl o hf _ hlen
      refine ⟨[], rfl, ?_⟩
      simp only [Ty.sizes, Nat.add_zero] at hlen
      rw [List.drop_eq_nil_of_le (by omega)]
      exact Reps.nil w
     | cons f r ihf =>
      intro gl o hf hr hlen
      cases gl with
      | nil => cases hf
      | cons g q =>
       simp only [isTys, Bool.and_eq_true, beq_iff_eq] at hf
       obtain ⟨⟨⟨k1, k2⟩, k3⟩, k4⟩ := hf
       obtain ⟨y, hy⟩ := hr g (by simp)
       obtain ⟨p1, e1, e2⟩ := ih f g.type _ y k1 hy
       rw [k2, k3] at e2
       simp only [Ty.sizes] at hlen
       obtain ⟨p2, d1, d2⟩ := ihf q (o + f.size) k4 (fun g hg => hr g (by simp [hg])) (by omega)
       refine ⟨p1 ++ p2, ⟨p1, p2, rfl, e1, by rw [e2.1]; simp; omega, d1⟩, ?_⟩
       have : cs.drop o = (cs.drop o).take f.size ++ cs.drop (o + f.size) := by
        rw [← List.drop_drop]; exact (List.take_append_drop _ _).symm
       rw [this]
       exact e2.append d2
    obtain ⟨ps, h1, h2⟩ := this fs gs.toList 0 hT1 (fun g hg => by
     obtain ⟨i, hi⟩ := List.getElem?_of_mem hg
     have hi' : gs[i]? = some g := by simpa using hi
     have := hget i g hi'
     have hlt : i < xs.length := by rw [hxl]; exact (Array.getElem?_eq_some_iff.1 hi').1
     rw [List.getElem?_eq_getElem hlt] at this
     exact ⟨_, this⟩) (by omega)
    exact ⟨ps, h1, by simpa using h2⟩
   ·cases hT
  | arr n e =>
   simp only [isTy] at hT
   split at hT
   ·rename_i n' u hu
    simp only [Bool.and_eq_true, beq_iff_eq] at hT
    obtain ⟨⟨⟨rfl, hT1⟩, hT2⟩, hT3⟩ := hT
    obtain ⟨xs, m, hm, _, hcl, hxl, hget⟩ := DataW.trod_array hu h
    cases hm
    obtain ⟨rows, g1, g2, g3⟩ := rows_read (w := w) (n := n') (e := e) (fun i => (cs.drop (i * e.size)).take e.size) (fun i hi => by
     have := hget i hi
     rw [List.getElem?_eq_getElem (by omega), hT2] at this
     refine ⟨?_, ih e u _ _ hT1 this⟩
     have h5 : (i + 1) * e.size ≤ n' * e.size := Nat.mul_le_mul_right _ hi
     rw [Nat.add_mul] at h5
     simp; omega) rfl
    refine ⟨_, ⟨rows, g1, rfl, g2⟩, ?_⟩
    have : ∀ n, n * e.size ≤ cs.length → (List.range n).flatMap (fun i => (cs.drop (i * e.size)).take e.size) = cs.take (n * e.size) := by
     intro n
     induction n with
     | zero => intro _; simp
     | succ n ihn =>
      intro hn
      rw [Nat.add_mul] at hn
      rw [List.range_succ, List.flatMap_append, ihn (by omega)]
      simp only [List.flatMap_cons, List.flatMap_nil, List.append_nil, Nat.add_mul, Nat.one_mul]
      rw [List.take_add]
    rw [this n' (by omega), List.take_of_length_le (by omega)] at g3
    exact g3
   ·cases hT

end
end Fw
end

section
/-
  Package variables that are laid; how a law's statement closes.
-/
namespace Fw
open Go Go.ChangeShapes

def fnNamed (P : Program) (l : List UInt8) : List Nat := (List.range P.funcs.size).filter fun f => (P.funcs[f]?).any (·.name.toUTF8.data.toList == l)

section
variable {H : Type}

def datL (f : TypeId → DataW H → Option (List PVal)) : List (TypeId × DataW H) → Option (List PVal)
 | [] => some []
 | x :: r => match f x.1 x.2, datL f r with
  | some a, some b => some (a ++ b)
  | _, _ => none

def offsOk (P : Program) : Nat → List Field → Bool
 | _, [] => true
 | o, g :: q => g.offset == o && offsOk P (o + P.cellsOf g.type) q

def sumC (P : Program) : List Field → Nat
 | [] => 0
 | g :: q => P.cellsOf g.type + sumC P q

def datC (P : Program) (tok : H → Option Nat) : Nat → TypeId → DataW H → Option (List PVal)
 | 0, _, _ => none
 | n + 1, t, d => match P.underlying t, d with
  | some (.int k), .lit (.int k' x) => if k' = k then some [.int k x] else none
  | some .bool, .lit (.bool b) => some [.bool b]
  | some .string, .lit (.string l) => some [.str l]
  | some (.float k), .lit (.float k' b) => if k' = k then some [.flt k b] else none
  | some (.func ..), .held x => (tok x).map fun f => [.clo f [] []]
  | some (.struct gs), .agg ds => if offsOk P 0 gs.toList = true ∧ P.cellsOf t = sumC P gs.toList ∧ ds.length = gs.size then datL (datC P tok n) ((gs.toList.map (·.type)).zip ds) else none
  | some (.array m e), .agg ds => if ds.length = m ∧ P.cellsOf t = m * P.cellsOf e then datL (datC P tok n) (ds.map fun d => (e, d)) else none
  | _, _ => none

variable {enc : TypeId × Value → H} {P : Program} {w : World} {spare : Nat → Bool} {held : Bool} {tok : H → Option Nat}

theorem trod_float' {base fuel : Nat} {t : TypeId} {cs : List Value} {x : DataW H × List MemPlace} {k : FloatKind} (ht : P.underlying t = some (.float k)) (h : DataW.trod enc P w base spare held fuel t cs = some x) : ∃ b, cs = [.float k b] ∧ x = (.lit (.float k b), []) := by
 cases fuel with
 | zero => simp [DataW.trod] at h
 | succ n =>
  unfold DataW.trod at h
  rw [ht] at h
  split at h <;> simp_all

theorem trod_func {base fuel : Nat} {t : TypeId} {cs : List Value} {x : DataW H × List MemPlace} {a1 a2 : Array TypeId} {a3 : Bool} {y : H} (ht : P.underlying t = some (.func a1 a2 a3)) (h : DataW.trod enc P w base spare held fuel t cs = some x) (hx : x.1 = .held y) : ∃ v, cs = [v] ∧ enc (t, v) = y := by
 cases fuel with
 | zero => simp [DataW.trod] at h
 | succ n =>
  unfold DataW.trod at h
  rw [ht] at h
  split at h <;> simp_all
  ·rw [← h] at hx; simp at hx
  ·rw [← h.2] at hx; simpa using hx

theorem trod_dat (htok : ∀ t v f, tok (enc (t, v)) = some f → v = .func (.func f) #[] #[]) : ∀ (n fuel : Nat) (t : TypeId) (cs : List Value) (x : DataW H × List MemPlace) (ps : List PVal), datC P tok n t x.1 = some ps → DataW.trod enc P w 0 spare held fuel t cs = some x → Reps w cs ps := by
 intro n
 induction n with
 | zero => intro fuel t cs x ps hd; cases hd
 | succ n ih =>
  intro fuel t cs x ps hd h
  simp only [datC] at hd
  split at hd
  ·rename_i k k' y hu he
   obtain ⟨m, rfl, rfl, _⟩ := DataW.trod_int hu h
   simp only [DataW.lit.injEq, Lit.int.injEq] at he
   obtain ⟨rfl, rfl⟩ := he
   simp at hd
   subst hd
   exact Reps.one (.int ..)
  ·rename_i b hu he
   obtain ⟨m, rfl, rfl⟩ := DataW.trod_bool hu h
   simp only [DataW.lit.injEq, Lit.bool.injEq] at he
   subst he
   cases hd
   exact Reps.one (.bool _)
  ·rename_i l hu he
   obtain ⟨s, rfl, rfl, _⟩ := DataW.trod_string hu h
   simp only [DataW.lit.injEq, Lit.string.injEq] at he
   subst he
   cases hd
   exact Reps.one (.str s)
  ·rename_i k k' b hu he
   obtain ⟨m, rfl, rfl⟩ := trod_float' hu h
   simp only [DataW.lit.injEq, Lit.float.injEq] at he
   obtain ⟨rfl, rfl⟩ := he
   simp at hd
   subst hd
   exact Reps.one (.flt ..)
  ·rename_i a1 a2 a3 y hu he
   cases hf : tok y with
   | none => rw [hf] at hd; cases hd
   | some f =>
    rw [hf] at hd
    cases hd
    obtain ⟨v, rfl, hv⟩ := trod_func hu h he
    have := htok t v f (by rw [hv]; exact hf)
    rw [this]
    exact Reps.one (.clo _ _ _ [] [] rfl rfl (fun j u c hu => by simp at hu) (fun j u c hu => by simp at hu))
  ·rename_i gs ds hu he
   obtain ⟨xs, m, rfl, rfl, hcl, hxl, hget⟩ := DataW.trod_struct hu h
   simp only [DataW.agg.injEq] at he
   subst he
   split at hd
   ·rename_i hc
    obtain ⟨h1, h2, h3⟩ := hc
    have : ∀ (gl : List Field) (xs : List (DataW H × List MemPlace)) (o : Nat) (ps : List PVal), offsOk P o gl = true → xs.length = gl.length → (∀ (i : Nat) (g : Field), gl[i]? = some g → DataW.trod enc P w 0 spare held m g.type ((cs.drop g.offset).take (P.cellsOf g.type)) = xs[i]?) →
      datL (datC P tok n) ((gl.map (·.type)).zip (xs.map (·.1))) = some ps → o + sumC P gl = cs.length → Reps w (cs.drop o) ps := by
     intro gl
     induction gl with
     | nil =>
      intro xs o ps _ _ _ hp hlen
      cases hp
      simp only [sumC, Nat.add_zero] at hlen
      rw [List.drop_eq_nil_of_le (by omega)]
      exact Reps.nil w
     | cons g q ihq =>
      intro xs o ps ho hxl hg hp hlen
      cases xs with
      | nil => cases hxl
      | cons x r =>
       simp only [offsOk, Bool.and_eq_true, beq_iff_eq] at ho
       simp only [List.map_cons, List.zip_cons_cons, datL] at hp
       simp only [sumC] at hlen
       split at hp
       ·rename_i a b ha hb
        cases hp
        have hx := hg 0 g rfl
        simp only [List.getElem?_cons_zero] at hx
        rw [ho.1] at hx
        have r1 := ih m g.type _ x a ha hx
        have r2 := ihq r (o + P.cellsOf g.type) b ho.2 (by simpa using hxl) (fun i g' hi => by simpa using hg (i + 1) g' (by simpa using hi)) hb (by omega)
        have : cs.drop o = (cs.drop o).take (P.cellsOf g.type) ++ cs.drop (o + P.cellsOf g.type) := by
         rw [← List.drop_drop]; exact (List.take_append_drop _ _).symm
        rw [this]
        exact r1.append r2
       ·cases hp
    have := this gs.toList xs 0 ps h1 (by simpa using hxl) (fun i g hi => hget i g (by simpa using hi)) hd (by omega)
    simpa using this
   ·cases hd
  ·rename_i k e ds hu he
   obtain ⟨xs, m, rfl, rfl, hcl, hxl, hget⟩ := DataW.trod_array hu h
   simp only [DataW.agg.injEq] at he
   subst he
   split at hd
   ·rename_i hc
    obtain ⟨h1, h2⟩ := hc
    have : ∀ (xs : List (DataW H × List MemPlace)) (o : Nat) (ps : List PVal), (∀ i, i < xs.length → DataW.trod enc P w 0 spare held m e ((cs.drop ((o + i) * P.cellsOf e)).take (P.cellsOf e)) = xs[i]?) →
      datL (datC P tok n) ((xs.map (·.1)).map fun d => (e, d)) = some ps → (o + xs.length) * P.cellsOf e = cs.length → Reps w (cs.drop (o * P.cellsOf e)) ps := by
     intro xs
     induction xs with
     | nil =>
      intro o ps _ hp hlen
      cases hp
      simp only [List.length_nil, Nat.add_zero] at hlen
      rw [List.drop_eq_nil_of_le (by omega)]
      exact Reps.nil w
     | cons x r ihr =>
      intro o ps hg hp hlen
      simp only [List.map_cons, datL] at hp
      split at hp
      ·rename_i a b ha hb
       cases hp
       have hx := hg 0 (by simp)
       simp only [List.getElem?_cons_zero, Nat.add_zero] at hx
       have r1 := ih m e _ x a ha hx
       have r2 := ihr (o + 1) b (fun i hi => by have := hg (i + 1) (by simpa using hi); rw [show o + 1 + i = o + (i + 1) by omega]; simpa using this) hb (by rw [← hlen]; simp; congr 1; omega)
       have : cs.drop (o * P.cellsOf e) = (cs.drop (o * P.cellsOf e)).take (P.cellsOf e) ++ cs.drop ((o + 1) * P.cellsOf e) := by
        rw [Nat.add_mul, Nat.one_mul, ← List.drop_drop]; exact (List.take_append_drop _ _).symm
       rw [this]
       exact r1.append r2
      ·cases hp
    have := this xs 0 ps (fun i hi => by simpa using hget i (by omega)) hd (by rw [hcl, h2, hxl]; simp)
    simpa using this
   ·cases hd
  ·cases hd

theorem glob_rep {name : String} {g : Nat} {cs : Array Value} {ps : List PVal} (hg : P.globalNamed name = some g) (hv : w.var? P name = some cs) (h : Reps w cs.toList ps) : PRep w (fun _ => True) (.pointer (some ⟨g, 0, none⟩)) (.pp ps) ∧ FullG w g ps.length := by
 simp only [World.var?, hg, Option.bind_some] at hv
 split at hv
 ·rename_i c e fr hb
  cases hv
  refine ⟨.pp g 0 cs e fr ps trivial hb (by have := h.1; simp at this; omega) (fun j u p hu hp => h.2 j u p (by simpa using hu) hp), cs, e, fr, hb, ?_⟩
  have := h.1; simp at this; omega
 ·cases hv

theorem laid_data {laid : List (String × DataW Unit)} {name : String} {d : DataW Unit} {g t n : Nat} {ps : List PVal} (hm : ∃ qs, DataW.LaidVars P w laid qs) (hx : (name, d) ∈ laid) (hg : P.globalNamed name = some g) (ht : (P.globals[g]?).map (·.type) = some t)
  (hd : datC P (fun _ => none) n t d = some ps) : PRep w (fun _ => True) (.pointer (some ⟨g, 0, none⟩)) (.pp ps) ∧ FullG w g ps.length := by
 obtain ⟨qs, hm⟩ := hm
 induction laid generalizing qs with
 | nil => cases hx
 | cons y r ih =>
  obtain ⟨y1, y2⟩ := y
  obtain ⟨g', t', cs, fuel, p, q, k1, k2, k3, k4, k5, _⟩ := hm
  rcases List.mem_cons.1 hx with e | e
  ·cases e
   rw [hg] at k1; cases k1
   rw [ht] at k2; cases k2
   exact glob_rep hg k3 (trod_dat (tok := fun _ => none) (fun t v f hf => by cases hf) n fuel t cs.toList (d, p) ps hd k4)
  ·exact ih e q k5

def tokF (P : Program) (l : List UInt8) : Option Nat := match fnNamed P l, l with
 | [f], _ :: _ => some f
 | _, _ => none

theorem tokF_ok (t : TypeId) (v : Value) (f : Nat) (h : tokF P (funcToken P (t, v)) = some f) : v = .func (.func f) #[] #[] := by
 unfold tokF at h
 split at h
 ·rename_i f0 b r hone hk
  cases h
  obtain ⟨f', fn, rfl, hf, _, hb⟩ := funcToken_tells hk
  have hm : f' ∈ fnNamed P (funcToken P (t, .func (.func f') #[] #[])) := by
   refine List.mem_filter.2 ⟨List.mem_range.2 (Array.getElem?_eq_some_iff.1 hf).1, ?_⟩
   rw [hf, hk]; simpa using hb
  rw [hone] at hm
  simp at hm
  subst hm
  rfl
 ·cases h

theorem laid_funcs {laid : List (String × DataW Unit)} {name : String} {d : DataW Unit} {g t n : Nat} {ps : List PVal} (hm : laidMetH P laid w) (hx : (name, DataW.iface "func table" d) ∈ laid) (hg : P.globalNamed name = some g) (ht : (P.globals[g]?).map (·.type) = some t)
  (hd : datC P (tokF P) n t d.funcsOut = some ps) : PRep w (fun _ => True) (.pointer (some ⟨g, 0, none⟩)) (.pp ps) ∧ FullG w g ps.length := by
 obtain ⟨g', t', cs, fuel, p, k1, k2, k3, k4⟩ := hm.funcs hx
 rw [hg] at k1; cases k1
 rw [ht] at k2; cases k2
 exact glob_rep hg k3 (trod_dat (fun t v f hf => tokF_ok t v f hf) n fuel t cs.toList _ ps hd k4)

end
end Fw
end

section
/-
  How a law's statement closes.
-/
namespace Fw
open Go Go.ChangeShapes

def argOf (T : Ty) (ps : List PVal) : AVal := match T with
 | .st _ | .arr .. => .agg (ps.map .p)
 | _ => match ps with
  | [p] => .p p
  | _ => .any

def HasArgs : List Ty → List (List PVal) → Prop
 | [], [] => True
 | T :: r, ps :: q => HasTy T ps ∧ ps.length = T.size ∧ HasArgs r q
 | _, _ => False

def argsOf : List Ty → List (List PVal) → List AVal
 | T :: r, ps :: q => argOf T ps :: argsOf r q
 | _, _ => []

def isArgs (P : Program) : List Ty → List Nat → Bool
 | [], [] => true
 | T :: r, t :: q => isTy P T t && isArgs P r q
 | _, _ => false

section
variable {H : Type} {enc : TypeId × Value → H} {P : Program} {w w' : World} {spare : Nat → Bool} {held : Bool}

theorem agg_rep {cs : Array Value} {ps : List PVal} (h : Reps w cs.toList ps) (m : Mem) (s : Sto) : ARep w (fun _ => True) m s (.agg cs) (.agg (ps.map .p)) := by
 refine .agg cs _ (by have := h.1; simp at this ⊢; omega) (fun j u c hu hc => ?_)
 rw [List.getElem?_map] at hc
 cases hp : ps[j]? with
 | none => rw [hp] at hc; cases hc
 | some p => rw [hp] at hc; cases hc; exact .p _ _ (h.2 j u p (by simpa using hu) hp)

theorem one_rep {v : Value} {p : PVal} (hv : v.cells = #[v]) (h : Reps w v.cells.toList [p]) (m : Mem) (s : Sto) : ARep w (fun _ => True) m s v (.p p) := by
 rw [hv] at h
 exact .p _ _ (h.2 0 v p rfl rfl)

theorem cells_one {v : Value} (h : ∀ cs, v ≠ .agg cs) : v.cells = #[v] := by cases v <;> first | rfl | exact absurd rfl (h _)

theorem arg_rep {T : Ty} {t : Nat} {v : Value} {d : DataW H} {p : List MemPlace} {base : Nat} (hT : isTy P T t = true) (h : DataW.Trod enc P w 0 spare held t v d p) (hok : Value.okWide P w .any base t v) :
  ∃ ps, HasTy T ps ∧ ps.length = T.size ∧ ∀ m s, ARep w (fun _ => True) m s v (argOf T ps) := by
 obtain ⟨fuel, h⟩ := h
 obtain ⟨ps, h1, h2⟩ := trod_rep fuel T t _ _ hT h
 unfold Value.okWide at hok
 cases T with
 | st fs =>
  simp only [isTy] at hT
  split at hT
  ·rename_i gs hu
   simp only [Bool.and_eq_true, beq_iff_eq] at hT
   rw [hu] at hok
   obtain ⟨cs, rfl, hsz, _⟩ := hok
   exact ⟨ps, h1, by rw [h2.1]; simp only [Value.cells, Array.length_toList, Ty.size]; rw [hsz, hT.2], fun m s => agg_rep h2 m s⟩
  ·cases hT
 | arr n e =>
  simp only [isTy] at hT
  split at hT
  ·rename_i n' u hu
   simp only [Bool.and_eq_true, beq_iff_eq] at hT
   rw [hu] at hok
   obtain ⟨cs, rfl, hsz, _⟩ := hok
   exact ⟨ps, h1, by rw [h2.1]; simp only [Value.cells, Array.length_toList, Ty.size]; rw [hsz, hT.2], fun m s => agg_rep h2 m s⟩
  ·cases hT
 | int k =>
  simp only [isTy] at hT
  split at hT
  ·rename_i k' hu
   rw [hu] at hok
   have hv : v.cells = #[v] := cells_one (fun cs e => by subst e; simp [Cell.okWide, Cell.ok, hu] at hok)
   obtain ⟨n, rfl, hn⟩ := h1
   exact ⟨_, ⟨n, rfl, hn⟩, rfl, fun m s => one_rep hv h2 m s⟩
  ·cases hT
 | bool =>
  simp only [isTy] at hT
  split at hT
  ·rename_i hu
   rw [hu] at hok
   have hv : v.cells = #[v] := cells_one (fun cs e => by subst e; simp [Cell.okWide, Cell.ok, hu] at hok)
   obtain ⟨n, rfl⟩ := h1
   exact ⟨_, ⟨n, rfl⟩, rfl, fun m s => one_rep hv h2 m s⟩
  ·cases hT
 | flt k =>
  simp only [isTy] at hT
  split at hT
  ·rename_i k' hu
   rw [hu] at hok
   have hv : v.cells = #[v] := cells_one (fun cs e => by subst e; simp [Cell.okWide, Cell.ok, hu] at hok)
   obtain ⟨n, rfl, hn⟩ := h1
   exact ⟨_, ⟨n, rfl, hn⟩, rfl, fun m s => one_rep hv h2 m s⟩
  ·cases hT
 | str =>
  simp only [isTy] at hT
  split at hT
  ·rename_i hu
   rw [hu] at hok
   have hv : v.cells = #[v] := cells_one (fun cs e => by subst e; simp [Cell.okWide, Cell.ok, hu] at hok)
   obtain ⟨n, rfl, hn⟩ := h1
   exact ⟨_, ⟨n, rfl, hn⟩, rfl, fun m s => one_rep hv h2 m s⟩
  ·cases hT
 | sl e =>
  simp only [isTy] at hT
  split at hT
  ·rename_i u hu
   rw [hu] at hok
   have hv : v.cells = #[v] := cells_one (fun cs e => by subst e; simp [Cell.okWide, Cell.ok, hu] at hok)
   obtain ⟨rows, rfl, hr⟩ := h1
   exact ⟨_, ⟨rows, rfl, hr⟩, rfl, fun m s => one_rep hv h2 m s⟩
  ·cases hT

theorem args_rep {base : Nat} : ∀ (Ts : List Ty) (ts : List Nat) (vs : List Value) (ds : List (DataW H)) (p : List MemPlace), isArgs P Ts ts = true → DataW.TrodAll enc P w 0 spare held ts vs ds p → (∀ (j : Nat) t v, ts[j]? = some t → vs[j]? = some v → Value.okWide P w .any base t v) →
  ∃ pss, HasArgs Ts pss ∧ RArgs w (fun _ => True) (fun _ => none) [] vs.toArray (argsOf Ts pss) := by
 intro Ts
 induction Ts with
 | nil =>
  intro ts vs ds p hT h _
  cases ts with
  | cons => cases hT
  | nil =>
   obtain ⟨rfl, _, _⟩ := trodAll_nil h
   exact ⟨[], trivial, rfl, fun j u a hu => by simp at hu⟩
 | cons T r ih =>
  intro ts vs ds p hT h hok
  cases ts with
  | nil => cases hT
  | cons t q =>
   simp only [isArgs, Bool.and_eq_true] at hT
   obtain ⟨v, vs1, d, ds1, a, b, rfl, rfl, rfl, h1, h2⟩ := trodAll_cons h
   obtain ⟨ps, k1, k2, k3⟩ := arg_rep hT.1 h1 (hok 0 t v rfl rfl)
   obtain ⟨pss, j1, j2, j3⟩ := ih q vs1 ds1 b hT.2 h2 (fun j t v ht hv => hok (j + 1) t v (by simpa using ht) (by simpa using hv))
   refine ⟨ps :: pss, ⟨k1, k2, j1⟩, by simp [argsOf] at j2 ⊢; exact j2, fun j u a hu ha => ?_⟩
   cases j with
   | zero => simp [argsOf] at hu ha; subst hu ha; exact k3 _ _
   | succ j => exact j3 j u a (by simpa using hu) (by simpa [argsOf] using ha)

/-! what is left behind -/

theorem kept_ext (e : Ext w w') (may : MemPlace → Prop) : w.keptBut w' may := by
 refine ⟨e.os, e.output, fun i hi => ?_⟩
 have := e.same i hi
 rw [this]
 split
 ·rename_i h1 h2
  rw [h1] at h2; cases h2
  exact ⟨rfl, rfl, rfl, fun _ _ => rfl⟩
 ·rename_i h1 h2
  rw [h1] at h2; cases h2
  exact .inr ⟨rfl, rfl⟩
 ·rfl

theorem Ext.below (e : Ext w w') : RowKit.Below w.heap.size w w' := ⟨e.os, e.tape, e.output, e.size, e.same⟩

theorem trods_ext (hl : laidOutB P = true) (e : Ext w w') : ∀ (ts : List Nat) (vs : List Value) (ds : List (DataW H)) (p : List MemPlace), ts.all (fun t => P.readableRec t && decide (t < P.types.size)) = true → DataW.TrodAll enc P w 0 (fun _ => true) true ts vs ds p → (∀ x ∈ p, x.block < w.heap.size) →
  DataW.TrodAll enc P w' 0 (fun b => decide (b < w.heap.size)) true ts vs ds p := by
 intro ts
 induction ts with
 | nil =>
  intro vs ds p _ h _
  obtain ⟨rfl, rfl, rfl⟩ := trodAll_nil h
  exact rfl
 | cons t q ih =>
  intro vs ds p ht h hp
  simp only [List.all_cons, Bool.and_eq_true, decide_eq_true_eq] at ht
  obtain ⟨v, vs1, d, ds1, a, b, rfl, rfl, rfl, h1, h2⟩ := trodAll_cons h
  exact ⟨a, b, RowKit.Below.trod hl ht.1.1 ht.1.2 h1 (Ext.below e) (fun x hx => hp x (by simp [hx])), ih vs1 ds1 b ht.2 h2 (fun x hx => hp x (by simp [hx])), rfl⟩

theorem law_post (hl : laidOutB P = true) {f : Func} {s : ChangeSpec} {args : Array Value} {ds gs : List (DataW H)} {before : List MemPlace} {tb : Nat} (hvars : s.vars = []) (hret : f.resultTypes = #[tb]) (htb : P.underlying tb = some .bool)
  (hts : f.params.toList.all (fun t => P.readableRec t && decide (t < P.types.size)) = true) (hfn : ∀ ds : List (DataW H), ds.length = f.params.size → s.fn H ds = { results := [.lit (.bool true)], args := ds })
  (hW : DataW.Whole enc P f.params.toList s.vars false w args.toList ds gs before) (e : Ext w w') : s.post enc P f false true false false w args (.bool true) w' := by
 have hlt := hW.lt
 obtain ⟨p, q, h1, h2, h3, h4, h5⟩ := hW
 rw [hvars] at h2
 obtain ⟨hg, hq⟩ := trodVars_none h2
 subst hg hq
 have hlen : ds.length = f.params.size := by
  have : ∀ (ts : List Nat) (vs : List Value) (ds : List (DataW H)) (p : List MemPlace), DataW.TrodAll enc P w 0 (fun _ => true) true ts vs ds p → ds.length = ts.length := by
   intro ts
   induction ts with
   | nil => intro vs ds p h; obtain ⟨_, rfl, _⟩ := trodAll_nil h; rfl
   | cons t q ih =>
    intro vs ds p h
    obtain ⟨v, vs1, d, ds1, a, b, rfl, rfl, rfl, _, h2⟩ := trodAll_cons h
    simp [ih vs1 ds1 b h2]
  simpa using this _ _ _ _ h1
 have hs := hfn ds hlen
 have hpl : ∀ x ∈ p, x.block < w.heap.size := fun x hx => hlt x (by rw [h3]; simp [hx])
 refine ⟨ds, [], before, [], p, [], ⟨p, [], h1, by rw [hvars]; exact h2, h3, h4, h5⟩, ?_, ?_, ?_, kept_ext e _, fun h => by cases h⟩
 ·simp only [List.append_nil, hs, hret, Value.resultList]
  exact trodAll_mk1 (RowKit.shut_bool htb true)
 ·simp only [List.append_nil, hs]
  exact trods_ext hl e _ _ _ _ hts h1 hpl
 ·simp only [List.append_nil, hs, hvars]
  exact rfl

/-! the call -/

theorem callPure_fn {CM : Nat → Code → ACode → Prop} {G : Nat → Option (List PVal)} {call : CallF} {C : Nat → List AVal → Option (T AVal)} (hcall : CallOk CM P G call) {f : Nat} {as : List AVal} {vs : Array Value} {I : Nat → Prop} (hg : GOk G w I) (ha : RArgs w I (fun _ => none) [] vs as) {K : AVal → Prop} (hC : C f as = none) (hq : (callPure call C (.fn f) as).All K) :
  FnOk P f vs w (fun v w' => ∃ r, K r ∧ FinOk CM w I w' v r) := by
 simp only [callPure, hC] at hq
 rw [T.All_bind] at hq
 have := hcall (.fn f) as [] _ hq w.heap.size I w (fun _ => none) vs (SRep.empty w I) (Nat.le_refl _) (hg.mono (keeps_empty w I))
  (ha.mono (keeps_empty w I) (KeepsO.refl _ _))
 refine FnOk.mono this (fun v w' ⟨a, s', m', h1, h2, h3, h4⟩ => ?_)
 simp only [T.All_ofOpt] at h1
 obtain ⟨r, hr, hk⟩ := h1
 have ev := h3 0
 refine ⟨r, hk, ⟨ev.os, ev.tape, ev.output, ev.size, fun b hb => ?_⟩, m', s', a, h2, h4, hr⟩
 obtain ⟨o, ho⟩ := agetElem?_of_lt w.heap b hb
 rw [ho]
 exact ev.keep b o ho (fun ⟨i, o, z, h, _⟩ => by cases h)

theorem fin_bool {CM : Nat → Code → ACode → Prop} {v : Value} {b : Bool} (h : FinOk CM w (fun _ => True) w' v (.p (.bool b))) : v = .bool b := by
 obtain ⟨a, s', m', h1, _, _, h4⟩ := giveR_ok (Q := fun x => x.1 = AVal.p (.bool b)) (adopt := 0) (m := fun _ => none) (s := []) (SRep.empty (CM := CM) w (fun _ => True)) (Nat.le_refl _) (fun c _ _ => ⟨fun _ => trivial, fun ⟨i, o, z, h, _⟩ => by cases h⟩) h (by simp only [giveR, if_true]; exact rfl)
 simp only at h1
 subst h1
 exact inv_bool h4

theorem law_call {F : Nat → Option AFunc} {C : Nat → List AVal → Option (T AVal)} {G : Nat → Option (List PVal)} (hF : FOk P F) (hC : COk (CMP P) P G C) {f d : Nat} {args : Array Value} {as : List AVal} (hG : GOk G w (fun _ => True))
  (ha : RArgs w (fun _ => True) (fun _ => none) [] args as) (hCf : C f as = none) (hq : (evP F C G d f as).All (· = .p (.bool true))) :
  Calls P f args w (fun e w' => e = .returned (.bool true) ∧ Ext w w') := by
 refine Calls.mono (callPure_fn (evFn_ok hF hC d) hG ha hCf hq).2 (fun e w' ⟨v, he, r, hr, hf⟩ => ?_)
 subst hr
 exact ⟨by rw [he, fin_bool hf], hf.1⟩

theorem law_contract {F : Nat → Option AFunc} {C : Nat → List AVal → Option (T AVal)} {G : Nat → Option (List PVal)} (hF : FOk P F) (hC : COk (CMP P) P G C) {f d : Nat} {fn : Func} {s : ChangeSpec} {Ts : List Ty} {tb : Nat}
  (hl : laidOutB P = true) (hargs : isArgs P Ts fn.params.toList = true) (hvars : s.vars = []) (hret : fn.resultTypes = #[tb]) (htb : P.underlying tb = some .bool)
  (hts : fn.params.toList.all (fun t => P.readableRec t && decide (t < P.types.size)) = true) (hfn : ∀ ds : List (DataW H), ds.length = fn.params.size → s.fn H ds = { results := [.lit (.bool true)], args := ds })
  (hCf : ∀ as, C f as = none) (hq : ∀ pss, HasArgs Ts pss → (evP F C G d f (argsOf Ts pss)).All (· = .p (.bool true)))
  {base : Nat} {args : Array Value} {ds gs : List (DataW H)} {before : List MemPlace} (hval : ∀ (j : Nat) t v, fn.params[j]? = some t → args[j]? = some v → Value.okWide P w .any base t v)
  (hW : DataW.Whole enc P fn.params.toList s.vars false w args.toList ds gs before) (hG : GOk G w (fun _ => True)) :
  Calls P f args w (fun e w' => ∃ v, e = .returned v ∧ s.post enc P fn false true false false w args v w') := by
 obtain ⟨p, q, h1, _⟩ := id hW
 obtain ⟨pss, k1, k2⟩ := args_rep Ts fn.params.toList args.toList ds p hargs h1 (fun j t v ht hv => hval j t v (by simpa using ht) (by simpa using hv))
 exact Calls.mono (law_call hF hC hG k2 (hCf _) (hq pss k1)) (fun e w' ⟨he, hx⟩ => ⟨_, he, law_post hl hvars hret htb hts hfn hW hx⟩)

end
end Fw
end

section
/-
  Functions of the library by contract: those without a body, and strings.Join.
-/
namespace Fw
open Go

abbrev Con := List AVal → Option (T AVal)

def tabC : List (Nat × Con) → Nat → List AVal → Option (T AVal)
 | [], _, _ => none
 | x :: r, f, as => if x.1 = f then x.2 as else tabC r f as

section
variable {CM : Nat → Code → ACode → Prop} {P : Program} {G : Nat → Option (List PVal)} {w w' : World} {I : Nat → Prop}

def COkAt (CM : Nat → Code → ACode → Prop) (P : Program) (G : Nat → Option (List PVal)) (f : Nat) (c : Con) : Prop :=
 ∀ as t, c as = some t → ∀ (K : AVal → Prop), t.All K → ∀ (w : World) (I : Nat → Prop) (vs : Array Value), GOk G w I → RArgs w I (fun _ => none) [] vs as → Enters P f vs w (fun v w' => ∃ r, K r ∧ FinOk CM w I w' v r)

theorem tabC_ok {l : List (Nat × Con)} (h : ∀ x ∈ l, COkAt CM P G x.1 x.2) : COk CM P G (tabC l) := by
 induction l with
 | nil => intro f as t ht; cases ht
 | cons x r ih =>
  intro f as t ht
  simp only [tabC] at ht
  split at ht
  ·rename_i e; subst e; exact h x (by simp) as t ht
  ·exact ih (fun y hy => h y (by simp [hy])) f as t ht

theorem fin_one {v : Value} {p : PVal} (hp : PRep w' (fun _ => True) v p) (hs : scalarP p = true) (hn : nrm p = p) (e : Ext w w') : FinOk CM w I w' v (.p p) :=
 ⟨e, fun _ => none, [], .p p, (SRep.empty w I).ext e, .p _ _ (scalarP_rep hp hs _), by simp [finR, fin1, purA, hn]⟩

theorem args1 {vs : Array Value} {a : AVal} (h : RArgs w I (fun _ => none) [] vs [a]) : ∃ v, vs = #[v] ∧ ARep w I (fun _ => none) [] v a := by
 obtain ⟨l⟩ := vs
 match l, h with
 | [v], h => exact ⟨v, rfl, h.2 0 v a rfl rfl⟩
 | [], h => simp [RArgs] at h
 | _ :: _ :: _, h => simp [RArgs] at h

theorem args2 {vs : Array Value} {a b : AVal} (h : RArgs w I (fun _ => none) [] vs [a, b]) : ∃ u v, vs = #[u, v] ∧ ARep w I (fun _ => none) [] u a ∧ ARep w I (fun _ => none) [] v b := by
 obtain ⟨l⟩ := vs
 match l, h with
 | [u, v], h => exact ⟨u, v, rfl, h.2 0 u a rfl rfl, h.2 1 v b rfl rfl⟩
 | [], h => simp [RArgs] at h
 | [_], h => simp [RArgs] at h
 | _ :: _ :: _ :: _, h => simp [RArgs] at h

theorem extern_ok {f : Nat} {fn : Func} {e : Array Value → Sem Value} (hf : P.funcs[f]? = some fn) (hb : fn.body.isNone = true) (hn : (fn.name == "runtime.NumGoroutine") = false) (hx : Extern.findNext fn = none) (he : Extern.find fn = some e) {vs : Array Value} {v : Value} (hr : (e vs).run P w = .ok v w')
  {R : Value → World → Prop} (h : R v w') : Enters P f vs w R := by
 refine .inr ⟨v, w', ?_, h⟩
 have hn' : fn.name ≠ "runtime.NumGoroutine" := by simpa using hn
 have hb' : fn.body = none := by simpa using hb
 simp [callFunc, program, hf, hb', hn', hx, he, Sem.run, Result.andThen, mark, hr]

def cBits : Con := fun as => match as with
 | [.p (.flt .f64 b)] => some (.ret (.p (.int .u64 b)))
 | _ => none

def cFrom : Con := fun as => match as with
 | [.p (.int .u64 n)] => some (.ret (.p (.flt .f64 n.toNat)))
 | _ => none

def cIntegral (way : Ieee.Toward) : Con := fun as => match as with
 | [.p (.flt .f64 x)] => match FloatKind.f64.decode x with
  | .nan s t => if FloatKind.f64.format.quiet t = t then some (.ret (.p (.flt .f64 x))) else some (.pick 2 fun i => .ret (.p (.flt .f64 (if i = 1 then x else FloatKind.f64.encode (.nan s (FloatKind.f64.format.quiet t))))))
  | d => some (.ret (.p (.flt .f64 (FloatKind.f64.encode (d.integral way)))))
 | _ => none

def toI (way : Ieee.Toward) (x : Nat) : Sem Value := match FloatKind.f64.decode x with
 | .nan s t =>
  if FloatKind.f64.format.quiet t = t then pure (.float .f64 x) else do
  let kept ← choose (.extern "math.Floor,Ceil,Trunc,RoundToEven.signallingNaN kept" 2)
  pure (.float .f64 (if kept == 1 then x else FloatKind.f64.encode (.nan s (FloatKind.f64.format.quiet t))))
 | d => pure (.float .f64 (FloatKind.f64.encode (d.integral way)))

/-! strings.Join -/

def strs : List PVal → Option (List (List UInt8))
 | [] => some []
 | .str l :: r => (strs r).map (l :: ·)
 | _ => none

def cJoin : Con := fun as => match as with
 | [.p (.sl cs n), .p (.str sep)] => match strs cs with
  | some ls => if n = cs.length ∧ n ≤ lim ∧ (Lib.join ls sep).length ≤ lim then some (.ret (.p (.str (Lib.join ls sep)))) else none
  | none => none
 | _ => none

theorem strs_spec : ∀ {cs : List PVal} {ls : List (List UInt8)}, strs cs = some ls → cs = ls.map .str := by
 intro cs
 induction cs with
 | nil => intro ls h; cases h; rfl
 | cons c r ih =>
  intro ls h
  cases c <;> simp only [strs, Option.map_eq_some_iff] at h <;> try (cases h; done)
  obtain ⟨q, h1, rfl⟩ := h
  rw [ih h1]; rfl

theorem cJoin_ok {f : Nat} {fn : Func} (hf : P.funcs[f]? = some fn) (hb : fn.body.isSome = true) (hn : (fn.name == "runtime.NumGoroutine") = false)
  (j0 : ∀ (a : Option Addr) (c : Nat) (sep : ByteArray) (w : World), Calls P f #[.slice a 0 c, .string sep] w fun e w' => e = .returned (.string ⟨#[]⟩) ∧ w' = w)
  (j1 : ∀ (bk o c : Nat) (xs : List ByteArray) (sep : ByteArray) (w : World), (∀ (j : Nat) x, xs[j]? = some x → w.cell? ⟨bk, o + j, none⟩ = some (.string x)) → bk < w.heap.size → xs.length ≤ 140737488355328 → xs.length ≤ c → (Lib.join (xs.map (·.data.toList)) sep.data.toList).length ≤ 140737488355328 →
   Calls P f #[.slice (some ⟨bk, o, none⟩) xs.length c, .string sep] w fun e w' => e = .returned (.string ⟨(Lib.join (xs.map (·.data.toList)) sep.data.toList).toArray⟩) ∧ RowKit.Below w.heap.size w w') : COkAt CM P G f cJoin := by
 intro as t ht K hK w I vs _ ha
 unfold cJoin at ht
 split at ht
 ·rename_i cs n sep
  split at ht
  ·rename_i ls hls
   split at ht
   ·rename_i hc
    obtain ⟨rfl, hl1, hl2⟩ := hc
    cases ht
    obtain ⟨u, v, rfl, h1, h2⟩ := args2 ha
    obtain ⟨st, rfl, rfl⟩ := inv_str h2
    have hcs := strs_spec hls
    obtain ⟨c, hbody⟩ := Option.isSome_iff_exists.1 hb
    have henter := callFunc_ok (P := P) hf hbody hn
    have fin : ∀ (r : ByteArray) (w' : World), r.data.toList = Lib.join ls st.data.toList → Ext w w' → ∃ x, K x ∧ FinOk CM w I w' (.string r) x := fun r w' hr e => ⟨_, hK, by rw [← hr]; exact fin_one (.str r) rfl rfl e⟩
    cases h1 with
    | p _ _ hp =>
     cases hp with
     | sl0 a cap =>
      refine .inl ⟨henter _ _, Calls.mono (j0 a cap st w) (fun e w' ⟨he, hw⟩ => ⟨_, he, ?_⟩)⟩
      subst hw
      have : ls = [] := by simpa using hcs.symm
      subst this
      exact fin _ _ rfl (Ext.refl _)
     | sl b off len cap cur e fr _ hI hbk hle hcap hcells =>
      have hlen : cs.length = ls.length := by rw [hcs]; simp
      have hx : ∀ j, j < ls.length → ∃ s : ByteArray, cur[off + j]? = some (.string s) ∧ some s.data.toList = ls[j]? := by
       intro j hj
       obtain ⟨u, hu⟩ := agetElem?_of_lt cur (off + j) (by omega)
       have hq : cs[j]? = some (.str (ls[j])) := by rw [hcs]; simp [hj]
       have := hcells j u _ hu hq
       generalize hlj : ls[j] = lj at this
       cases this with
       | str s => exact ⟨s, hu, by rw [List.getElem?_eq_getElem hj, hlj]⟩
      obtain ⟨xs, hxl, hxs⟩ : ∃ xs : List ByteArray, xs.map (·.data.toList) = ls ∧ ∀ (j : Nat) x, xs[j]? = some x → cur[off + j]? = some (.string x) := by
       clear hcs hls hl1 hl2 hK fin hcells hle hcap hlen ha
       have : ∀ (ls : List (List UInt8)) (o : Nat), (∀ j, j < ls.length → ∃ s : ByteArray, cur[o + j]? = some (.string s) ∧ some s.data.toList = ls[j]?) → ∃ xs : List ByteArray, xs.map (·.data.toList) = ls ∧ ∀ (j : Nat) x, xs[j]? = some x → cur[o + j]? = some (.string x) := by
        intro ls
        induction ls with
        | nil => intro o _; exact ⟨[], rfl, fun j x hj => by simp at hj⟩
        | cons l r ih =>
         intro o h
         obtain ⟨s, k1, k2⟩ := h 0 (by simp)
         obtain ⟨xs, g1, g2⟩ := ih (o + 1) (fun j hj => by have := h (j + 1) (by simpa using hj); simpa [Nat.add_assoc, Nat.add_comm 1] using this)
         refine ⟨s :: xs, by simp at k2; simp [g1, k2], fun j x hj => ?_⟩
         cases j with
         | zero => simp at hj; subst hj; simpa using k1
         | succ j => have := g2 j x (by simpa using hj); simpa [Nat.add_assoc, Nat.add_comm 1] using this
       exact this ls off hx
      have hxlen : xs.length = cs.length := by rw [hlen, ← hxl]; simp
      have hc := j1 b off cap xs st w (fun j x hj => by rw [cell_row hbk]; exact hxs j x hj) (heap_lt hbk) (by rw [hxlen]; simp only [lim] at hl1; omega) (by rw [hxlen]; exact hcap) (by rw [hxl]; simp only [lim] at hl2; omega)
      rw [hxlen] at hc
      refine .inl ⟨henter _ _, Calls.mono hc (fun e w' ⟨he, hw⟩ => ⟨_, he, ?_⟩)⟩
      rw [hxl]
      exact fin _ _ (by simp) ⟨hw.os, hw.tape, hw.output, hw.size, hw.block⟩
   ·cases ht
  ·cases ht
 ·cases ht

end
end Fw
end

section
/-
  The evaluator, one step at a time: rules for calls, loops.
-/
namespace Fw
open Go

def finish (rs : List ARes) (x : Ex × St) : T AVal := match x.1 with
 | .exit _ => .fail
 | _ => match (rs.mapM (resA x.2.sto x.2.env)).map retA with
  | some v => .ofOpt (finR x.2.sto v)
  | none => .fail

section
variable {F : Nat → Option AFunc} {C : Nat → List AVal → Option (T AVal)} {G : Nat → Option (List PVal)} {d : Nat}

theorem T_bind_assoc {α β γ : Type} (t : T α) (f : α → T β) (g : β → T γ) : (t.bind f).bind g = t.bind fun a => (f a).bind g := T.bind_assoc t f g

theorem call_eq {f : Nat} {fn : AFunc} (hF : F f = some fn) (args : List AVal) (hC : C f args = none) :
  callPure (evFn F C G (d + 1)) C (.fn f) args = (evCode (evFn F C G d) C G 0 fn.body ⟨zipArgs 0 args, []⟩).bind (finish fn.results) := by
 simp only [callPure, hC, evFn, hF, T_bind_assoc]
 show (evCode (evFn F C G d) C G 0 fn.body ⟨zipArgs 0 args, []⟩).bind _ = _
 congr 1
 funext x
 obtain ⟨ex, st⟩ := x
 cases ex <;> simp only [finish] <;> first | rfl | (simp only [evRes]; cases (fn.results.mapM (resA st.sto st.env)).map retA <;> rfl)

theorem loop_run {step : St → T (Ex × St)} (inv : Nat → St) (n : Nat) {e : Ex} {st' st0 : St} (he : e ≠ .normal) (h0 : step st0 = step (inv 0)) (hstep : ∀ i, i < n → step (inv i) = .ret (.normal, inv (i + 1))) (hend : step (inv n) = .ret (e, st')) {fuel : Nat} (hf : n < fuel) :
  loopN step fuel st0 = .ret (e, st') := by
 have : ∀ k, k ≤ n → ∀ fuel st0, step st0 = step (inv (n - k)) → k < fuel → loopN step fuel st0 = .ret (e, st') := by
  intro k
  induction k with
  | zero =>
   intro _ fuel st0 h0 hf
   cases fuel with
   | zero => omega
   | succ fuel =>
    simp only [loopN, h0, Nat.sub_zero, hend, T.bind]
    all_goals (cases e <;> first | rfl | exact absurd rfl he)
  | succ k ih =>
   intro hk fuel st0 h0 hf
   cases fuel with
   | zero => omega
   | succ fuel =>
    simp only [loopN, h0, hstep (n - (k + 1)) (by omega), T.bind]
    exact ih (by omega) fuel _ (by rw [show n - (k + 1) + 1 = n - k by omega]) (by omega)
 exact this n (Nat.le_refl _) fuel st0 (by rw [Nat.sub_self]; exact h0) hf

theorem loop_rec {step : St → T (Ex × St)} (inv : Nat → St) (out : Nat → Ex × St) (n : Nat) {st0 : St} (h0 : step st0 = step (inv 0)) (hstep : ∀ i, i < n → (step (inv i) = .ret (.normal, inv (i + 1)) ∧ out i = out (i + 1)) ∨ (step (inv i) = .ret (out i) ∧ (out i).1 ≠ .normal))
  (hend : step (inv n) = .ret (out n) ∧ (out n).1 ≠ .normal) {fuel : Nat} (hf : n < fuel) : loopN step fuel st0 = .ret (out 0) := by
 have : ∀ k, k ≤ n → ∀ fuel st0, step st0 = step (inv (n - k)) → k < fuel → loopN step fuel st0 = .ret (out (n - k)) := by
  intro k
  induction k with
  | zero =>
   intro _ fuel st0 h0 hf
   cases fuel with
   | zero => omega
   | succ fuel =>
    obtain ⟨h1, h2⟩ := hend
    rw [Nat.sub_zero] at h0 ⊢
    simp only [loopN, h0, h1, T.bind]
    all_goals (generalize out n = o at h2; obtain ⟨e, st⟩ := o; cases e <;> first | rfl | exact absurd rfl h2)
  | succ k ih =>
   intro hk fuel st0 h0 hf
   cases fuel with
   | zero => omega
   | succ fuel =>
    rcases hstep (n - (k + 1)) (by omega) with ⟨h1, h2⟩ | ⟨h1, h2⟩
    ·simp only [loopN, h0, h1, T.bind]
     rw [h2, show n - (k + 1) + 1 = n - k by omega]
     exact ih (by omega) fuel _ rfl (by omega)
    ·simp only [loopN, h0, h1, T.bind]
     all_goals (generalize out (n - (k + 1)) = o at h2; obtain ⟨e, st⟩ := o; cases e <;> first | rfl | exact absurd rfl h2)
 have := this n (Nat.le_refl _) fuel st0 (by rw [Nat.sub_self]; exact h0) hf
 rwa [Nat.sub_self] at this

end

/-! the rules by which a run is simplified: what comes behind waits until what is ahead has a value -/

section
variable (call : CallF) (C : Nat → List AVal → Option (T AVal)) (G : Nat → Option (List PVal)) (lo : Nat)

def opsK (r : List AOper) (st : St) : T St := evOps call C G r st
def opsDK (rb : Nat) (r : List (Nat × AOper)) (st : St) : T St := evOpsD call C G rb r st
def restK (live : List Nat) (st : St) : T (Ex × St) := .ret (.normal, ⟨restrict st.env live, st.sto⟩)
def seqK (b : ACode) (x : Ex × St) : T (Ex × St) := match x.1 with
 | .normal => evCode call C G lo b x.2
 | e => .ret (e, x.2)
def blockK (id : Nat) (x : Ex × St) : T (Ex × St) := match x.1 with
 | .exit id' => if id' = id then .ret (.normal, x.2) else .ret (.exit id', x.2)
 | e => .ret (e, x.2)
def loopS (g : Bool) (live : List Nat) (b : ACode) (st : St) : T (Ex × St) := evCode call C G lo b ⟨restrict st.env live, if g then gc lo (restrict st.env live) st.sto else st.sto⟩
def setK (env : Env) (dst : Option Nat) (x : AVal × Sto) : T St := .ret ⟨setE env dst x.1, x.2⟩
def setQ (env : Env) (dst : Option Nat) (s : Sto) (a : AVal) : T St := .ret ⟨setE env dst a, s⟩
def giveK (adopt : Nat) (s : Sto) (r : AVal) : T (AVal × Sto) := giveR adopt r s
def scalK (s : Sto) (r : AVal) : T (AVal × Sto) := match snapR r with
 | some a => .ret (a, s)
 | none => .fail
def gcK (s : Sto) (x : AVal × Sto) : T (AVal × Sto) := .ret (x.1, gc (nextId s) [(0, x.1)] x.2)
def fstK (x : AVal × Sto) : T AVal := .ret x.1
def disK (r : AVal) : T AVal := .ret (disownR r)
def sclK (r : AVal) : T AVal := match snapR r with
 | some a => .ret a
 | none => .fail

variable {call C G lo}

theorem opsK_eq (r : List AOper) (st : St) : opsK call C G r st = evOps call C G r st := rfl
theorem opsDK_eq (rb : Nat) (r : List (Nat × AOper)) (st : St) : opsDK call C G rb r st = evOpsD call C G rb r st := rfl
theorem restK_eq (live : List Nat) (st : St) : restK live st = .ret (.normal, ⟨restrict st.env live, st.sto⟩) := rfl
theorem seqK_normal (b : ACode) (st : St) : seqK call C G lo b (.normal, st) = evCode call C G lo b st := rfl
theorem seqK_exit (b : ACode) (id : Nat) (st : St) : seqK call C G lo b (.exit id, st) = .ret (.exit id, st) := rfl
theorem seqK_ret (b : ACode) (st : St) : seqK call C G lo b (.ret, st) = .ret (.ret, st) := rfl
theorem blockK_normal (id : Nat) (st : St) : blockK id (.normal, st) = .ret (.normal, st) := rfl
theorem blockK_exit (id id' : Nat) (st : St) : blockK id (.exit id', st) = if id' = id then .ret (.normal, st) else .ret (.exit id', st) := rfl
theorem blockK_ret (id : Nat) (st : St) : blockK id (.ret, st) = .ret (.ret, st) := rfl
theorem setK_eq (env : Env) (dst : Option Nat) (a : AVal) (s : Sto) : setK env dst (a, s) = .ret ⟨setE env dst a, s⟩ := rfl
theorem setQ_eq (env : Env) (dst : Option Nat) (s : Sto) (a : AVal) : setQ env dst s a = .ret ⟨setE env dst a, s⟩ := rfl
theorem giveK_eq (adopt : Nat) (s : Sto) (r : AVal) : giveK adopt s r = giveR adopt r s := rfl
theorem scalK_eq (s : Sto) (r : AVal) : scalK s r = match snapR r with
  | some a => .ret (a, s)
  | none => .fail := rfl
theorem gcK_eq (s : Sto) (a : AVal) (s' : Sto) : gcK s (a, s') = .ret (a, gc (nextId s) [(0, a)] s') := rfl
theorem fstK_eq (a : AVal) (s : Sto) : fstK (a, s) = .ret a := rfl
theorem disK_eq (r : AVal) : disK r = .ret (disownR r) := rfl
theorem sclK_eq (r : AVal) : sclK r = match snapR r with
  | some a => .ret a
  | none => .fail := rfl
theorem finish_normal (rs : List ARes) (st : St) : finish rs (.normal, st) = match (rs.mapM (resA st.sto st.env)).map retA with
  | some v => .ofOpt (finR st.sto v)
  | none => .fail := rfl
theorem finish_ret (rs : List ARes) (st : St) : finish rs (.ret, st) = match (rs.mapM (resA st.sto st.env)).map retA with
  | some v => .ofOpt (finR st.sto v)
  | none => .fail := rfl

theorem evOps_nil (st : St) : evOps call C G [] st = .ret st := rfl
theorem evOps_cons (o : AOper) (r : List AOper) (st : St) : evOps call C G (o :: r) st = (evOper call C G st o).bind (opsK call C G r) := rfl
theorem evOpsD_nil (rb : Nat) (st : St) : evOpsD call C G rb [] st = .ret st := rfl
theorem evOpsD_cons (rb k : Nat) (o : AOper) (r : List (Nat × AOper)) (st : St) : evOpsD call C G rb ((k, o) :: r) st = (evOperD call C G rb k o st).bind (opsDK call C G rb r) := rfl

theorem evOper_none (st : St) (d : Option Nat) (op : AOp) : evOper call C G st ⟨d, op, none⟩ = (evOp call C (evOpd G st.env) st.sto op).bind (setK st.env d) := rfl
theorem evOper_some (st : St) (d : Option Nat) (op : AOp) (t : Nat) (w : Bool) : evOper call C G st ⟨d, op, some (t, w)⟩ = match wantedA st.env (some (t, w)) with
  | none => .fail
  | some false => .ret ⟨setE st.env d undefA, st.sto⟩
  | some true => (evOp call C (evOpd G st.env) st.sto op).bind (setK st.env d) := rfl
theorem evOperD_zero (rb : Nat) (st : St) (d : Option Nat) (op : AOp) : evOperD call C G rb 0 ⟨d, op, none⟩ st = (evOp call C (evOpd G st.env) st.sto op).bind (setK st.env d) := rfl
theorem evOperD_one (rb : Nat) (st : St) (d : Option Nat) (op : AOp) : evOperD call C G rb 1 ⟨d, op, none⟩ st = (qOp call C (evOpd G st.env) st.sto op).bind (setQ st.env d st.sto) := by
 unfold evOperD
 simp only [wantedA, dOp, T.bind_assoc, T.bind]
 rfl
theorem evOperD_two (rb : Nat) (st : St) (d : Option Nat) (op : AOp) : evOperD call C G rb 2 ⟨d, op, none⟩ st = (aOpC call C rb (evOpd G st.env) st.sto op).bind (setK st.env d) := rfl
theorem evOperD_three (rb : Nat) (st : St) (d : Option Nat) (op : AOp) : evOperD call C G rb 3 ⟨d, op, none⟩ st = (stOp (evOpd G st.env) st.sto op).bind (setK st.env d) := rfl
theorem evOperD_box (rb : Nat) (st : St) (d : Option Nat) (op : AOp) : evOperD call C G rb 4 ⟨d, op, none⟩ st = (qOp call C (evOpd G st.env) (boxes st.sto) op).bind (setQ st.env d st.sto) := by
 unfold evOperD
 simp only [wantedA, dOp, T.bind_assoc, T.bind]
 rfl
theorem evOperD_still (rb : Nat) (st : St) (d : Option Nat) (op : AOp) : evOperD call C G rb 5 ⟨d, op, none⟩ st = (qOp call C (evOpd G st.env) [] op).bind (setQ st.env d st.sto) := by
 unfold evOperD
 simp only [wantedA, dOp, T.bind_assoc, T.bind]
 rfl
def keepK (ids : List Nat) (s : Sto) (x : AVal × Sto) : T (AVal × Sto) := if keptB ids s x.2 then .ret x else .fail
theorem keepK_eq (ids : List Nat) (s : Sto) (x : AVal × Sto) : keepK ids s x = if keptB ids s x.2 then .ret x else .fail := rfl
theorem evOperD_four (rb k : Nat) (st : St) (d : Option Nat) (op : AOp) : evOperD call C G rb (k + 6) ⟨d, op, none⟩ st =
  if k % 3 = 0 then (qOp call C (evOpd G st.env) (hide (hidI (evOpd G st.env) (k / 3)) st.sto) op).bind (setQ st.env d st.sto)
  else if k % 3 = 1 then (qOp call C (evOpd G st.env) (onlyI (hidI (evOpd G st.env) (k / 3)) st.sto) op).bind (setQ st.env d st.sto)
  else ((evOp call C (evOpd G st.env) st.sto op).bind (keepK (hidI (evOpd G st.env) (k / 3)) st.sto)).bind (setK st.env d) := by
 unfold evOperD
 simp only [wantedA, dOp]
 split
 ·simp only [T.bind_assoc, T.bind]; rfl
 ·split
  ·simp only [T.bind_assoc, T.bind]; rfl
  ·rfl
theorem evOperD_some (rb k : Nat) (st : St) (d : Option Nat) (op : AOp) (t : Nat) (w : Bool) : evOperD call C G rb k ⟨d, op, some (t, w)⟩ st = match wantedA st.env (some (t, w)) with
  | none => .fail
  | some false => .ret ⟨setE st.env d undefA, st.sto⟩
  | some true => evOperD call C G rb k ⟨d, op, none⟩ st := by
 unfold evOperD
 simp only
 cases wantedA st.env (some (t, w)) with
 | none => rfl
 | some b => cases b <;> rfl

theorem ev_skip (st : St) : evCode call C G lo .skip st = .ret (.normal, st) := rfl
theorem ev_ops (l : List AOper) (live : List Nat) (st : St) : evCode call C G lo (.ops l live) st = (evOps call C G l st).bind (restK live) := rfl
theorem ev_opsd (perm : List (Nat × Nat)) (l : List AOper) (live : List Nat) (st : St) : evCode call C G lo (.opsd perm l live) st = (evOpsD call C G (nextId st.sto) ((perm.map (·.2)).zip l) st).bind (restK live) := rfl
theorem ev_seq (a b : ACode) (st : St) : evCode call C G lo (.seq a b) st = (evCode call C G lo a st).bind (seqK call C G lo b) := rfl
theorem ev_cond (c : Opd) (a b : ACode) (st : St) : evCode call C G lo (.cond c a b) st = match asB (evOpd G st.env c) with
  | some t => if t then evCode call C G lo a st else evCode call C G lo b st
  | none => .fail := rfl
theorem ev_block (id : Nat) (b : ACode) (st : St) : evCode call C G lo (.block id b) st = (evCode call C G lo b st).bind (blockK id) := rfl
theorem ev_loop (g : Bool) (live : List Nat) (b : ACode) (st : St) : evCode call C G lo (.loop g live b) st = loopN (loopS call C G lo g live b) loopFuel st := rfl
theorem loopS_eq (g : Bool) (live : List Nat) (b : ACode) (st : St) : loopS call C G lo g live b st = evCode call C G lo b ⟨restrict st.env live, if g then gc lo (restrict st.env live) st.sto else st.sto⟩ := rfl
theorem ev_exit (id : Nat) (st : St) : evCode call C G lo (.exit id) st = .ret (.exit id, st) := rfl
theorem ev_ret (st : St) : evCode call C G lo .ret st = .ret (.ret, st) := rfl
theorem ev_scope (b : ACode) (st : St) : evCode call C G lo (.scope b) st = evCode call C G lo b st := rfl

theorem evOp_call (ρ : Opd → AVal) (s : Sto) (snap scal : Bool) (adopt : Nat) (c : Cee) (args : List Opd) : evOp call C ρ s (.call snap scal adopt c args) = callOp call C ρ s snap scal adopt c args := rfl

def callF (call : CallF) (C : Nat → List AVal → Option (T AVal)) (s : Sto) (snap scal : Bool) (adopt : Nat) (f : Nat) (as : List AVal) : T (AVal × Sto) :=
 if adopt = 1000 then (call (.fn f) as s).bind (gcK s)
 else if as.all pureA then (callPure call C (.fn f) (rawA adopt as)).bind (giveK (adoptN adopt) s)
 else if snap then
  if scal then
   match as.mapM (purA false s) with
   | none => .fail
   | some as' => (callPure call C (.fn f) as').bind (scalK s)
  else
   match as.mapM (purA true (froze s as)) with
   | none => .fail
   | some as' => (callPure call C (.fn f) as').bind (giveK adopt (froze s as))
 else (call (.fn f) as s).bind (gcK s)

theorem callF_eq (s : Sto) (snap scal : Bool) (adopt : Nat) (f : Nat) (as : List AVal) : callF call C s snap scal adopt f as =
  if adopt = 1000 then (call (.fn f) as s).bind (gcK s)
  else if as.all pureA then (callPure call C (.fn f) (rawA adopt as)).bind (giveK (adoptN adopt) s)
  else if snap then
   if scal then
    match as.mapM (purA false s) with
    | none => .fail
    | some as' => (callPure call C (.fn f) as').bind (scalK s)
   else
    match as.mapM (purA true (froze s as)) with
    | none => .fail
    | some as' => (callPure call C (.fn f) as').bind (giveK adopt (froze s as))
  else (call (.fn f) as s).bind (gcK s) := rfl

theorem callOp_fn (ρ : Opd → AVal) (s : Sto) (snap scal : Bool) (adopt : Nat) (f : Nat) (args : List Opd) : callOp call C ρ s snap scal adopt (.fn f) args = callF call C s snap scal adopt f (args.map ρ) := by
 simp only [callOp, callee, List.nil_append, List.append_nil, Bool.and_true, callF]
 rfl

theorem callOp_val (ρ : Opd → AVal) (s : Sto) (scal : Bool) (adopt : Nat) (x : Opd) (args : List Opd) : callOp call C ρ s false scal adopt (.val x) args = match ρ x with
  | .p (.clo f a b) => callF call C s false scal adopt f (a.map .p ++ args.map ρ ++ b.map .p)
  | .clo f a b => callF call C s false scal adopt f (a ++ args.map ρ ++ b)
  | .yld id => (call (.yld id) (args.map ρ) s).bind (gcK s)
  | _ => .fail := by
 simp only [callOp, callee]
 generalize ρ x = v
 cases v with
 | p q =>
  cases q with
  | clo f a b => simp only [Bool.and_true, callF]; rfl
  | _ => rfl
 | clo f a b => simp only [Bool.and_true, callF]; rfl
 | yld id => simp; rfl
 | _ => rfl

theorem qOp_call (ρ : Opd → AVal) (s : Sto) (snap scal : Bool) (c : Cee) (args : List Opd) : qOp call C ρ s (.call snap scal 0 c args) = qCall call C ρ s snap scal c args := rfl
def qF (call : CallF) (C : Nat → List AVal → Option (T AVal)) (s : Sto) (ss : Bool) (f : Nat) (as : List AVal) : T AVal :=
 if as.all pureA then (callPure call C (.fn f) (as.map normA)).bind disK
 else if ss then
  match as.mapM (purA false s) with
  | none => .fail
  | some as' => (callPure call C (.fn f) as').bind sclK
 else .fail
theorem qF_eq (s : Sto) (ss : Bool) (f : Nat) (as : List AVal) : qF call C s ss f as =
  if as.all pureA then (callPure call C (.fn f) (as.map normA)).bind disK
  else if ss then
   match as.mapM (purA false s) with
   | none => .fail
   | some as' => (callPure call C (.fn f) as').bind sclK
  else .fail := rfl
theorem qCall_fn (ρ : Opd → AVal) (s : Sto) (snap scal : Bool) (f : Nat) (args : List Opd) : qCall call C ρ s snap scal (.fn f) args = qF call C s (snap && scal) f (args.map ρ) := by
 simp only [qCall, callee, List.nil_append, List.append_nil, qF]
 rfl
theorem qCall_val (ρ : Opd → AVal) (s : Sto) (snap scal : Bool) (x : Opd) (args : List Opd) : qCall call C ρ s snap scal (.val x) args = match ρ x with
  | .p (.clo f a b) => qF call C s (snap && scal) f (a.map .p ++ args.map ρ ++ b.map .p)
  | .clo f a b => qF call C s (snap && scal) f (a ++ args.map ρ ++ b)
  | _ => .fail := by
 simp only [qCall, callee]
 generalize ρ x = v
 cases v <;> try rfl
 rename_i p
 cases p <;> rfl
theorem bind_ret {α β : Type} (a : α) (f : α → T β) : (T.ret a).bind f = f a := rfl
theorem bind_fail {α β : Type} (f : α → T β) : (T.fail : T α).bind f = .fail := rfl
theorem ofOpt_some {α : Type} (a : α) : T.ofOpt (some a) = .ret a := rfl
theorem bind_ite {α β : Type} (c : Prop) [Decidable c] (a b : T α) (f : α → T β) : (if c then a else b).bind f = if c then a.bind f else b.bind f := by split <;> rfl
end

end Fw
end

section
/-
  The rules, as a set.
-/
namespace Fw
open Go
attribute [simp] keepK_eq opsK_eq opsDK_eq restK_eq seqK_normal seqK_exit seqK_ret blockK_normal blockK_exit blockK_ret setK_eq setQ_eq giveK_eq scalK_eq gcK_eq fstK_eq disK_eq sclK_eq finish_normal finish_ret
attribute [simp] evOps_nil evOps_cons evOpsD_nil evOpsD_cons evOper_none evOper_some evOperD_zero evOperD_one evOperD_two evOperD_three evOperD_box evOperD_still evOperD_four evOperD_some ev_skip ev_ops ev_opsd ev_seq ev_cond ev_block ev_loop ev_exit ev_ret ev_scope evOp_call callF_eq callOp_fn callOp_val qOp_call qF_eq qCall_fn qCall_val bind_ret bind_fail ofOpt_some bind_ite
attribute [simp] evOp opFn some1 opt1 optN newO evOpd setE look restrict zipArgs asB evRes resA retA finR fin1 purA undefA binA binP intBin strBin i64 toInt64? giveR adoptL
attribute [simp] get put nextId loadA storeA readP readA cellsA pcells setCells okv verO esO esOf sizeOf rowO mutO toP sliceOf fillA sliceBnds hiBnd loBnd mapOf wantedA convA eqP eqK keyOk qOp qFn isR isP aOp aOpC aOp0 rOp mOpr bOpr cOpr rowR cOqr rowQ ins boxes isBox onlyI keptB sameO sameC rawA adoptN snapR fresh
attribute [simp] gc reach refs refsL refsO hasId reachFuel froze freeze1 freezeO cut ownable nodupB okC depthP

section
variable (k : IntKind) (fk : FloatKind) (n : Int) (m : Nat) (b : Bool) (l : List UInt8) (cs ks vs : List PVal) (v : PVal) (as : List AVal)
@[simp] theorem nrm_int : nrm (.int k n) = .int k n := rfl
@[simp] theorem nrm_bool : nrm (.bool b) = .bool b := rfl
@[simp] theorem nrm_flt : nrm (.flt fk m) = .flt fk m := rfl
@[simp] theorem nrm_str : nrm (.str l) = .str l := rfl
@[simp] theorem nrm_nilp : nrm .nilp = .nilp := rfl
@[simp] theorem nrm_nils : nrm .nils = .sl [] 0 := rfl
@[simp] theorem nrm_nilm : nrm .nilm = .nilm := rfl
@[simp] theorem nrm_nilf : nrm .nilf = .nilf := rfl
@[simp] theorem nrm_nili : nrm .nili = .nili := rfl
@[simp] theorem nrm_sl : nrm (.sl cs m) = .sl cs m := rfl
@[simp] theorem nrm_pp : nrm (.pp cs) = .pp cs := rfl
@[simp] theorem nrm_clo : nrm (.clo m ks vs) = .clo m ks vs := rfl
@[simp] theorem nrm_map : nrm (.map ks vs) = .map ks vs := rfl
@[simp] theorem nrm_ifc : nrm (.ifc m v) = .ifc m v := rfl
@[simp] theorem normC_p : normC (.p v) = .p (nrm v) := rfl
@[simp] theorem normA_p : normA (.p v) = .p (nrm v) := rfl
@[simp] theorem normA_agg : normA (.agg as) = .agg (as.map normC) := rfl
@[simp] theorem pureA_p : pureA (.p v) = true := rfl
@[simp] theorem pureA_agg : pureA (.agg as) = as.all fun c => match c with | .p _ => true | _ => false := rfl
@[simp] theorem pureA_ptr (i j o : Nat) : pureA (.ptr i j o) = false := rfl
@[simp] theorem pureA_sl (i j o n : Nat) : pureA (.sl i j o n) = false := rfl
@[simp] theorem pureA_mp (i : Nat) : pureA (.mp i) = false := rfl
@[simp] theorem pureA_clo (i : Nat) (a c : List AVal) : pureA (.clo i a c) = false := rfl
@[simp] theorem pureA_yld (i : Nat) : pureA (.yld i) = false := rfl
@[simp] theorem pureA_tup : pureA (.tup as) = false := rfl
@[simp] theorem disown_own (es : Nat) : disown (.own cs m es) = .p (.sl cs m) := rfl
@[simp] theorem disown_p : disown (.p v) = .p v := rfl
@[simp] theorem disown_agg : disown (.agg as) = .agg as := rfl
@[simp] theorem disownR_own (es : Nat) : disownR (.own cs m es) = .p (.sl cs m) := rfl
@[simp] theorem disownR_p : disownR (.p v) = .p v := rfl
@[simp] theorem disownR_agg : disownR (.agg as) = .agg as := rfl
@[simp] theorem disownR_tup : disownR (.tup as) = .tup (as.map disown) := rfl
@[simp] theorem isSl_p : isSl (.p v) = false := rfl
@[simp] theorem isSl_agg : isSl (.agg as) = false := rfl
@[simp] theorem isSl_sl (i j o n : Nat) : isSl (.sl i j o n) = true := rfl
@[simp] theorem scalarP_int : scalarP (.int k n) = true := rfl
@[simp] theorem scalarP_bool : scalarP (.bool b) = true := rfl
@[simp] theorem scalarP_flt : scalarP (.flt fk m) = true := rfl
@[simp] theorem scalarP_str : scalarP (.str l) = true := rfl
@[simp] theorem scalarC_p : scalarC (.p v) = scalarP v := rfl
@[simp] theorem scalarA_p : scalarA (.p v) = scalarP v := rfl
@[simp] theorem scalarA_agg : scalarA (.agg as) = as.all scalarC := rfl
@[simp] theorem scalarR_own (es : Nat) : scalarR (.own cs m es) = false := rfl
@[simp] theorem scalarR_p : scalarR (.p v) = scalarP v := rfl
@[simp] theorem scalarR_agg : scalarR (.agg as) = as.all scalarC := rfl
@[simp] theorem scalarR_tup : scalarR (.tup as) = as.all scalarA := rfl
@[simp] theorem adopt1_own (s : Sto) (e es : Nat) : adopt1 es (.own cs m e) s = if e = es ∨ e = 0 then some (.sl (nextId s) 0 0 m, (nextId s, .arr cs 0 es) :: s) else none := rfl
@[simp] theorem adopt1_p (s : Sto) (es : Nat) : adopt1 es (.p v) s = some (.p v, s) := rfl
@[simp] theorem adopt1_agg (s : Sto) (es : Nat) : adopt1 es (.agg as) s = some (.agg as, s) := rfl
@[simp] theorem adoptR_own (s : Sto) (e es : Nat) : adoptR es (.own cs m e) s = if e = es ∨ e = 0 then some (.sl (nextId s) 0 0 m, (nextId s, .arr cs 0 es) :: s) else none := rfl
@[simp] theorem adoptR_p (s : Sto) (es : Nat) : adoptR es (.p v) s = some (.p v, s) := rfl
@[simp] theorem adoptR_tup (s : Sto) (es : Nat) : adoptR es (.tup as) s = match adoptL es s as with
  | some x => some (.tup x.1, x.2)
  | none => none := rfl
end

@[simp] theorem refsE_nil : refsE [] = [] := rfl
@[simp] theorem refsE_cons (t : Nat) (v : AVal) (r : Env) : refsE ((t, v) :: r) = refs v ++ refsE r := rfl
/-! lists of integers -/

def pI (l : List Int) : List PVal := l.map (.int .i64)
@[simp] theorem pI_length (l : List Int) : (pI l).length = l.length := by simp [pI]
@[simp] theorem pI_get (l : List Int) (i : Nat) : (pI l)[i]? = (l[i]?).map (.int .i64) := by simp [pI]
@[simp] theorem pI_getElem (l : List Int) (i : Nat) (h : i < (pI l).length) : (pI l)[i] = .int .i64 (l[i]'(by simpa using h)) := by simp [pI]
@[simp] theorem pI_nil : pI [] = [] := rfl
theorem wrap64 {n : Int} (h1 : -9223372036854775808 ≤ n) (h2 : n ≤ 9223372036854775807) : IntKind.i64.wrap n = n := by
 rw [IntKind.wrap_i64]; omega
theorem wrap_succ {i : Nat} (h : i < 9223372036854775807) : IntKind.i64.wrap (i + 1) = (i : Int) + 1 := wrap64 (by omega) (by omega)
theorem take_succ_map {α β : Type} (g : α → β) (l : List α) (i : Nat) (h : i < l.length) : (l.map g).take (i + 1) = (l.map g).take i ++ [g l[i]] := by
 rw [List.take_add_one]; simp [h]
theorem nrm_list {caps : List PVal} (hn : ∀ c ∈ caps, nrm c = c) : caps.map (fun x => AVal.p (nrm x)) = caps.map .p := List.map_congr_left (fun c hc => by rw [hn c hc])
mutual
theorem sameP_refl : ∀ v : PVal, sameP v v = true := by
 intro v
 cases v <;> simp [sameP]
 ·exact samePs_refl _
 ·exact samePs_refl _
 ·exact ⟨samePs_refl _, samePs_refl _⟩
 ·exact ⟨samePs_refl _, samePs_refl _⟩
 ·exact sameP_refl _
theorem samePs_refl : ∀ l : List PVal, samePs l l = true := by
 intro l
 cases l with
 | nil => rfl
 | cons x r => simp only [samePs, Bool.and_eq_true]; exact ⟨sameP_refl x, samePs_refl r⟩
end
attribute [simp] sameP_refl samePs_refl
end Fw
end

section
/-
  Functions that many programs have: what a function makes of each element of a list.
-/
namespace Fw
open Go
set_option maxHeartbeats 4000000

section
variable {F : Nat → Option AFunc} {C : Nat → List AVal → Option (T AVal)} {G : Nat → Option (List PVal)} {d : Nat}

abbrev o_ (d : Nat) (x : AOp) : AOper := ⟨some d, x, none⟩

def mapC (z : AVal) (bytes : Nat) : AFunc := ⟨22, [.tmp 4],
 .seq (.ops [o_ 4 (.mv (.c (.p .nils)))] [0, 1])
 (.seq (.ops [o_ 5 (.nilown 1)] [0, 1, 5])
 (.seq (.seq (.ops [o_ 8 (.mv (.t 0)), 
   o_ 9 (.len 1 (.t 8)), 
   o_ 10 (.mv (.c (.p (.int .i64 0))))] [1, 5, 8, 9, 10])
 (.block 0 (.loop true [1, 5, 8, 9, 10]
  (.seq (.ops [o_ 11 (.bin .lss (.t 10) (.t 9))] [1, 5, 8, 9, 10, 11])
  (.seq (.cond (.t 11)
   (.skip)
   (.exit 0))
  (.seq (.block 1 (.seq (.ops [o_ 12 (.iadr 1 (.t 8) (.t 10)), 
     o_ 13 (.ld false 1 (.t 12)), 
     o_ 7 (.mv (.t 13))] [1, 5, 7, 8, 9, 10])
   (.ops [o_ 14 (.mv (.t 5)), 
    o_ 15 (.mv (.t 1)), 
    o_ 16 (.mv (.t 7)), 
    o_ 17 (.call false true 0 (.val (.t 15)) [.t 16]), 
    o_ 18 (.bslice false 1 [z] 1 [(0, .t 17)]), 
    o_ 19 (.app 1 bytes [z] (.t 14) (.t 18)), 
    o_ 5 (.mv (.t 19))] [1, 5, 8, 9, 10])))
  (.ops [o_ 20 (.bin .add (.t 10) (.c (.p (.int .i64 1)))), 
   o_ 10 (.mv (.t 20))] [1, 5, 8, 9, 10])))))))
 (.seq (.ops [o_ 21 (.mv (.t 5)), 
  o_ 4 (.mv (.t 21))] [4])
 (.ret))))⟩

theorem map_ok {k bytes : Nat} {z : AVal} (hF : F k = some (mapC z bytes)) (hb : bytes ≤ 1024) (hC : ∀ as, C k as = none) (cs : List PVal) (f : Nat) (caps : List PVal) (g : PVal → PVal) (hl : cs.length < 1000000) (hn : ∀ c ∈ caps, nrm c = c)
  (hg : ∀ c ∈ cs, callPure (evFn F C G d) C (.fn f) (.p (nrm c) :: caps.map .p) = .ret (.p (g c)) ∧ nrm (g c) = g c) :
  callPure (evFn F C G (d + 1)) C (.fn k) [.p (.sl cs cs.length), .p (.clo f [] caps)] = .ret (.own (cs.map g) cs.length 1) := by
 rw [call_eq hF _ (hC _)]
 let inv : Nat → St := fun i => ⟨[(1, .p (.clo f [] caps)), (5, .sl 0 i 0 i), (8, .p (.sl cs cs.length)), (9, .p (.int .i64 cs.length)), (10, .p (.int .i64 i))], [(0, .arr ((cs.map g).take i) i 1)]⟩
 have hlen : List.take cs.length (cs.map g) = cs.map g := List.take_of_length_le (by simp)
 simp [mapC]
 rw [loop_run inv cs.length (e := .exit 0) (st' := ⟨(inv cs.length).env ++ [(11, .p (.bool false))], (inv cs.length).sto⟩) (by simp)]
 ·simp [inv, hlen]
 ·rfl
 ·intro i hi
  have hx : cs[i]? = some cs[i] := List.getElem?_eq_getElem hi
  have hm : min i cs.length = i := by omega
  have hlim : i + 1 ≤ lim := by simp only [lim]; omega
  obtain ⟨h1, h2⟩ := hg cs[i] (List.getElem_mem hi)
  simp [inv, loopS_eq, hi, hm, hlim, h1, h2, hb, wrap_succ (i := i) (by omega), -List.map_take, take_succ_map g cs i hi, Function.comp_def, nrm_list hn]
 ·simp [inv, loopS_eq]
 ·simp [loopFuel]; omega

def firstC : AFunc := ⟨15, [.tmp 2],
 .seq (.ops [o_ 2 (.mv (.c (.p (.int .i64 0))))] [0])
 (.seq (.seq (.ops [o_ 5 (.mv (.t 0)), 
   o_ 6 (.len 1 (.t 5)), 
   o_ 7 (.mv (.c (.p (.int .i64 0))))] [5, 6, 7])
 (.block 0 (.loop false [5, 6, 7]
  (.seq (.ops [o_ 8 (.bin .lss (.t 7) (.t 6))] [5, 6, 7, 8])
  (.seq (.cond (.t 8)
   (.skip)
   (.exit 0))
  (.seq (.block 1 (.seq (.ops [o_ 9 (.iadr 1 (.t 5) (.t 7)), 
     o_ 10 (.ld false 1 (.t 9)), 
     o_ 4 (.mv (.t 10))] [4, 5, 6, 7])
   (.seq (.ops [o_ 11 (.mv (.t 4)), 
     o_ 12 (.bin .neq (.t 11) (.c (.p (.int .i64 0))))] [4, 5, 6, 7, 12])
   (.cond (.t 12)
    (.seq (.ops [o_ 13 (.mv (.t 4)), 
      o_ 2 (.mv (.t 13))] [2])
    (.ret))
    (.skip)))))
  (.ops [o_ 14 (.bin .add (.t 7) (.c (.p (.int .i64 1)))), 
   o_ 7 (.mv (.t 14))] [5, 6, 7])))))))
 (.seq (.ops [o_ 2 (.mv (.c (.p (.int .i64 0))))] [2])
 (.ret)))⟩

def firstE : List Int → Int
 | [] => 0
 | e :: r => if e = 0 then firstE r else e

theorem first_ok {k : Nat} (hF : F k = some firstC) (hC : ∀ as, C k as = none) (l : List Int) (hl : l.length < 1000000) :
  callPure (evFn F C G (d + 1)) C (.fn k) [.p (.sl (pI l) l.length)] = .ret (.p (.int .i64 (firstE l))) := by
 rw [call_eq hF _ (hC _)]
 let inv : Nat → St := fun i => ⟨[(5, .p (.sl (pI l) l.length)), (6, .p (.int .i64 l.length)), (7, .p (.int .i64 i))], []⟩
 let out : Nat → Ex × St := fun i => if firstE (l.drop i) = 0 then (.exit 0, ⟨(inv l.length).env ++ [(8, .p (.bool false))], []⟩) else (.ret, ⟨[(2, .p (.int .i64 (firstE (l.drop i))))], []⟩)
 simp [firstC]
 rw [loop_rec inv out l.length (by rfl)]
 ·by_cases h : firstE l = 0 <;> simp [out, inv, h]
 ·intro i hi
  have hx : l[i]? = some l[i] := List.getElem?_eq_getElem hi
  have hd : firstE (l.drop i) = if l[i] = 0 then firstE (l.drop (i + 1)) else l[i] := by rw [List.drop_eq_getElem_cons hi]; rfl
  by_cases h : l[i] = 0
  ·refine .inl ⟨?_, ?_⟩
   ·simp [inv, loopS_eq, hi, h, wrap_succ (i := i) (by omega)]
   ·simp [out, hd, h]
  ·refine .inr ⟨?_, ?_⟩
   ·simp [inv, loopS_eq, hi, h, out, hd]
   ·simp [out, hd, h]
 ·simp [inv, loopS_eq, out, firstE]
 ·simp [loopFuel]; omega
end
end Fw
end

section
/-
  Rules for loops over functions, and for calls that hand references over.
-/
namespace Fw
open Go

section
variable {F : Nat → Option AFunc} {call : CallF} {C : Nat → List AVal → Option (T AVal)} {G : Nat → Option (List PVal)} {d lo : Nat}

def rfunK (lo : Nat) (env : Env) (id : Nat) (x : AVal × Sto) : T (Ex × St) := match get x.2 id with
 | some (.loop e1 p1 a1 b1 j n) =>
  if n = 1 then .fail else
  match j with
  | none => .ret (.normal, ⟨env, gc lo env (put x.2 id (.loop e1 p1 a1 b1 j 3))⟩)
  | some (.exit i) => .ret (.exit i, ⟨env, gc lo env (put x.2 id (.loop e1 p1 a1 b1 j 3))⟩)
  | some .ret => .ret (.ret, ⟨env, gc lo env (put x.2 id (.loop e1 p1 a1 b1 j 3))⟩)
  | some _ => .fail
 | _ => .fail

theorem ev_rfun (f : Opd) (ps : List Nat) (a b : ACode) (st : St) : evCode call C G lo (.rfun f ps a b) st = match callee (evOpd G st.env) (.val f) with
  | some (.fn g, first, caps) => (call (.fn g) (first ++ [.yld (nextId st.sto)] ++ caps) ((nextId st.sto, .loop st.env ps a b none 0) :: st.sto)).bind (rfunK lo st.env (nextId st.sto))
  | _ => .fail := rfl

def finS (rs : List ARes) (x : Ex × St) : T (AVal × Sto) := match x.1 with
 | .exit _ => .fail
 | _ => match (rs.mapM (resA x.2.sto x.2.env)).map retA with
  | some v => .ret (v, x.2.sto)
  | none => .fail

theorem finS_normal (rs : List ARes) (st : St) : finS rs (.normal, st) = match (rs.mapM (resA st.sto st.env)).map retA with
  | some v => .ret (v, st.sto)
  | none => .fail := rfl
theorem finS_ret (rs : List ARes) (st : St) : finS rs (.ret, st) = match (rs.mapM (resA st.sto st.env)).map retA with
  | some v => .ret (v, st.sto)
  | none => .fail := rfl

theorem evFn_fn {f : Nat} {fn : AFunc} (hF : F f = some fn) (args : List AVal) (s : Sto) : evFn F C G (d + 1) (.fn f) args s = (evCode (evFn F C G d) C G (nextId s) fn.body ⟨zipArgs 0 args, s⟩).bind (finS fn.results) := by
 simp only [evFn, hF]
 rfl

def yldB (_call : CallF) (_C : Nat → List AVal → Option (T AVal)) (_G : Nat → Option (List PVal)) (id : Nat) (y : Ex × St) : T (AVal × Sto) := match get y.2.sto id with
 | some (.loop e3 p3 a3 b3 _ _) => .ret (.p (.bool (jumpOf y.1).isNone), put y.2.sto id (.loop e3 p3 a3 b3 (jumpOf y.1) (if (jumpOf y.1).isNone then 0 else 2)))
 | _ => .fail

theorem evFn_yld {id : Nat} {env : Env} {ps : List Nat} {a b : ACode} {s : Sto} (h : get s id = some (.loop env ps a b none 0)) {args : List AVal} (hl : ps.length = args.length) :
  evFn F C G (d + 1) (.yld id) args s = (evCode (evFn F C G d) C G (nextId s) a ⟨(ps.zip args).foldl (fun e x => (x.1, x.2) :: e) env, s⟩).bind (yldK (evFn F C G d) C G (nextId s) id b) := by
 simp only [evFn, h, hl, ne_eq, not_true_eq_false, if_false]
 rfl

theorem yldK_eq {id : Nat} {b : ACode} {st : St} {e2 : Env} {p2 : List Nat} {a2 b2 : ACode} (h : get st.sto id = some (.loop e2 p2 a2 b2 none 0)) :
  yldK call C G lo id b (.normal, st) = (evCode call C G lo b ⟨st.env, put st.sto id (.loop e2 p2 a2 b2 none 1)⟩).bind (yldB call C G id) := by
 simp only [yldK, h]
 rfl

def nxtK (s : Sto) (id : Nat) (ks vs : List PVal) (i : Nat) : T (AVal × Sto) := match ks[i]?, vs[i]? with
 | some k, some v => .ret (.tup [.p (.bool true), .p k, .p v], put s id (.miter (ks.eraseIdx i) (vs.eraseIdx i) (some (k, v))))
 | _, _ => .fail

def loopK (step : St → T (Ex × St)) (n : Nat) (x : Ex × St) : T (Ex × St) := match x.1 with
 | .normal => loopN step n x.2
 | e => .ret (e, x.2)
theorem All_ret {α : Type} (a : α) (Q : α → Prop) : (T.ret a).All Q = Q a := rfl
end
attribute [simp] All_ret
attribute [simp] ev_rfun finS_normal finS_ret
theorem rfunK_none {lo : Nat} {env : Env} {id : Nat} {a : AVal} {s : Sto} {e1 : Env} {p1 : List Nat} {a1 b1 : ACode} {n : Nat} (h : get s id = some (.loop e1 p1 a1 b1 none n)) (hn : n ≠ 1) : rfunK lo env id (a, s) = .ret (.normal, ⟨env, gc lo env (put s id (.loop e1 p1 a1 b1 none 3))⟩) := by
 unfold rfunK
 simp [h, hn]
end Fw
end

section
/-
  More functions of the library by contract; and contracts that the evaluator has shown.
-/
namespace Fw
open Go

section
variable {P : Program} {G : Nat → Option (List PVal)} {CM : Nat → Code → ACode → Prop}

def cCount : Con := fun as => match as with
 | [.p (.str l), .p (.int .u8 c)] => some (.ret (.p (.int .i64 (Lib.countByte l c.toNat.toUInt8))))
 | _ => none

def cIndexByte : Con := fun as => match as with
 | [.p (.str l), .p (.int .u8 c)] => some (.ret (.p (.int .i64 (Lib.indexByte l c.toNat.toUInt8))))
 | _ => none

theorem cCount_ok {f : Nat} {fn : Func} (hf : P.funcs[f]? = some fn) (hb : fn.body.isNone = true) (hn : (fn.name == "runtime.NumGoroutine") = false) (hx : Extern.findNext fn = none) (he : Extern.find fn = some Extern.BytealgCount.count) : COkAt CM P G f cCount := by
 intro as t ht K hK w I vs _ ha
 unfold cCount at ht
 split at ht
 ·rename_i l c
  cases ht
  obtain ⟨u, v, rfl, h1, h2⟩ := args2 ha
  obtain ⟨st, rfl, rfl⟩ := inv_str h1
  have := inv_int h2
  subst this
  exact extern_ok hf hb hn hx he (Lib.run_countString st c w) ⟨_, hK, fin_one (.int ..) rfl rfl (Ext.refl w)⟩
 ·cases ht

theorem cIndexByte_ok {f : Nat} {fn : Func} (hf : P.funcs[f]? = some fn) (hb : fn.body.isNone = true) (hn : (fn.name == "runtime.NumGoroutine") = false) (hx : Extern.findNext fn = none) (he : Extern.find fn = some Extern.BytealgIndexByte.indexByte) : COkAt CM P G f cIndexByte := by
 intro as t ht K hK w I vs _ ha
 unfold cIndexByte at ht
 split at ht
 ·rename_i l c
  cases ht
  obtain ⟨u, v, rfl, h1, h2⟩ := args2 ha
  obtain ⟨st, rfl, rfl⟩ := inv_str h1
  have := inv_int h2
  subst this
  exact extern_ok hf hb hn hx he (Lib.run_indexByteString st c w) ⟨_, hK, fin_one (.int ..) rfl rfl (Ext.refl w)⟩
 ·cases ht

end
end Fw
end

section
/-
  Loops whose rounds leave more than the next one looks at.
-/
namespace Fw
open Go

theorem loop_run' {step : St → T (Ex × St)} (inv : Nat → St) (n : Nat) {e : Ex} {st' st0 : St} (he : e ≠ .normal) (h0 : step st0 = step (inv 0)) (hstep : ∀ i, i < n → ∃ st1, step (inv i) = .ret (.normal, st1) ∧ step st1 = step (inv (i + 1))) (hend : step (inv n) = .ret (e, st')) {fuel : Nat} (hf : n < fuel) :
  loopN step fuel st0 = .ret (e, st') := by
 have : ∀ k, k ≤ n → ∀ fuel st0, step st0 = step (inv (n - k)) → k < fuel → loopN step fuel st0 = .ret (e, st') := by
  intro k
  induction k with
  | zero =>
   intro _ fuel st0 h0 hf
   cases fuel with
   | zero => omega
   | succ fuel =>
    simp only [loopN, h0, Nat.sub_zero, hend, T.bind]
    all_goals (cases e <;> first | rfl | exact absurd rfl he)
  | succ k ih =>
   intro hk fuel st0 h0 hf
   cases fuel with
   | zero => omega
   | succ fuel =>
    obtain ⟨st1, h1, h2⟩ := hstep (n - (k + 1)) (by omega)
    simp only [loopN, h0, h1, T.bind]
    exact ih (by omega) fuel _ (by rw [h2, show n - (k + 1) + 1 = n - k by omega]) (by omega)
 exact this n (Nat.le_refl _) fuel st0 (by rw [Nat.sub_self]; exact h0) hf

theorem loop_rec' {step : St → T (Ex × St)} (inv : Nat → St) (out : Nat → Ex × St) (n : Nat) {st0 : St} (h0 : step st0 = step (inv 0)) (hstep : ∀ i, i < n → ((∃ st1, step (inv i) = .ret (.normal, st1) ∧ step st1 = step (inv (i + 1))) ∧ out i = out (i + 1)) ∨ (step (inv i) = .ret (out i) ∧ (out i).1 ≠ .normal))
  (hend : step (inv n) = .ret (out n) ∧ (out n).1 ≠ .normal) {fuel : Nat} (hf : n < fuel) : loopN step fuel st0 = .ret (out 0) := by
 have : ∀ k, k ≤ n → ∀ fuel st0, step st0 = step (inv (n - k)) → k < fuel → loopN step fuel st0 = .ret (out (n - k)) := by
  intro k
  induction k with
  | zero =>
   intro _ fuel st0 h0 hf
   cases fuel with
   | zero => omega
   | succ fuel =>
    obtain ⟨h1, h2⟩ := hend
    rw [Nat.sub_zero] at h0 ⊢
    simp only [loopN, h0, h1, T.bind]
    all_goals (generalize out n = o at h2; obtain ⟨e, st⟩ := o; cases e <;> first | rfl | exact absurd rfl h2)
  | succ k ih =>
   intro hk fuel st0 h0 hf
   cases fuel with
   | zero => omega
   | succ fuel =>
    rcases hstep (n - (k + 1)) (by omega) with ⟨⟨st1, h1, h3⟩, h2⟩ | ⟨h1, h2⟩
    ·simp only [loopN, h0, h1, T.bind]
     rw [h2, show n - (k + 1) + 1 = n - k by omega]
     exact ih (by omega) fuel _ (by rw [h3, show n - (k + 1) + 1 = n - k by omega]) (by omega)
    ·simp only [loopN, h0, h1, T.bind]
     all_goals (generalize out (n - (k + 1)) = o at h2; obtain ⟨e, st⟩ := o; cases e <;> first | rfl | exact absurd rfl h2)
 have := this n (Nat.le_refl _) fuel st0 (by rw [Nat.sub_self]; exact h0) hf
 rwa [Nat.sub_self] at this

def outL (e : Nat → Int) (ok : Ex × St) (bad : Nat → Ex × St) : Nat → Nat → Ex × St
 | 0, _ => ok
 | k + 1, i => if e i = 0 then outL e ok bad k (i + 1) else bad i

theorem outL_cases (e : Nat → Int) (ok : Ex × St) (bad : Nat → Ex × St) (n : Nat) : ∀ (k i : Nat), i + k = n → (outL e ok bad k i = ok ∧ firstE (((List.range n).map e).drop i) = 0) ∨ ∃ j, j < n ∧ outL e ok bad k i = bad j ∧ firstE (((List.range n).map e).drop i) = e j ∧ e j ≠ 0 ∧ ∀ q, i ≤ q → q < j → e q = 0 := by
 intro k
 induction k with
 | zero =>
  intro i hi
  refine .inl ⟨rfl, ?_⟩
  rw [List.drop_of_length_le (by simp; omega)]
  rfl
 | succ k ih =>
  intro i hi
  have hd : firstE (((List.range n).map e).drop i) = if e i = 0 then firstE (((List.range n).map e).drop (i + 1)) else e i := by
   rw [List.drop_eq_getElem_cons (by simp; omega)]
   simp only [List.getElem_map, List.getElem_range]
   rfl
  by_cases h : e i = 0
  ·simp only [outL, h, if_true, hd]
   rcases ih (i + 1) (by omega) with h1 | ⟨j, j1, j2, j3, j4, j5⟩
   ·exact .inl h1
   ·refine .inr ⟨j, j1, j2, j3, j4, fun q q1 q2 => ?_⟩
    by_cases hq : q = i
    ·subst hq; exact h
    ·exact j5 q (by omega) q2
  ·refine .inr ⟨i, by omega, ?_, ?_, h, fun q q1 q2 => by omega⟩
   ·simp only [outL, h, if_false]
   ·rw [hd, if_neg h]

theorem loop_first {step : St → T (Ex × St)} (inv : Nat → St) (e : Nat → Int) (n : Nat) (ok : Ex × St) (bad : Nat → Ex × St) {st0 : St} (h0 : step st0 = step (inv 0))
  (hstep : ∀ i, i < n → (e i = 0 → ∃ st1, step (inv i) = .ret (.normal, st1) ∧ step st1 = step (inv (i + 1))) ∧ (e i ≠ 0 → step (inv i) = .ret (bad i))) (hbad : ∀ i, (bad i).1 ≠ .normal) (hend : step (inv n) = .ret ok) (hok : ok.1 ≠ .normal) {fuel : Nat} (hf : n < fuel) :
  (loopN step fuel st0 = .ret ok ∧ firstE ((List.range n).map e) = 0) ∨ ∃ j, j < n ∧ loopN step fuel st0 = .ret (bad j) ∧ firstE ((List.range n).map e) = e j ∧ e j ≠ 0 ∧ ∀ q, q < j → e q = 0 := by
 have h := loop_rec' (step := step) inv (fun i => outL e ok bad (n - i) i) n h0 (fun i hi => by
  obtain ⟨k, hk⟩ : ∃ k, n - i = k + 1 := ⟨n - i - 1, by omega⟩
  have hk2 : n - (i + 1) = k := by omega
  by_cases he : e i = 0
  ·exact .inl ⟨(hstep i hi).1 he, by simp only [hk, hk2, outL, he, if_true]⟩
  ·refine .inr ?_
   simp only [hk, outL, he, if_false]
   exact ⟨(hstep i hi).2 he, hbad i⟩) (by simp only [Nat.sub_self, outL]; exact ⟨hend, hok⟩) hf
 rw [h]
 rcases outL_cases e ok bad n (n - 0) 0 (by omega) with ⟨h1, h2⟩ | ⟨j, h1, h2, h3, h4, h5⟩
 ·exact .inl ⟨by rw [h1], h2⟩
 ·exact .inr ⟨j, h1, by rw [h2], h3, h4, fun q hq => h5 q (Nat.zero_le _) hq⟩

end Fw
end

section
/-
  Strings: runes that are bytes; the numeral of a number; words.
-/
namespace Fw
open Go

/-! numerals -/

def digsF : Nat → Nat → List UInt8 → List UInt8
 | 0, _, acc => acc
 | f + 1, n, acc => if n < 10 then UInt8.ofNat (48 + n) :: acc else digsF f (n / 10) (UInt8.ofNat (48 + n % 10) :: acc)
def natS (n : Nat) : List UInt8 := digsF 20 n []
def itoaS (n : Int) : List UInt8 := if n < 0 then 45 :: natS n.natAbs else natS n.toNat

theorem digsF_eq : ∀ (f n : Nat) (acc : List UInt8), n < 10 ^ f → 0 < f → digsF f n acc = Lib.decDigits n ++ acc := by
 intro f
 induction f with
 | zero => intro n acc _ h; omega
 | succ f ih =>
  intro n acc h _
  rw [digsF, Lib.decDigits]
  by_cases hn : n < 10
  ·simp [hn]
  ·rw [if_neg hn, dif_neg hn]
   have hf : 0 < f := by
    rcases Nat.eq_zero_or_pos f with e | e
    ·subst e; simp at h; omega
    ·exact e
   rw [ih (n / 10) _ (by rw [Nat.pow_succ] at h; omega) hf]
   simp

theorem itoaS_eq {n : Int} (h0 : -9223372036854775808 ≤ n) (h1 : n ≤ 9223372036854775807) : itoaS n = Lib.itoa n := by
 unfold itoaS Lib.itoa natS
 split
 ·rw [digsF_eq 20 _ _ (by
   have : (10 : Nat) ^ 20 = 100000000000000000000 := by decide
   omega) (by omega), List.append_nil]
 ·rw [digsF_eq 20 _ _ (by
   have : (10 : Nat) ^ 20 = 100000000000000000000 := by decide
   omega) (by omega), List.append_nil]

theorem gc_all {lo : Nat} {env : Env} {s : Sto} (h : s.all (fun x => decide (x.1 < lo)) = true) : gc lo env s = s := by
 have hf : ∀ live : List Nat, s.filter (fun x => decide (x.1 < lo) || live.contains x.1) = s := fun live => by
  rw [List.filter_eq_self]
  intro x hx
  have := List.all_eq_true.1 h x hx
  simp only [this, Bool.true_or]
 unfold gc
 simp only [hf, ite_self]

/-! strings as cells -/
def pStr (l : List (List UInt8)) : List PVal := l.map .str
@[simp] theorem pStr_length (l : List (List UInt8)) : (pStr l).length = l.length := by simp [pStr]
@[simp] theorem pStr_get (l : List (List UInt8)) (i : Nat) : (pStr l)[i]? = (l[i]?).map .str := by simp [pStr]
@[simp] theorem pStr_getElem (l : List (List UInt8)) (i : Nat) (h : i < (pStr l).length) : (pStr l)[i] = .str (l[i]'(by simpa using h)) := by simp [pStr]
@[simp] theorem pStr_nil : pStr [] = [] := rfl
def splitS (c : UInt8) : List UInt8 → List (List UInt8)
 | [] => [[]]
 | b :: r => if b = c then [] :: splitS c r else match splitS c r with
  | [] => [[b]]
  | w :: q => (b :: w) :: q

def ahead (c : UInt8) (l : List UInt8) : List UInt8 := l.takeWhile fun b => b != c

def restF (c : UInt8) (l : List UInt8) : Nat → List UInt8
 | 0 => l
 | i + 1 => (restF c l i).drop ((ahead c (restF c l i)).length + 1)

def fillW (ws : List (List UInt8)) (i : Nat) : List PVal := pStr (ws.take i ++ List.replicate (ws.length - i) [])
end Fw
end

section
/-
  The numeral of a number, as the library makes it, by the kit's contract.
-/
namespace Fw
open Go

section
variable {P : Program} {G : Nat → Option (List PVal)} {CM : Nat → Code → ACode → Prop}

def cItoa : Con := fun as => match as with
 | [.p (.int .i64 n)] => if -9223372036854775808 ≤ n ∧ n ≤ 9223372036854775807 then some (.ret (.p (.str (itoaS n)))) else none
 | _ => none

def pow10C : List PVal := Lib.pow10Tab.map (.int .u64)

theorem cItoa_ok {f g : Nat} {fn : Func} (hf : P.funcs[f]? = some fn) (hb : fn.body.isSome = true) (hn0 : (fn.name == "runtime.NumGoroutine") = false) (hg : G g = some pow10C) (hnm : P.globalNamed "internal/strconv.uint64pow10" = some g)
  (j : ∀ (n : Int), -9223372036854775808 ≤ n → n ≤ 9223372036854775807 → ∀ (w : World), Lib.TabIs P w "internal/strconv.uint64pow10" .u64 Lib.pow10Tab →
   Calls P f #[.int .i64 n] w fun e w' => e = .returned (.string ⟨(Lib.itoa n).toArray⟩) ∧ ∃ k os, w' = Go.Sort.grow (w.drewN k) os) : COkAt CM P G f cItoa := by
 intro as t ht K hK w I vs hG ha
 unfold cItoa at ht
 split at ht
 ·rename_i n
  split at ht
  ·rename_i hn
   cases ht
   obtain ⟨v, rfl, h1⟩ := args1 ha
   have := inv_int h1
   subst this
   obtain ⟨c, hbody⟩ := Option.isSome_iff_exists.1 hb
   have henter := callFunc_ok (P := P) hf hbody hn0
   have htab : Lib.TabIs P w "internal/strconv.uint64pow10" .u64 Lib.pow10Tab := by
    obtain ⟨h2, cur, e, fr, hb2, hz⟩ := hG g _ hg
    unfold Lib.TabIs World.var?
    rw [hnm]
    simp only [Option.bind_some, hb2]
    congr 1
    cases h2 with
    | pp b off cur' e' fr' cs' hI hb' hl hc =>
     rw [hb2] at hb'
     cases hb'
     apply Array.ext_getElem?
     intro i
     by_cases hi : i < cur.size
     ·have hu : cur[i]? = some cur[i] := Array.getElem?_eq_getElem hi
      have hi2 : i < Lib.pow10Tab.length := by rw [hz] at hi; simpa [pow10C] using hi
      have hp : pow10C[i]? = some (.int .u64 Lib.pow10Tab[i]) := by simp [pow10C, hi2]
      have := hc i cur[i] _ (by rw [Nat.zero_add]; exact hu) hp
      obtain ⟨y, hy⟩ : ∃ y, y = cur[i] := ⟨_, rfl⟩
      rw [← hy] at this
      have hq : y = .int .u64 Lib.pow10Tab[i] := by cases this; rfl
      rw [hu, ← hy, hq]
      simp [hi2]
     ·have hz' : cur.size = Lib.pow10Tab.length := by simpa [pow10C] using hz
      rw [Array.getElem?_eq_none (by omega), Array.getElem?_eq_none (by simp; omega)]
   refine .inl ⟨henter _ _, Calls.mono (j n hn.1 hn.2 w htab) (fun e w' ⟨he, k, os, hw⟩ => ⟨_, he, _, hK, ?_⟩)⟩
   have hx : Ext w w' := by
    subst hw
    refine ⟨rfl, rfl, rfl, ?_, fun b hb => ?_⟩
    ·simp [Go.Sort.grow, World.drewN]
    ·simp only [Go.Sort.grow, World.drewN]
     rw [Array.getElem?_append_left hb]
   rw [itoaS_eq hn.1 hn.2]
   exact fin_one (.str ⟨(Lib.itoa n).toArray⟩) rfl rfl hx
  ·cases ht
 ·cases ht
end
end Fw
end

section
/-
  What is dropped when a call by reference is over.
-/
namespace Fw
open Go

end Fw
end

section
/-
  slices.Grow of a nil slice, by the kit's contract.
-/
namespace Fw
open Go

def cGrow : Con := fun as => match as with
 | [.p .nils, .p (.int .i64 n)] => if 0 ≤ n ∧ n ≤ 1000000 then some (.ret (.own [] 0 1)) else none
 | _ => none

theorem cGrow_ok {CM : Nat → Code → ACode → Prop} {P : Program} {G : Nat → Option (List PVal)} {f : Nat} {fn : Func} (hf : P.funcs[f]? = some fn) (hb : fn.body.isSome = true) (hn : (fn.name == "runtime.NumGoroutine") = false)
  (room : ∀ (base : Option Addr) (w : World), Calls P f #[.slice base 0 0, .int .i64 (0 : Int)] w fun e w' => e = .returned (.slice base 0 0) ∧ w' = w)
  {_z : Value} {t : Nat} (grow : ∀ (base : Option Addr) (n : Nat) (w : World), 0 < n → n ≤ 1000000 → Calls P f #[.slice base 0 0, .int .i64 n] w fun e w' => ∃ (cap : Nat) (cs : Array Value), e = .returned (.slice (some ⟨w.heap.size, 0, none⟩) 0 cap) ∧ cs.size = cap ∧ w' = w.drew.alloc (.cells cs t)) : COkAt CM P G f cGrow := by
 intro as tt ht K hK w I vs _ ha
 unfold cGrow at ht
 split at ht
 ·rename_i n
  obtain ⟨u, v, rfl, h1, h2⟩ := args2 ha
  have := inv_int h2
  subst this
  obtain ⟨c, hbody⟩ := Option.isSome_iff_exists.1 hb
  have henter := callFunc_ok (P := P) hf hbody hn
  cases h1 with
  | p _ _ hp =>
   cases hp with
   | nils a =>
    split at ht
    ·rename_i hn2
     cases ht
     by_cases h0 : n = 0
     ·subst h0
      refine .inl ⟨henter _ _, Calls.mono (room a w) (fun e w' ⟨he, hw⟩ => ⟨_, he, ?_⟩)⟩
      subst hw
      obtain ⟨s1, _⟩ := (SRep.empty (CM := CM) w' I).new (Ext.refl w') (Nat.le_refl _) (.arr [] 0 1) none (fun b z hx => by cases hx) (fun I' m' s' _ _ _ hm _ => .inl ⟨hm, rfl⟩)
      exact ⟨_, hK, Ext.refl _, _, _, .sl 0 0 0 0, s1, .sl _ 0 0 0 0 (.arr [] 0 1) rfl rfl (Nat.le_refl _) (fun _ => .inl ⟨rfl, a, rfl⟩) rfl, by simp [finR, fin1]⟩
     ·obtain ⟨k, rfl⟩ : ∃ k : Nat, n = k := ⟨n.toNat, by omega⟩
      refine .inl ⟨henter _ _, Calls.mono (grow a k w (by omega) (by omega)) (fun e w' ⟨cap, cs, he, hcs, hw⟩ => ⟨_, he, ?_⟩)⟩
      subst hw
      have ex : Ext w (w.drew.alloc (.cells cs t)) := (Ext.drew w).trans (Ext.alloc _ _)
      obtain ⟨s1, _⟩ := (SRep.empty (CM := CM) w I).new ex (Nat.le_refl _) (.arr [] 0 1) (some (w.heap.size, cs.size)) (fun b z hx => by cases hx; exact ⟨Nat.le_refl _, by show _ < (w.heap.push _).size; simp⟩)
       (fun I' m' s' _ _ _ hm _ => .inr ⟨w.heap.size, cs.size, cs, t, (0, 0), hm, alloc_new w.drew _, nofrz0 _, rfl, Nat.zero_le _, fun j u c _ hc => by simp at hc⟩)
      exact ⟨_, hK, ex, _, _, .sl 0 0 0 0, s1, .sl _ 0 0 0 0 (.arr [] 0 1) rfl rfl (Nat.le_refl _) (fun _ => .inr ⟨w.heap.size, cs.size, cap, rfl, rfl, Nat.zero_le _, by simp [esO, hcs]⟩) rfl, by simp [finR, fin1]⟩
    ·cases ht
 ·cases ht
end Fw
end

