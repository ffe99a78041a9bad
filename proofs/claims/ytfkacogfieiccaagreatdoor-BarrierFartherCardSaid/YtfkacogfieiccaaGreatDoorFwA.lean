/- The evaluator and its soundness, a part: what an operation of the language does to values without addresses; no condition. -/
import GoSem.Dispatch
import Derived.Calls
import Derived.Laws.Sem
import Derived.Laws.World
import Derived.Laws.Entries
import Derived.Laws.Cells
import Derived.Laws.Strings
import Derived.Laws.BytesString
import Derived.Laws.Append
section
/-
  The evaluator: a small language of resolved operations, and what they do to abstract values: values without addresses, and a small store for memory that a call owns.
  It is proved sound against the model in the texts that follow.
-/
namespace Fw
open Go

inductive PVal where
 | int (k : IntKind) (n : Int)
 | bool (b : Bool)
 | flt (k : FloatKind) (bits : Nat)
 | str (s : List UInt8)
 | nilp
 | nils
 | nilm
 | nilf
 | nili
 | sl (cells : List PVal) (len : Nat)
 | pp (cells : List PVal)
 | clo (fn : Nat) (first caps : List PVal)
 | map (ks vs : List PVal)
 | ifc (t : Nat) (v : PVal)
 deriving Inhabited

inductive AVal where
 | p (v : PVal)
 | ptr (id ver off : Nat)
 | sl (id ver off len : Nat)
 | mp (id : Nat)
 | it (id : Nat)
 | yld (id : Nat)
 | clo (fn : Nat) (first caps : List AVal)
 | agg (cs : List AVal)
 | tup (vs : List AVal)
 | own (cells : List PVal) (len es : Nat)
 | any
 deriving Inhabited

inductive Opd where
 | t (n : Nat)
 | c (v : AVal)
 | g (n : Nat)
 deriving Inhabited

inductive Bop where
 | add | sub | mul | quo | rem | and | or | xor | andNot | eql | neq | lss | leq | gtr | geq
 deriving Inhabited, DecidableEq

inductive Cnv where
 | int (k : IntKind)
 | flt (k : FloatKind)
 | sid
 | b2s
 | s2b
 | i2s
 deriving Inhabited

inductive Cee where
 | fn (f : Nat)
 | val (x : Opd)
 deriving Inhabited

inductive AOp where
 | mv (x : Opd)
 | pick (c a b : Opd)
 | alloc (isArr : Bool) (es : Nat) (zero : List AVal)
 | allocr (j : Nat) (isArr : Bool) (es : Nat) (zero : List AVal)
 | box (isArr : Bool) (x : Opd)
 | build (zero : List AVal) (parts : List (Nat × Nat × Opd))
 | bslice (own : Bool) (es : Nat) (zero : List AVal) (n : Nat) (parts : List (Nat × Opd))
 | bslicer (j es : Nat) (zero : List AVal) (n : Nat) (parts : List (Nat × Opd))
 | callr (j es f : Nat) (args : List Opd)
 | callq (j es f : Nat) (args : List Opd)
 | ld (agg : Bool) (sz : Nat) (x : Opd)
 | st (sz : Nat) (x v : Opd)
 | nilck (x : Opd)
 | bin (op : Bop) (x y : Opd)
 | shift (left : Bool) (x y : Opd)
 | eqagg (ks : List Nat) (neg : Bool) (x y : Opd)
 | eqb (neg : Bool) (x y : Opd)
 | eqnil (kind : Nat) (neg : Bool) (x : Opd)
 | neg (x : Opd)
 | not (x : Opd)
 | bnot (x : Opd)
 | conv (k : Cnv) (x : Opd)
 | mkclo (f : Nat) (first caps : List Opd)
 | mkmap
 | mkslice (es : Nat) (zero : List AVal) (len cap : Opd)
 | mkslicer (j es : Nat) (zero : List AVal) (len cap : Opd)
 | clr (es : Nat) (zero : List AVal) (x : Opd)
 | slcs (x : Opd) (lo hi : Option Opd)
 | slc (es : Nat) (x : Opd) (lo hi : Option Opd)
 | slc3 (own : Bool) (es : Nat) (x lo hi mx : Opd)
 | slca (es n : Nat) (x : Opd) (lo hi : Option Opd)
 | fadr (off : Nat) (x : Opd)
 | fld (agg : Bool) (off sz : Nat) (x : Opd)
 | iadr (es : Nat) (x i : Opd)
 | iadra (es n : Nat) (x i : Opd)
 | idx (agg : Bool) (es n : Nat) (x i : Opd)
 | idxs (x i : Opd)
 | lkup (kk : Nat) (zero : AVal) (m k : Opd) (ok : Bool)
 | mupd (kk : Nat) (m k v : Opd)
 | mentry (zero : AVal) (m k : Opd)
 | estore (m s v : Opd)
 | rngs (x : Opd)
 | rngm (x : Opd)
 | nxt (it : Opd) (isString : Bool)
 | entry (it : Opd)
 | ext (x : Opd) (i : Nat)
 | call (snap scal : Bool) (adopt : Nat) (c : Cee) (args : List Opd)
 | len (kind : Nat) (x : Opd)
 | app (es bytes : Nat) (zero : List AVal) (x y : Opd)
 | appk (es bytes : Nat) (zero : List AVal) (x y : Opd)
 | copy (es : Nat) (x y : Opd)
 | max (xs : List Opd)
 | min (xs : List Opd)
 | del (m k : Opd)
 | nilown (es : Nat)
 | allocown (es : Nat)
 | fail
 deriving Inhabited

structure AOper where
 dst : Option Nat
 op : AOp
 guard : Option (Nat × Bool)
 deriving Inhabited

inductive ACode where
 | skip
 | ops (l : List AOper) (live : List Nat)
 | opsd (perm : List (Nat × Nat)) (l : List AOper) (live : List Nat)
 | seq (a b : ACode)
 | cond (c : Opd) (a b : ACode)
 | block (id : Nat) (b : ACode)
 | loop (gc : Bool) (live : List Nat) (b : ACode)
 | rfun (f : Opd) (ps : List Nat) (assign body : ACode)
 | exit (id : Nat)
 | ret
 | scope (b : ACode)
 | fail
 deriving Inhabited

inductive ARes where
 | tmp (t : Nat)
 | cell (t : Nat) (agg : Bool) (sz : Nat)
 deriving Inhabited

structure AFunc where
 nt : Nat
 results : List ARes
 body : ACode
 deriving Inhabited

abbrev Env := List (Nat × AVal)

inductive Obj where
 | arr (cells : List PVal) (ver es : Nat)
 | box (cells : List AVal)
 | frz (cells : List PVal) (ver es : Nat)
 | map (ks vs : List PVal)
 | fmap (ks vs : List PVal)
 | siter (s : List UInt8) (pos : Nat)
 | miter (ks vs : List PVal) (cur : Option (PVal × PVal))
 | loop (env : Env) (params : List Nat) (assign body : ACode) (jump : Option ACode) (st : Nat)
 deriving Inhabited

abbrev Sto := List (Nat × Obj)

inductive T (α : Type) where
 | ret (a : α)
 | fail
 | pick (n : Nat) (k : Nat → T α)

namespace T
def bind {α β : Type} : T α → (α → T β) → T β
 | .ret a, f => f a
 | .fail, _ => .fail
 | .pick n k, f => .pick n (fun i => (k i).bind f)
def ofOpt {α : Type} : Option α → T α
 | some a => .ret a
 | none => .fail
def All {α : Type} (Q : α → Prop) : T α → Prop
 | .ret a => Q a
 | .fail => False
 | .pick n k => 0 < n ∧ ∀ i, i < n → All Q (k i)
end T

/-! the store -/

def look : Env → Nat → AVal
 | [], _ => .any
 | (t, v) :: r, n => if t = n then v else look r n

def get : Sto → Nat → Option Obj
 | [], _ => none
 | (i, o) :: r, n => if i = n then some o else get r n

def put : Sto → Nat → Obj → Sto
 | [], _, _ => []
 | (i, o) :: r, n, o' => if i = n then (i, o') :: r else (i, o) :: put r n o'

def esOf (s : Sto) (i : Nat) : Nat := match get s i with
 | some (.arr _ _ es) => es
 | some (.frz _ _ es) => es
 | _ => 0

def sizeOf (s : Sto) (i : Nat) : Nat := match get s i with
 | some (.arr cs _ _) => cs.length
 | some (.frz cs _ _) => cs.length
 | _ => 0

def verO : Obj → Nat
 | .arr _ v _ => v
 | .frz _ v _ => v
 | _ => 0

def esO : Obj → Nat
 | .arr _ _ es => es
 | .frz _ _ es => es
 | _ => 0

def rowO : Obj → Bool
 | .arr .. | .frz .. | .box _ => true
 | _ => false

def mapO : Obj → Bool
 | .map .. | .fmap .. => true
 | _ => false

def mutO : Obj → Bool
 | .frz .. | .fmap .. => false
 | _ => true

def okv (s : Sto) (i v : Nat) : Bool := match get s i with
 | some o => verO o == v
 | none => false

def okC : AVal → Bool
 | .any | .agg _ | .tup _ | .own .. => false
 | _ => true

def nextId : Sto → Nat
 | [] => 0
 | (i, _) :: _ => i + 1

def nrm : PVal → PVal
 | .nils => .sl [] 0
 | v => v

def cut (cs : List PVal) (off len es : Nat) : PVal :=
 if off = 0 ∧ len * es = cs.length then .sl cs len else .sl ((cs.drop off).take (len * es)) len

def toP (fr : Bool) (s : Sto) : Nat → AVal → Option PVal
 | 0, _ => none
 | d + 1, a => match a with
  | .p v => some (nrm v)
  | .ptr id ver off => match get s id with
   | some (.arr cs v _) => if v = ver ∧ fr = false ∧ off < cs.length then some (.pp (cs.drop off)) else none
   | some (.frz cs v _) => if v = ver ∧ off < cs.length then some (.pp (cs.drop off)) else none
   | some (.box cs) => if fr = false ∧ ver = 0 ∧ off < cs.length then (match cs.mapM (toP fr s d) with
    | some ps => some (.pp (ps.drop off))
    | none => none) else none
   | _ => none
  | .sl id ver off len => match get s id with
   | some (.arr cs v es) => if v = ver ∧ fr = false ∧ off + len * es ≤ cs.length then some (cut cs off len es) else none
   | some (.frz cs v es) => if v = ver ∧ off + len * es ≤ cs.length then some (cut cs off len es) else none
   | _ => none
  | .mp id => match get s id with
   | some (.map ks vs) => if fr = false then some (.map ks vs) else none
   | some (.fmap ks vs) => some (.map ks vs)
   | _ => none
  | .clo f a b => match a.mapM (toP fr s d), b.mapM (toP fr s d) with
   | some a, some b => some (.clo f a b)
   | _, _ => none
  | _ => none

def depthP : Nat := 4

def pcells : List AVal → Option (List PVal)
 | [] => some []
 | .p v :: r => match pcells r with
  | some l => some (nrm v :: l)
  | none => none
 | _ => none

def purA (fr : Bool) (s : Sto) : AVal → Option AVal
 | .agg cs => match cs.mapM (toP fr s depthP) with
  | some ps => some (.agg (ps.map .p))
  | none => none
 | .p v => some (.p (nrm v))
 | a => match toP fr s depthP a with
  | some v => some (.p v)
  | none => none

def scalarP : PVal → Bool
 | .int .. | .bool _ | .flt .. | .str _ | .nilp | .nils | .nilm | .nilf | .nili => true
 | _ => false

def scalarC : AVal → Bool
 | .p v => scalarP v
 | _ => false

def scalarA : AVal → Bool
 | .p v => scalarP v
 | .agg cs => cs.all scalarC
 | _ => false

def scalarR : AVal → Bool
 | .tup vs => vs.all scalarA
 | a => scalarA a

mutual
def refs : AVal → List Nat
 | .ptr id _ _ => [id]
 | .sl id _ _ _ => [id]
 | .mp id => [id]
 | .it id => [id]
 | .yld id => [id]
 | .clo _ a b => refsL a ++ refsL b
 | .agg cs => refsL cs
 | .tup cs => refsL cs
 | .p _ => []
 | .own .. => []
 | .any => []
def refsL : List AVal → List Nat
 | [] => []
 | a :: r => refs a ++ refsL r
end

def refsE (e : Env) : List Nat := e.flatMap fun x => refs x.2

def refsO : Obj → List Nat
 | .box cs => refsL cs
 | .loop env _ _ _ _ _ => refsE env
 | _ => []

def reach (s : Sto) : Nat → List Nat → List Nat → List Nat
 | 0, _, seen => seen
 | _ + 1, [], seen => seen
 | d + 1, i :: todo, seen =>
  if seen.contains i then reach s d todo seen else
  match get s i with
  | some o => reach s d (refsO o ++ todo) (i :: seen)
  | none => reach s d todo (i :: seen)

def reachFuel : Nat := 1000

def freezeO (s : Sto) : Obj → Obj
 | .arr cs v es => .frz cs v es
 | .box cs => match cs.mapM (toP true s depthP) with
  | some ps => .frz ps 0 0
  | none => .box cs
 | .map ks vs => .fmap ks vs
 | o => o

def freeze1 (l : List Nat) (s : Sto) : Sto := s.map fun x => (x.1, if l.contains x.1 then freezeO s x.2 else x.2)

def froze (s : Sto) (as : List AVal) : Sto :=
 match refsL as with
 | [] => s
 | ids => freeze1 (reach s reachFuel ids []) (freeze1 (reach s reachFuel ids []) s)

def hasId (s : Sto) (i : Nat) : Bool := s.any fun x => x.1 == i

def gc (lo : Nat) (env : Env) (s : Sto) : Sto :=
 let roots := refsE env ++ (s.filter fun x => decide (x.1 < lo)).flatMap fun x => refsO x.2
 let live := reach s reachFuel roots []
 let s' := s.filter fun x => decide (x.1 < lo) || live.contains x.1
 if (refsE env).all (hasId s') && s'.all (fun x => (refsO x.2).all (hasId s')) then s' else s

structure St where
 env : Env
 sto : Sto
 deriving Inhabited

/-! operations -/

def lim : Nat := 1073741824

def intBin (op : Bop) (k : IntKind) (x y : Int) : Option PVal :=
 match op with
 | .add => some (.int k (k.wrap (x + y)))
 | .sub => some (.int k (k.wrap (x - y)))
 | .mul => some (.int k (k.wrap (x * y)))
 | .quo => if y = 0 then none else some (.int k (k.wrap (x.tdiv y)))
 | .rem => if y = 0 then none else some (.int k (x.tmod y))
 | .and => some (.int k (k.wrap (BitVec.ofInt k.bits x &&& BitVec.ofInt k.bits y).toNat))
 | .or => some (.int k (k.wrap (BitVec.ofInt k.bits x ||| BitVec.ofInt k.bits y).toNat))
 | .xor => some (.int k (k.wrap (BitVec.ofInt k.bits x ^^^ BitVec.ofInt k.bits y).toNat))
 | .andNot => some (.int k (k.wrap (BitVec.ofInt k.bits x &&& ~~~(BitVec.ofInt k.bits y)).toNat))
 | .eql => some (.bool (x == y))
 | .neq => some (.bool (x != y))
 | .lss => some (.bool (decide (x < y)))
 | .leq => some (.bool (decide (x ≤ y)))
 | .gtr => some (.bool (decide (x > y)))
 | .geq => some (.bool (decide (x ≥ y)))

def strBin (op : Bop) (x y : List UInt8) : Option PVal :=
 match op with
 | .add => if x.length + y.length ≤ lim then some (.str (x ++ y)) else none
 | .eql => some (.bool (x == y))
 | .neq => some (.bool (!(x == y)))
 | .lss => some (.bool (Op.bytesLess x y))
 | .leq => some (.bool (Op.bytesLess x y || x == y))
 | .gtr => some (.bool (!(Op.bytesLess x y || x == y)))
 | .geq => some (.bool (!(Op.bytesLess x y)))
 | _ => none

def fltBin (op : Bop) (k : FloatKind) (x y : Nat) : Option PVal :=
 match op with
 | .add => (k.format.add x y).map (.flt k)
 | .sub => (k.format.sub x y).map (.flt k)
 | .mul => (k.format.mul x y).map (.flt k)
 | .quo => (k.format.div x y).map (.flt k)
 | .eql => some (.bool (k.format.order x y == some .eq))
 | .neq => some (.bool (k.format.order x y != some .eq))
 | .lss => some (.bool (k.format.order x y == some .lt))
 | .leq => some (.bool (k.format.order x y == some .lt || k.format.order x y == some .eq))
 | .gtr => some (.bool (k.format.order x y == some .gt))
 | .geq => some (.bool (k.format.order x y == some .gt || k.format.order x y == some .eq))
 | _ => none

def binP (op : Bop) (x y : PVal) : Option PVal :=
 match x, y with
 | .int k a, .int k' b => if k = k' then intBin op k a b else none
 | .str a, .str b => strBin op a b
 | .flt k a, .flt k' b => if k = k' then fltBin op k a b else none
 | _, _ => none

def binA (op : Bop) (x y : AVal) : Option AVal :=
 match x, y with
 | .p a, .p b => (binP op a b).map .p
 | _, _ => none

def eqP : PVal → PVal → Option Bool
 | .int k a, .int k' b => if k = k' then some (a == b) else none
 | .str a, .str b => some (a == b)
 | .bool a, .bool b => some (a == b)
 | _, _ => none

def keyOk (kk : Nat) (k : PVal) : Bool := match kk, k with
 | 0, .int .. | 1, .str _ | 2, .bool _ => true
 | _, _ => false

def eqK : List Nat → List AVal → List AVal → Option Bool
 | [], [], [] => some true
 | k :: ks, .p a :: r, .p b :: q => if keyOk k a then (match eqP a b with
  | some x => match eqK ks r q with
   | some y => some (x && y)
   | none => none
  | none => none) else none
 | _, _, _ => none

def shiftP (left : Bool) (x y : AVal) : Option AVal :=
 match x, y with
 | .p (.int k a), .p (.int _ b) =>
  if b < 0 then none else
  if left then some (.p (.int k (k.wrap (a * 2 ^ (Nat.min b.toNat k.bits))))) else some (.p (.int k (a.fdiv (2 ^ (Nat.min b.toNat k.bits)))))
 | _, _ => none

def bytesOf : List PVal → Option (List UInt8)
 | [] => some []
 | .int .u8 n :: r => (bytesOf r).map (UInt8.ofNat n.toNat :: ·)
 | _ => none

def toInt64? (a : AVal) : Option Int := match a with
 | .p (.int _ n) => some n
 | _ => none

def asB (a : AVal) : Option Bool := match a with
 | .p (.bool b) => some b
 | _ => none

def sliceOf (s : Sto) (es : Nat) : AVal → Option (List PVal × Nat)
 | .p (.sl cs n) => if n * es = cs.length then some (cs, n) else none
 | .p .nils => some ([], 0)
 | .p (.str l) => if es = 1 then some (l.map (fun b => .int .u8 (b.toNat : Int)), l.length) else none
 | .sl id ver off len => match get s id with
  | some (.arr cs v _) => if v = ver ∧ off + len * es ≤ cs.length then some (if off = 0 ∧ len * es = cs.length then cs else (cs.drop off).take (len * es), len) else none
  | some (.frz cs v _) => if v = ver ∧ off + len * es ≤ cs.length then some (if off = 0 ∧ len * es = cs.length then cs else (cs.drop off).take (len * es), len) else none
  | _ => none
 | _ => none

def convA (s : Sto) (k : Cnv) (x : AVal) : Option AVal :=
 match k, x with
 | .int k, .p (.int _ n) => some (.p (.int k (k.wrap n)))
 | .flt k, .p (.int _ n) => some (.p (.flt k (k.nearest n)))
 | .int k, .p (.flt src b) => match (src.decode b).toInt .zero with
  | some n => if k.min ≤ n ∧ n ≤ k.max then some (.p (.int k n)) else none
  | none => none
 | .flt k, .p (.flt src b) => if src = k then some (.p (.flt k b)) else match src.decode b with
  | .number sg m e => let r := k.encode (.number sg m e)
   if (k.decode r).isInfinity then none else some (.p (.flt k r))
  | .infinity sg => some (.p (.flt k (k.encode (.infinity sg))))
  | .nan _ _ => none
 | .sid, .p (.str l) => some (.p (.str l))
 | .i2s, .p (.int _ n) => some (.p (.str (Utf8.encode n).data.toList))
 | .b2s, .p (.str _) => none
 | .b2s, x => match sliceOf s 1 x with
  | some (cs, _) => (bytesOf cs).map fun l => .p (.str l)
  | none => none
 | _, _ => none

def setCells {α : Type} : List α → Nat → List α → List α
 | l, _, [] => l
 | l, i, v :: r => setCells (l.set i v) (i + 1) r

def cellsA : AVal → Option (List AVal)
 | .agg cs => some cs
 | .any => none
 | .tup _ => none
 | .own .. => none
 | a => some [a]

def fillA (zero : List AVal) : List (Nat × Nat × AVal) → Option (List AVal)
 | [] => some zero
 | (off, sz, v) :: r => match cellsA v with
  | some cs => if cs.length = sz ∧ off + sz ≤ zero.length then fillA (setCells zero off cs) r else none
  | none => none

def readP (agg : Bool) (cs : List PVal) (off sz : Nat) : Option AVal :=
 if agg then (if off + sz ≤ cs.length then some (.agg (((cs.drop off).take sz).map .p)) else none)
 else match cs[off]? with
  | some v => some (.p v)
  | none => none

def readA (agg : Bool) (cs : List AVal) (off sz : Nat) : Option AVal :=
 if agg then (if off + sz ≤ cs.length then some (.agg ((cs.drop off).take sz)) else none) else cs[off]?

def loadA (s : Sto) (agg : Bool) (sz : Nat) : AVal → Option AVal
 | .p (.pp cs) => readP agg cs 0 sz
 | .ptr id ver off => match get s id with
  | some (.arr cs v _) => if v = ver then readP agg cs off sz else none
  | some (.frz cs v _) => if v = ver then readP agg cs off sz else none
  | some (.box cs) => if 0 = ver then readA agg cs off sz else none
  | _ => none
 | _ => none

def storeA (s : Sto) (sz : Nat) (x v : AVal) : Option Sto :=
 match x, cellsA v with
 | .ptr id ver off, some vs =>
  if vs.length ≠ sz then none else
  match get s id with
  | some (.arr cs vr es) => if vr = ver ∧ off + sz ≤ cs.length then
    (match pcells vs with
    | some ps => some (put s id (.arr (setCells cs off ps) vr es))
    | none =>
     let s' := froze s [v]
     match get s' id, vs.mapM (toP true s' depthP) with
     | some (.arr cs vr es), some ps => some (put s' id (.arr (setCells cs off ps) vr es))
     | _, _ => none)
   else none
  | some (.box cs) => if 0 = ver ∧ off + sz ≤ cs.length ∧ vs.all okC = true then some (put s id (.box (setCells cs off vs))) else none
  | _ => none
 | _, _ => none

def hiBnd (len : Nat) : Option AVal → Option Nat
 | none => some len
 | some (.p (.int _ n)) => if 0 ≤ n ∧ n ≤ len then some n.toNat else none
 | some _ => none

def loBnd (h : Nat) : Option AVal → Option Nat
 | none => some 0
 | some (.p (.int _ n)) => if 0 ≤ n ∧ n ≤ h then some n.toNat else none
 | some _ => none

def sliceBnds (len : Nat) (lo hi : Option AVal) : Option (Nat × Nat) :=
 match hiBnd len hi with
 | none => none
 | some h => match loBnd h lo with
  | none => none
  | some a => some (a, h)

def keyEq (a b : PVal) : Option Bool := eqP a b

def mapFind (k : PVal) : List PVal → List PVal → Option (Option PVal)
 | [], [] => some none
 | x :: r, v :: q => match keyEq k x with
  | some true => some (some v)
  | some false => mapFind k r q
  | none => none
 | _, _ => none

def mapSet (k v : PVal) : List PVal → List PVal → List PVal
 | x :: r, y :: q => if keyEq k x = some true then v :: q else y :: mapSet k v r q
 | _, _ => []

def mapOf (s : Sto) : AVal → Option (List PVal × List PVal)
 | .p (.map ks vs) => some (ks, vs)
 | .p .nilm => some ([], [])
 | .mp id => match get s id with
  | some (.map ks vs) => some (ks, vs)
  | some (.fmap ks vs) => some (ks, vs)
  | _ => none
 | _ => none

def maxInt : Int → List AVal → Option Int
 | m, [] => some m
 | m, .p (.int .i64 n) :: r => maxInt (if n > m then n else m) r
 | _, _ => none

def minInt : Int → List AVal → Option Int
 | m, [] => some m
 | m, .p (.int .i64 n) :: r => minInt (if n < m then n else m) r
 | _, _ => none

def i64 (n : Int) : AVal := .p (.int .i64 n)

def some1 (v : AVal) (s : Sto) : T (AVal × Sto) := .ret (v, s)
def opt1 (v : Option AVal) (s : Sto) : T (AVal × Sto) := match v with
 | some v => .ret (v, s)
 | none => .fail
def nanN : FloatKind → Nat
 | .f32 => 2 * (2 ^ 23 - 1)
 | .f64 => 2 * (2 ^ 52 - 1)
def nanB : FloatKind → Nat → Nat
 | .f32, t => (t % 2) * 2 ^ 31 + 0x7f800000 + 1 + (t / 2) % (2 ^ 23 - 1)
 | .f64, t => (t % 2) * 2 ^ 63 + 0x7ff0000000000000 + 1 + (t / 2) % (2 ^ 52 - 1)
def arithB : Bop → Bool
 | .add | .sub | .mul | .quo => true
 | _ => false
def nanA (op : Bop) (x y : AVal) : Option FloatKind := match x, y with
 | .p (.flt k _), .p (.flt k' _) => if k = k' ∧ arithB op = true then some k else none
 | _, _ => none
def nanC (c : Cnv) (x : AVal) : Option FloatKind := match c, x with
 | .flt k, .p (.flt src b) => if src = k then none else match src.decode b with
  | .nan _ _ => some k
  | _ => none
 | _, _ => none
def optN (v : Option AVal) (nk : Option FloatKind) (s : Sto) : T (AVal × Sto) := match v with
 | some v => .ret (v, s)
 | none => match nk with
  | some k => .pick (nanN k) fun i => some1 (.p (.flt k (nanB k i))) s
  | none => .fail
def newO (s : Sto) (o : Obj) (v : Nat → AVal) : T (AVal × Sto) := .ret (v (nextId s), (nextId s, o) :: s)
def undefA : AVal := .tup []

def opFn (ρ : Opd → AVal) (s : Sto) : AOp → T (AVal × Sto)
 | .mv x => some1 (ρ x) s
 | .pick c a b => match asB (ρ c) with
  | some c => some1 (if c then ρ a else ρ b) s
  | none => .fail
 | .alloc isArr es zero => if isArr then (match pcells zero with
   | some ps => newO s (.arr ps 0 es) (fun i => .ptr i 0 0)
   | none => .fail) else newO s (.box zero) (fun i => .ptr i 0 0)
 | .allocr .. => .fail
 | .bslicer .. => .fail
 | .callr .. => .fail
 | .callq .. => .fail
 | .mkslicer .. => .fail
 | .clr es zero x => match pcells zero, ρ x with
  | some z, .sl id ver off n => match get s id with
   | some (.arr cs v e) => if v = ver ∧ e = es ∧ off + n * es ≤ cs.length ∧ z.length = es then
     .ret (.tup [], put s id (.arr (setCells cs off (List.replicate n z).flatten) v e)) else .fail
   | _ => .fail
  | _, _ => .fail
 | .box isArr x => match cellsA (ρ x) with
  | none => .fail
  | some cs => if isArr then (match pcells cs with
   | some ps => newO s (.arr ps 0 1) (fun i => .ptr i 0 0)
   | none => .fail) else newO s (.box cs) (fun i => .ptr i 0 0)
 | .build zero parts => opt1 ((fillA zero (parts.map fun x => (x.1, x.2.1, ρ x.2.2))).map .agg) s
 | .bslice own es zero n parts => match fillA (List.replicate n zero).flatten (parts.map fun x => (x.1 * es, es, ρ x.2)) with
  | some cs => (match pcells cs with
   | some ps => if own then newO s (.arr ps 0 es) (fun i => .sl i 0 0 n) else some1 (.p (.sl ps n)) s
   | none =>
    let s' := froze s cs
    match cs.mapM (toP true s' depthP) with
    | some ps => if own then newO s' (.arr ps 0 es) (fun i => .sl i 0 0 n) else some1 (.p (.sl ps n)) s'
    | none => .fail)
  | none => .fail
 | .ld agg sz x => opt1 (loadA s agg sz (ρ x)) s
 | .st sz x v => match storeA s sz (ρ x) (ρ v) with
  | some s => .ret (undefA, s)
  | none => .fail
 | .nilck x => match ρ x with
  | .ptr i v o => if okv s i v then some1 (.ptr i v o) s else .fail
  | .p (.pp cs) => some1 (.p (.pp cs)) s
  | _ => .fail
 | .bin op x y => optN (binA op (ρ x) (ρ y)) (nanA op (ρ x) (ρ y)) s
 | .shift l x y => opt1 (shiftP l (ρ x) (ρ y)) s
 | .eqagg n ng x y => match ρ x, ρ y with
  | .agg a, .agg b => match eqK n a b with
   | some r => some1 (.p (.bool (if ng then !r else r))) s
   | none => .fail
  | _, _ => .fail
 | .eqb ng x y => match ρ x, ρ y with
  | .p (.bool a), .p (.bool b) => some1 (.p (.bool (if ng then !(a == b) else a == b))) s
  | _, _ => .fail
 | .eqnil k ng x => match k, ρ x with
  | 0, .p .nilp => some1 (.p (.bool (!ng))) s
  | 0, .ptr i v _ => if okv s i v then some1 (.p (.bool ng)) s else .fail
  | 0, .p (.pp _) => some1 (.p (.bool ng)) s
  | 1, .p .nils => .pick 2 fun i => some1 (.p (.bool (i == 0))) s
  | 1, .p (.sl _ n) => if n = 0 then .pick 2 fun i => some1 (.p (.bool (i == 0))) s else some1 (.p (.bool ng)) s
  | 1, .sl i v _ n => if okv s i v then (if n = 0 then .pick 2 fun i => some1 (.p (.bool (i == 0))) s else some1 (.p (.bool ng)) s) else .fail
  | 2, .p .nilm => some1 (.p (.bool (!ng))) s
  | 2, .p (.map ..) => some1 (.p (.bool ng)) s
  | 2, .mp _ => some1 (.p (.bool ng)) s
  | 3, .p .nilf => some1 (.p (.bool (!ng))) s
  | 3, .p (.clo ..) => some1 (.p (.bool ng)) s
  | 3, .clo .. => some1 (.p (.bool ng)) s
  | 4, .p .nili => some1 (.p (.bool (!ng))) s
  | 4, .p (.ifc ..) => some1 (.p (.bool ng)) s
  | _, _ => .fail
 | .neg x => match ρ x with
  | .p (.int k n) => some1 (.p (.int k (k.wrap (0 - n)))) s
  | .p (.flt k b) => some1 (.p (.flt k (Op.negFloat k b))) s
  | _ => .fail
 | .not x => match ρ x with
  | .p (.bool b) => some1 (.p (.bool (!b))) s
  | _ => .fail
 | .bnot x => match ρ x with
  | .p (.int k n) => some1 (.p (.int k (k.wrap (BitVec.ofInt k.bits (if k.signed then -1 else k.max) ^^^ BitVec.ofInt k.bits n).toNat))) s
  | _ => .fail
 | .conv k x => match k, ρ x with
  | .s2b, .p (.str l) => newO s (.arr (l.map fun b => .int .u8 (b.toNat : Int)) 0 1) (fun i => .sl i 0 0 l.length)
  | k, x => optN (convA s k x) (nanC k x) s
 | .mkclo f a b => some1 (.clo f (a.map ρ) (b.map ρ)) s
 | .mkmap => newO s (.map [] []) .mp
 | .mkslice es zero l c => match toInt64? (ρ l), toInt64? (ρ c) with
  | some l, some c => if 0 ≤ l ∧ l ≤ c ∧ c ≤ lim then
    match pcells zero with
    | some z => newO s (.arr (List.replicate l.toNat z).flatten 0 es) (fun i => .sl i 0 0 l.toNat)
    | none => .fail
   else .fail
  | _, _ => .fail
 | .slcs x lo hi => match ρ x with
  | .p (.str l) => match sliceBnds l.length (lo.map ρ) (hi.map ρ) with
   | some (a, b) => some1 (.p (.str ((l.take b).drop a))) s
   | none => .fail
  | _ => .fail
 | .slc es x lo hi => match ρ x with
  | .p (.sl cs n) => match sliceBnds n (lo.map ρ) (hi.map ρ) with
   | some (a, b) => if a * es ≤ cs.length then some1 (.p (.sl ((cs.take (b * es)).drop (a * es)) (b - a))) s else .fail
   | none => .fail
  | .p .nils => match sliceBnds 0 (lo.map ρ) (hi.map ρ) with
   | some _ => some1 (.p .nils) s
   | none => .fail
  | .sl id ver off n => if esOf s id = es ∧ okv s id ver = true then (match sliceBnds n (lo.map ρ) (hi.map ρ) with
   | some (a, b) => some1 (.sl id ver (off + a * es) (b - a)) s
   | none => .fail) else .fail
  | _ => .fail
 | .slc3 own es x lo hi mx => match toInt64? (ρ lo), toInt64? (ρ hi), toInt64? (ρ mx) with
  | some 0, some 0, some 0 => (match ρ x with
   | .p (.sl _ _) | .p .nils => if own then newO s (.arr [] 0 es) (fun i => .sl i 0 0 0) else some1 (.p .nils) s
   | _ => .fail)
  | _, _, _ => .fail
 | .slca es n x lo hi => match sliceBnds n (lo.map ρ) (hi.map ρ) with
  | some (a, b) => match ρ x with
   | .ptr id ver off => if esOf s id = es ∧ okv s id ver = true ∧ off + n * es ≤ sizeOf s id then some1 (.sl id ver (off + a * es) (b - a)) s else .fail
   | .p (.pp cs) => if n * es ≤ cs.length then some1 (.p (.sl ((cs.take (b * es)).drop (a * es)) (b - a))) s else .fail
   | _ => .fail
  | none => .fail
 | .fadr off x => match ρ x with
  | .ptr id ver o => if okv s id ver then some1 (.ptr id ver (o + off)) s else .fail
  | .p (.pp cs) => if off < cs.length then some1 (.p (.pp (cs.drop off))) s else .fail
  | _ => .fail
 | .fld agg off sz x => match ρ x with
  | .agg cs => opt1 (readA agg cs off sz) s
  | _ => .fail
 | .iadr es x i => match toInt64? (ρ i) with
  | some i => match ρ x with
   | .p (.sl cs n) => if 0 ≤ i ∧ i < n ∧ i.toNat * es < cs.length then some1 (.p (.pp (cs.drop (i.toNat * es)))) s else .fail
   | .sl id ver off n => if 0 ≤ i ∧ i < n ∧ okv s id ver = true then some1 (.ptr id ver (off + i.toNat * es)) s else .fail
   | _ => .fail
  | none => .fail
 | .iadra es n x i => match toInt64? (ρ i) with
  | some i => if 0 ≤ i ∧ i < n then (match ρ x with
   | .p (.pp cs) => if i.toNat * es < cs.length then some1 (.p (.pp (cs.drop (i.toNat * es)))) s else .fail
   | .ptr id ver off => if okv s id ver then some1 (.ptr id ver (off + i.toNat * es)) s else .fail
   | _ => .fail) else .fail
  | none => .fail
 | .idx agg es n x i => match toInt64? (ρ i), ρ x with
  | some i, .agg cs => if 0 ≤ i ∧ i < n then opt1 (readA agg cs (i.toNat * es) es) s else .fail
  | _, _ => .fail
 | .idxs x i => match toInt64? (ρ i), ρ x with
  | some i, .p (.str l) => if 0 ≤ i then (match l[i.toNat]? with
   | some b => some1 (.p (.int .u8 (b.toNat : Int))) s
   | none => .fail) else .fail
  | _, _ => .fail
 | .lkup kk zero m k ok => match mapOf s (ρ m), ρ k with
  | some (ks, vs), .p k => if keyOk kk k then (match mapFind k ks vs with
   | some (some v) => some1 (if ok then .tup [.p v, .p (.bool true)] else .p v) s
   | some none => some1 (if ok then .tup [zero, .p (.bool false)] else zero) s
   | none => .fail) else .fail
  | _, _ => .fail
 | .mupd kk m k v => match ρ m, ρ k with
  | .mp id, .p k => match get s id with
   | some (.map ks vs) => if keyOk kk k then (match ρ v, mapFind k ks vs with
    | .p pv, some (some _) => .ret (undefA, put s id (.map ks (mapSet k pv ks vs)))
    | .p pv, some none => .ret (undefA, put s id (.map (ks ++ [k]) (vs ++ [pv])))
    | _, _ => .fail) else .fail
   | _ => .fail
  | _, _ => .fail
 | .mentry _ _ _ => .fail
 | .estore _ _ _ => .fail
 | .rngs x => match ρ x with
  | .p (.str l) => newO s (.siter l 0) .it
  | _ => .fail
 | .rngm x => match ρ x with
  | .p (.map ks vs) => newO s (.miter ks vs none) .it
  | .p .nilm => newO s (.miter [] [] none) .it
  | .mp id => match get s id with
   | some (.map ks vs) => newO (put s id (.fmap ks vs)) (.miter ks vs none) .it
   | some (.fmap ks vs) => newO s (.miter ks vs none) .it
   | _ => .fail
  | _ => .fail
 | .nxt x isS => match ρ x with
  | .it id => match get s id, isS with
   | some (.siter l pos), true =>
    if pos < l.length then
     let d := Utf8.decode ⟨l.toArray⟩ pos
     .ret (.tup [.p (.bool true), i64 pos, .p (.int .i32 d.1)], put s id (.siter l (pos + d.2)))
    else .ret (.tup [.p (.bool false)], s)
   | some (.miter ks vs _), false =>
    match ks, vs with
    | [], [] => .ret (.tup [.p (.bool false)], s)
    | ks, vs => if ks.length = vs.length then .pick ks.length fun i => match ks[i]?, vs[i]? with
     | some k, some v => .ret (.tup [.p (.bool true), .p k, .p v], put s id (.miter (ks.eraseIdx i) (vs.eraseIdx i) (some (k, v))))
     | _, _ => .fail
     else .fail
   | _, _ => .fail
  | _ => .fail
 | .entry x => match ρ x with
  | .it id => match get s id with
   | some (.miter _ _ (some (k, v))) => some1 (.tup [.p k, .p v]) s
   | _ => .fail
  | _ => .fail
 | .ext x i => match ρ x with
  | .tup vs => opt1 (vs[i]?) s
  | _ => .fail
 | .len k x => match k, ρ x with
  | 0, .p (.str l) => some1 (i64 l.length) s
  | 1, .p (.sl _ n) => some1 (i64 n) s
  | 1, .p .nils => some1 (i64 0) s
  | 1, .sl i v _ n => if okv s i v then some1 (i64 n) s else .fail
  | 2, .p (.map ks _) => some1 (i64 ks.length) s
  | 2, .p .nilm => some1 (i64 0) s
  | 2, .mp id => match get s id with
   | some (.map ks _) => some1 (i64 ks.length) s
   | some (.fmap ks _) => some1 (i64 ks.length) s
   | _ => .fail
  | _, _ => .fail
 | .app es bytes _ x y => match sliceOf s es (ρ y) with
  | some (ys, m) => match ρ x with
   | .p .nils => if m = 0 then some1 (.p .nils) s else
     if m ≤ lim ∧ bytes ≤ 1024 ∧ ys.length = m * es then newO s (.arr ys 0 es) (fun i => .sl i 0 0 m) else .fail
   | .sl id ver off n => match get s id with
    | some (.arr cs v e) =>
     if v = ver ∧ off = 0 ∧ e = es ∧ n * es = cs.length ∧ n + m ≤ lim ∧ bytes ≤ 1024 ∧ ys.length = m * es then
      (if m = 0 then some1 (.sl id ver 0 n) s else .ret (.sl id (ver + 1) 0 (n + m), put s id (.arr (cs ++ ys) (ver + 1) es)))
     else .fail
    | _ => .fail
   | _ => .fail
  | none => .fail
 | .appk es bytes _ x y => match ρ x with
  | .sl id ver off n => match sliceOf s es (ρ y) with
   | some (ys, m) => match get s id with
    | some (.arr cs v e) =>
     if v = ver ∧ off = 0 ∧ e = es ∧ n * es = cs.length ∧ n + m ≤ lim ∧ bytes ≤ 1024 ∧ ys.length = m * es then
      (if m = 0 then some1 (.sl id ver 0 n) s else .ret (.sl id (ver + 1) 0 (n + m), put s id (.arr (cs ++ ys) (ver + 1) es)))
     else .fail
    | _ => .fail
   | none => .fail
  | _ => .fail
 | .copy es x y => match sliceOf s es (ρ y), ρ x with
  | some (ys, m), .sl id ver off n => match get s id with
   | some (.arr cs v e) => if v = ver ∧ e = es ∧ off + n * es ≤ cs.length ∧ ys.length = m * es then
     .ret (i64 (Nat.min m n), put s id (.arr (setCells cs off (ys.take (Nat.min m n * es))) v e)) else .fail
   | _ => .fail
  | _, _ => .fail
 | .max xs => match xs.map ρ with
  | .p (.int .i64 n) :: r => opt1 ((maxInt n r).map i64) s
  | _ => .fail
 | .min xs => match xs.map ρ with
  | .p (.int .i64 n) :: r => opt1 ((minInt n r).map i64) s
  | _ => .fail
 | .del _ _ => .fail
 | .nilown es => newO s (.arr [] 0 es) (fun i => .sl i 0 0 0)
 | .allocown es => newO ((nextId s, .arr [] 0 es) :: s) (.box [.sl (nextId s) 0 0 0]) (fun i => .ptr i 0 0)
 | .call .. => .fail
 | .fail => .fail

/-! control -/

inductive Ex where
 | normal
 | exit (id : Nat)
 | ret
 deriving Inhabited

inductive Tgt where
 | fn (f : Nat)
 | yld (id : Nat)
 deriving Inhabited

abbrev CallF := Tgt → List AVal → Sto → T (AVal × Sto)

def evOpd (G : Nat → Option (List PVal)) (env : Env) : Opd → AVal
 | .t n => look env n
 | .c v => v
 | .g n => match G n with
  | some cs => .p (.pp cs)
  | none => .any

def callee (ρ : Opd → AVal) : Cee → Option (Tgt × List AVal × List AVal)
 | .fn f => some (.fn f, [], [])
 | .val x => match ρ x with
  | .p (.clo f a b) => some (.fn f, a.map .p, b.map .p)
  | .clo f a b => some (.fn f, a, b)
  | .yld id => some (.yld id, [], [])
  | _ => none

def pureA : AVal → Bool
 | .p _ => true
 | .agg cs => cs.all fun c => match c with | .p _ => true | _ => false
 | _ => false

def normC : AVal → AVal
 | .p v => .p (nrm v)
 | a => a

def normA : AVal → AVal
 | .p v => .p (nrm v)
 | .agg cs => .agg (cs.map normC)
 | a => a

def disown : AVal → AVal
 | .own cs n _ => .p (.sl cs n)
 | a => a

def disownR : AVal → AVal
 | .tup vs => .tup (vs.map disown)
 | a => disown a

def adopt1 (es : Nat) (a : AVal) (s : Sto) : Option (AVal × Sto) := match a with
 | .own cs n e => if e = es ∨ e = 0 then some (.sl (nextId s) 0 0 n, (nextId s, .arr cs 0 es) :: s) else none
 | a => some (a, s)

def adoptL (es : Nat) (s : Sto) : List AVal → Option (List AVal × Sto)
 | [] => some ([], s)
 | a :: r => match adopt1 es a s with
  | some x => match adoptL es x.2 r with
   | some y => some (x.1 :: y.1, y.2)
   | none => none
  | none => none

def adoptR (es : Nat) (a : AVal) (s : Sto) : Option (AVal × Sto) := match a with
 | .tup vs => match adoptL es s vs with
  | some x => some (.tup x.1, x.2)
  | none => none
 | a => adopt1 es a s

def fin1 (s : Sto) : AVal → Option AVal
 | .sl id ver off len => match get s id with
  | some (.arr cs v es) => if v = ver ∧ off = 0 ∧ len * es = cs.length ∧ 0 < es then some (.own cs len es) else purA false s (.sl id ver off len)
  | _ => purA false s (.sl id ver off len)
 | a => purA false s a

def isSl : AVal → Bool
 | .sl .. => true
 | _ => false

def nodupB : List Nat → Bool
 | [] => true
 | a :: r => !r.contains a && nodupB r

def ownable (vs : List AVal) : Bool := nodupB (refsL vs) && vs.all fun v => isSl v || pureA v

def finR (s : Sto) : AVal → Option AVal
 | .tup vs => (if ownable vs then vs.mapM (fin1 s) else vs.mapM (purA false s)).map .tup
 | a => fin1 s a

def callPure (call : CallF) (C : Nat → List AVal → Option (T AVal)) (t : Tgt) (args : List AVal) : T AVal :=
 match t with
 | .fn f => match C f args with
  | some r => r
  | none => (call t args []).bind fun x => .ofOpt (finR x.2 x.1)
 | .yld _ => .fail

def giveR (adopt : Nat) (r : AVal) (s : Sto) : T (AVal × Sto) :=
 if adopt = 0 then .ret (disownR r, s) else .ofOpt (adoptR adopt r s)

def snapR (r : AVal) : Option AVal := if scalarR r then some r else match r with
 | .own cs n _ => if cs.all scalarP then some (.p (.sl cs n)) else none
 | _ => none

def rawA (adopt : Nat) (as : List AVal) : List AVal := if 2000 ≤ adopt then as else as.map normA
def adoptN (adopt : Nat) : Nat := if 2000 ≤ adopt then adopt - 2000 else adopt

def callOp (call : CallF) (C : Nat → List AVal → Option (T AVal)) (ρ : Opd → AVal) (s : Sto) (snap scal : Bool) (adopt : Nat) (c : Cee) (args : List Opd) : T (AVal × Sto) :=
 match callee ρ c with
 | none => .fail
 | some (t, first, caps) =>
  let as := first ++ args.map ρ ++ caps
  if adopt = 1000 then (call t as s).bind fun x => .ret (x.1, gc (nextId s) [(0, x.1)] x.2)
  else if as.all pureA && (match t with | .fn _ => true | _ => false) then
   (callPure call C t (rawA adopt as)).bind fun r => giveR (adoptN adopt) r s
  else if snap then
   if scal then
    match as.mapM (purA false s) with
    | none => .fail
    | some as' => (callPure call C t as').bind fun r => match snapR r with
     | some a => .ret (a, s)
     | none => .fail
   else
    let s' := froze s as
    match as.mapM (purA true s') with
    | none => .fail
    | some as' => (callPure call C t as').bind fun r => giveR adopt r s'
  else
   (call t as s).bind fun x => .ret (x.1, gc (nextId s) [(0, x.1)] x.2)

def evOp (call : CallF) (C : Nat → List AVal → Option (T AVal)) (ρ : Opd → AVal) (s : Sto) (op : AOp) : T (AVal × Sto) :=
 match op with
 | .call snap scal adopt c args => callOp call C ρ s snap scal adopt c args
 | op => opFn ρ s op

def wantedA (env : Env) : Option (Nat × Bool) → Option Bool
 | none => some true
 | some (t, want) => match look env t with
  | .p (.bool b) => some (b == want)
  | .tup [] => some false
  | _ => none

def setE (env : Env) : Option Nat → AVal → Env
 | none, _ => env
 | some d, v => (d, v) :: env

def evOper (call : CallF) (C : Nat → List AVal → Option (T AVal)) (G : Nat → Option (List PVal)) (st : St) (o : AOper) : T St :=
 match wantedA st.env o.guard with
 | none => .fail
 | some false => .ret ⟨setE st.env o.dst undefA, st.sto⟩
 | some true => (evOp call C (evOpd G st.env) st.sto o.op).bind fun x => .ret ⟨setE st.env o.dst x.1, x.2⟩

def evOps (call : CallF) (C : Nat → List AVal → Option (T AVal)) (G : Nat → Option (List PVal)) : List AOper → St → T St
 | [], st => .ret st
 | o :: r, st => (evOper call C G st o).bind (evOps call C G r)

/-! regions whose operations Go may run in several orders -/

def isP : AOp → Bool
 | .mv _ | .pick .. | .build .. | .bin .. | .shift .. | .eqagg .. | .eqb .. | .neg _ | .not _ | .bnot _ | .mkclo .. | .slcs .. | .fld .. | .idx .. | .idxs .. | .ext .. | .max _ | .min _ => true
 | .conv k _ => (match k with | .s2b | .b2s => false | _ => true)
 | .len k _ => k == 0
 | _ => false

def isR : AOp → Bool
 | .ld .. | .nilck _ | .eqnil .. | .slc .. | .slca .. | .fadr .. | .iadr .. | .iadra .. | .lkup .. | .entry _ | .len .. => true
 | .conv k _ => (match k with | .s2b => false | _ => true)
 | op => isP op

def qFn (ρ : Opd → AVal) (s : Sto) (op : AOp) : T AVal := (opFn ρ s op).bind fun x => .ret x.1

def qCall (call : CallF) (C : Nat → List AVal → Option (T AVal)) (ρ : Opd → AVal) (s : Sto) (snap scal : Bool) (c : Cee) (args : List Opd) : T AVal :=
 match callee ρ c with
 | some (.fn f, first, caps) =>
  let as := first ++ args.map ρ ++ caps
  if as.all pureA then (callPure call C (.fn f) (as.map normA)).bind fun r => .ret (disownR r)
  else if snap && scal then
   match as.mapM (purA false s) with
   | none => .fail
   | some as' => (callPure call C (.fn f) as').bind fun r => match snapR r with
    | some a => .ret a
    | none => .fail
  else .fail
 | _ => .fail

def qOp (call : CallF) (C : Nat → List AVal → Option (T AVal)) (ρ : Opd → AVal) (s : Sto) (op : AOp) : T AVal :=
 match op with
 | .call snap scal adopt c args => if adopt = 0 then qCall call C ρ s snap scal c args else .fail
 | .bslice false es zero n parts => match fillA (List.replicate n zero).flatten (parts.map fun x => (x.1 * es, es, ρ x.2)) with
  | some cs => (match pcells cs with
   | some ps => .ret (.p (.sl ps n))
   | none => .fail)
  | none => .fail
 | op => if isR op then qFn ρ s op else .fail

def fresh (s : Sto) : Bool := (get s (nextId s)).isNone && (get s (nextId s + 1)).isNone

def ins : Sto → Nat → Obj → Sto
 | [], i, o => [(i, o)]
 | (k, x) :: r, i, o => if k < i then (i, o) :: (k, x) :: r else (k, x) :: ins r i o

def rOp (id : Nat) (s : Sto) (isArr : Bool) (es : Nat) (zero : List AVal) : T (AVal × Sto) :=
 if (get s id).isNone then
  if isArr then (match pcells zero with
   | some ps => .ret (.ptr id 0 0, ins s id (.arr ps 0 es))
   | none => .fail) else .ret (.ptr id 0 0, ins s id (.box zero))
 else .fail

def mOpr (id : Nat) (s : Sto) (es : Nat) (zero : List AVal) (l c : AVal) : T (AVal × Sto) := match toInt64? l, toInt64? c with
 | some l, some c => if (get s id).isNone = true ∧ 0 ≤ l ∧ l ≤ c ∧ c ≤ lim then
   match pcells zero with
   | some z => .ret (.sl id 0 0 l.toNat, ins s id (.arr (List.replicate l.toNat z).flatten 0 es))
   | none => .fail
  else .fail
 | _, _ => .fail

def isBox (s : Sto) (i : Nat) : Bool := match get s i with
 | some (.box _) => true
 | _ => false
def boxes (s : Sto) : Sto := s.filter fun x => isBox s x.1

def aOp0 (ρ : Opd → AVal) (s : Sto) (op : AOp) : T (AVal × Sto) :=
 if fresh s then
  match op with
  | .alloc .. | .box .. | .mkmap | .nilown _ | .allocown _ => opFn ρ s op
  | .bslice true es zero n parts => match fillA (List.replicate n zero).flatten (parts.map fun x => (x.1 * es, es, ρ x.2)) with
   | some cs => (match pcells cs with
    | some ps => newO s (.arr ps 0 es) (fun i => .sl i 0 0 n)
    | none => .fail)
   | none => .fail
  | _ => .fail
 else .fail

def bOpr (id : Nat) (ρ : Opd → AVal) (s : Sto) (es : Nat) (zero : List AVal) (n : Nat) (parts : List (Nat × Opd)) : T (AVal × Sto) :=
 if (get s id).isNone = true then
  match fillA (List.replicate n zero).flatten (parts.map fun x => (x.1 * es, es, ρ x.2)) with
  | some cs => (match pcells cs with
   | some ps => .ret (.sl id 0 0 n, ins s id (.arr ps 0 es))
   | none => .fail)
  | none => .fail
 else .fail

def rowR (es : Nat) (r : AVal) : T (Nat × Obj) := match r with
 | .own cs n e => if e = es ∨ e = 0 then .ret (n, .arr cs 0 es) else .fail
 | _ => .fail

def cOpr (call : CallF) (C : Nat → List AVal → Option (T AVal)) (id : Nat) (ρ : Opd → AVal) (s : Sto) (es f : Nat) (args : List Opd) : T (AVal × Sto) :=
 if (get s id).isNone = true ∧ (args.map ρ).all pureA = true then
  ((callPure call C (.fn f) ((args.map ρ).map normA)).bind (rowR es)).bind fun x => .ret (.sl id 0 0 x.1, ins s id x.2)
 else .fail

def rowQ (es : Nat) (r : AVal) : T (Nat × Obj) := match r with
 | .own cs n e => if (e = es ∨ e = 0) ∧ cs.all scalarP = true then .ret (n, .arr cs 0 es) else .fail
 | _ => .fail

def cOqr (call : CallF) (C : Nat → List AVal → Option (T AVal)) (id : Nat) (ρ : Opd → AVal) (s : Sto) (es f : Nat) (args : List Opd) : T (AVal × Sto) :=
 if (get s id).isNone = true then
  match (args.map ρ).mapM (purA false s) with
  | some as => ((callPure call C (.fn f) as).bind (rowQ es)).bind fun x => .ret (.sl id 0 0 x.1, ins s id x.2)
  | none => .fail
 else .fail

def aOp (rb : Nat) (ρ : Opd → AVal) (s : Sto) (op : AOp) : T (AVal × Sto) := match op with
 | .allocr j isArr es zero => rOp (rb + j) s isArr es zero
 | .mkslicer j es zero l c => mOpr (rb + j) s es zero (ρ l) (ρ c)
 | .bslicer j es zero n parts => bOpr (rb + j) ρ s es zero n parts
 | op => aOp0 ρ s op

def aOpC (call : CallF) (C : Nat → List AVal → Option (T AVal)) (rb : Nat) (ρ : Opd → AVal) (s : Sto) (op : AOp) : T (AVal × Sto) := match op with
 | .callr j es f args => cOpr call C (rb + j) ρ s es f args
 | .callq j es f args => cOqr call C (rb + j) ρ s es f args
 | op => aOp rb ρ s op

def hidT (k : Nat) : List Nat := (List.range (Nat.log2 k + 1)).filter fun t => k.testBit t

def hide (ids : List Nat) (s : Sto) : Sto := s.filter fun x => !ids.contains x.1

def hidI (ρ : Opd → AVal) (k : Nat) : List Nat := refsL ((hidT k).map fun t => ρ (.t t))

def onlyI (ids : List Nat) (s : Sto) : Sto := s.filter fun x => ids.contains x.1

mutual
def sameP : PVal → PVal → Bool
 | .int k n, .int k' n' => decide (k = k') && decide (n = n')
 | .bool a, .bool b => decide (a = b)
 | .str a, .str b => decide (a = b)
 | .nils, .nils => true
 | .nilm, .nilm => true
 | .nilp, .nilp => true
 | .nilf, .nilf => true
 | .nili, .nili => true
 | .flt k n, .flt k' n' => decide (k = k') && decide (n = n')
 | .sl cs n, .sl cs' n' => samePs cs cs' && decide (n = n')
 | .pp cs, .pp cs' => samePs cs cs'
 | .clo f a b, .clo f' a' b' => decide (f = f') && (samePs a a' && samePs b b')
 | .map a b, .map a' b' => samePs a a' && samePs b b'
 | .ifc t v, .ifc t' v' => decide (t = t') && sameP v v'
 | _, _ => false
def samePs : List PVal → List PVal → Bool
 | [], [] => true
 | a :: r, b :: q => sameP a b && samePs r q
 | _, _ => false
end

def sameC : List AVal → List AVal → Bool
 | [], [] => true
 | .p a :: r, .p b :: q => sameP a b && sameC r q
 | _, _ => false

def sameO : Obj → Obj → Bool
 | .arr cs v es, .arr cs' v' es' => samePs cs cs' && decide (v = v') && decide (es = es')
 | .box cs, .box cs' => sameC cs cs'
 | _, _ => false

def keptB (ids : List Nat) (s s' : Sto) : Bool := ids.all fun i => match get s i, get s' i with
 | some a, some b => sameO a b
 | none, none => true
 | _, _ => false

def plain (s : Sto) (id : Nat) (vs : List AVal) : Bool := (pcells vs).isSome || (match get s id with | some (.box _) => true | _ => false)

def stOp (ρ : Opd → AVal) (s : Sto) (op : AOp) : T (AVal × Sto) :=
 match op with
 | .st sz x v => match ρ x, cellsA (ρ v) with
  | .ptr id _ _, some vs => if plain s id vs then opFn ρ s (.st sz x v) else .fail
  | _, _ => .fail
 | .app es bytes z x y => if fresh s then opFn ρ s (.app es bytes z x y) else .fail
 | .appk es bytes z x y => opFn ρ s (.appk es bytes z x y)
 | _ => .fail

def dOp (call : CallF) (C : Nat → List AVal → Option (T AVal)) (rb : Nat) (ρ : Opd → AVal) (kind : Nat) (s : Sto) (op : AOp) : T (AVal × Sto) :=
 match kind with
 | 0 => evOp call C ρ s op
 | 1 => (qOp call C ρ s op).bind fun a => .ret (a, s)
 | 2 => aOpC call C rb ρ s op
 | 3 => stOp ρ s op
 | 4 => (qOp call C ρ (boxes s) op).bind fun a => .ret (a, s)
 | 5 => (qOp call C ρ [] op).bind fun a => .ret (a, s)
 | k + 6 =>
  if k % 3 = 0 then (qOp call C ρ (hide (hidI ρ (k / 3)) s) op).bind fun a => .ret (a, s)
  else if k % 3 = 1 then (qOp call C ρ (onlyI (hidI ρ (k / 3)) s) op).bind fun a => .ret (a, s)
  else (evOp call C ρ s op).bind fun x => if keptB (hidI ρ (k / 3)) s x.2 then .ret x else .fail

def evOperD (call : CallF) (C : Nat → List AVal → Option (T AVal)) (G : Nat → Option (List PVal)) (rb : Nat) (kind : Nat) (o : AOper) (st : St) : T St :=
 match wantedA st.env o.guard with
 | none => .fail
 | some false => .ret ⟨setE st.env o.dst undefA, st.sto⟩
 | some true => (dOp call C rb (evOpd G st.env) kind st.sto o.op).bind fun x => .ret ⟨setE st.env o.dst x.1, x.2⟩

def evOpsD (call : CallF) (C : Nat → List AVal → Option (T AVal)) (G : Nat → Option (List PVal)) (rb : Nat) : List (Nat × AOper) → St → T St
 | [], st => .ret st
 | o :: r, st => (evOperD call C G rb o.1 o.2 st).bind (evOpsD call C G rb r)

def restrict (env : Env) (live : List Nat) : Env := live.map fun t => (t, look env t)

def loopN (step : St → T (Ex × St)) : Nat → St → T (Ex × St)
 | 0, _ => .fail
 | n + 1, st => (step st).bind fun x => match x.1 with
  | .normal => loopN step n x.2
  | e => .ret (e, x.2)

def loopFuel : Nat := 18446744073709551616

def jumpOf : Ex → Option ACode
 | .normal => none
 | .exit id => some (.exit id)
 | .ret => some .ret

def evCode (call : CallF) (C : Nat → List AVal → Option (T AVal)) (G : Nat → Option (List PVal)) (lo : Nat) : ACode → St → T (Ex × St)
 | .skip, st => .ret (.normal, st)
 | .ops l live, st => (evOps call C G l st).bind fun st' => .ret (.normal, ⟨restrict st'.env live, st'.sto⟩)
 | .opsd perm l live, st => (evOpsD call C G (nextId st.sto) ((perm.map (·.2)).zip l) st).bind fun st' => .ret (.normal, ⟨restrict st'.env live, st'.sto⟩)
 | .seq a b, st => (evCode call C G lo a st).bind fun x => match x.1 with
  | .normal => evCode call C G lo b x.2
  | e => .ret (e, x.2)
 | .cond c a b, st => match asB (evOpd G st.env c) with
  | some t => if t then evCode call C G lo a st else evCode call C G lo b st
  | none => .fail
 | .block id b, st => (evCode call C G lo b st).bind fun x => match x.1 with
  | .exit id' => if id' = id then .ret (.normal, x.2) else .ret (.exit id', x.2)
  | e => .ret (e, x.2)
 | .loop g live b, st => loopN (fun st => evCode call C G lo b ⟨restrict st.env live, if g then gc lo (restrict st.env live) st.sto else st.sto⟩) loopFuel st
 | .rfun f ps as b, st =>
  let id := nextId st.sto
  let s1 := (id, Obj.loop st.env ps as b none 0) :: st.sto
  match callee (evOpd G st.env) (.val f) with
  | some (.fn g, first, caps) => (call (.fn g) (first ++ [.yld id] ++ caps) s1).bind fun x =>
   match get x.2 id with
   | some (.loop e1 p1 a1 b1 j n) =>
    if n = 1 then .fail else
    let s2 := gc lo st.env (put x.2 id (.loop e1 p1 a1 b1 j 3))
    match j with
    | none => .ret (.normal, ⟨st.env, s2⟩)
    | some (.exit i) => .ret (.exit i, ⟨st.env, s2⟩)
    | some .ret => .ret (.ret, ⟨st.env, s2⟩)
    | some _ => .fail
   | _ => .fail
  | _ => .fail
 | .exit id, st => .ret (.exit id, st)
 | .ret, st => .ret (.ret, st)
 | .scope b, st => evCode call C G lo b st
 | .fail, _ => .fail

def zipArgs : Nat → List AVal → Env
 | _, [] => []
 | i, a :: r => (i, a) :: zipArgs (i + 1) r

def resA (s : Sto) (env : Env) : ARes → Option AVal
 | .tmp t => some (look env t)
 | .cell t agg sz => loadA s agg sz (look env t)

def retA : List AVal → AVal
 | [v] => v
 | vs => .tup vs

def evRes (f : AFunc) (st : St) : Option AVal := (f.results.mapM (resA st.sto st.env)).map retA

def evFn (F : Nat → Option AFunc) (C : Nat → List AVal → Option (T AVal)) (G : Nat → Option (List PVal)) : Nat → CallF
 | 0, _, _, _ => .fail
 | d + 1, .fn f, args, s => match F f with
  | none => .fail
  | some fn => (evCode (evFn F C G d) C G (nextId s) fn.body ⟨zipArgs 0 args, s⟩).bind fun x =>
   match x.1 with
   | .exit _ => .fail
   | _ => match evRes fn x.2 with
    | some v => .ret (v, x.2.sto)
    | none => .fail
 | d + 1, .yld id, args, s => match get s id with
  | some (.loop env ps as b none 0) =>
   if ps.length ≠ args.length then .fail else
   let env1 := (ps.zip args).foldl (fun e x => (x.1, x.2) :: e) env
   (evCode (evFn F C G d) C G (nextId s) as ⟨env1, s⟩).bind fun x => match x.1 with
    | .normal => match get x.2.sto id with
     | some (.loop e2 p2 a2 b2 none 0) =>
      (evCode (evFn F C G d) C G (nextId s) b ⟨x.2.env, put x.2.sto id (.loop e2 p2 a2 b2 none 1)⟩).bind fun y => match get y.2.sto id with
       | some (.loop e3 p3 a3 b3 _ _) =>
        let j := jumpOf y.1
        .ret (.p (.bool j.isNone), put y.2.sto id (.loop e3 p3 a3 b3 j (if j.isNone then 0 else 2)))
       | _ => .fail
     | _ => .fail
    | _ => .fail
  | _ => .fail

def evP (F : Nat → Option AFunc) (C : Nat → List AVal → Option (T AVal)) (G : Nat → Option (List PVal)) (d f : Nat) (args : List AVal) : T AVal :=
 callPure (evFn F C G d) C (.fn f) args

end Fw
end

section
/-
  How abstract values and stores stand for the model's values and memory, and what keeps standing when memory grows.
-/
namespace Fw
open Go

namespace T
variable {α β : Type}
theorem All_bind (t : T α) (f : α → T β) (Q : β → Prop) : (t.bind f).All Q ↔ t.All (fun a => (f a).All Q) := by
 induction t with
 | ret a => rfl
 | fail => rfl
 | pick n k ih => simp only [bind, All]; exact ⟨fun h => ⟨h.1, fun i hi => (ih i).1 (h.2 i hi)⟩, fun h => ⟨h.1, fun i hi => (ih i).2 (h.2 i hi)⟩⟩
theorem All_mono {t : T α} {Q R : α → Prop} (h : t.All Q) (hr : ∀ a, Q a → R a) : t.All R := by
 induction t with
 | ret a => exact hr a h
 | fail => exact h
 | pick n k ih => exact ⟨h.1, fun i hi => ih i (h.2 i hi)⟩
theorem All_ofOpt (o : Option α) (Q : α → Prop) : (ofOpt o).All Q ↔ ∃ a, o = some a ∧ Q a := by
 cases o <;> simp [ofOpt, All]
end T

/-! stores -/

def keysDesc : Sto → Prop
 | [] => True
 | (i, _) :: r => (∀ x ∈ r, x.1 < i) ∧ keysDesc r

theorem get_mem {s : Sto} {i : Nat} {o : Obj} (h : get s i = some o) : (i, o) ∈ s := by
 induction s with
 | nil => simp [get] at h
 | cons x r ih =>
  obtain ⟨j, p⟩ := x
  simp only [get] at h
  split at h
  ·rename_i e; cases h; subst e; exact List.mem_cons_self
  ·exact List.mem_cons_of_mem _ (ih h)

theorem get_lt {s : Sto} (hs : keysDesc s) {i : Nat} {o : Obj} (h : get s i = some o) : i < nextId s := by
 cases s with
 | nil => simp [get] at h
 | cons x r =>
  obtain ⟨j, p⟩ := x
  simp only [nextId]
  rcases List.mem_cons.1 (get_mem h) with e | e
  ·cases e; omega
  ·have := hs.1 _ e; simp at this; omega

theorem get_new (s : Sto) (o : Obj) (i : Nat) : get ((nextId s, o) :: s) i = if nextId s = i then some o else get s i := rfl

theorem keysDesc_new {s : Sto} (hs : keysDesc s) (o : Obj) : keysDesc ((nextId s, o) :: s) := by
 refine ⟨fun x hx => ?_, hs⟩
 cases s with
 | nil => cases hx
 | cons y r =>
  simp only [nextId]
  rcases List.mem_cons.1 hx with e | e
  ·subst e; omega
  ·have := hs.1 _ e; omega

theorem get_put (s : Sto) (i : Nat) (o : Obj) (j : Nat) : get (put s i o) j = if i = j then (get s j).map (fun _ => o) else get s j := by
 induction s with
 | nil => simp [put, get]
 | cons x r ih =>
  obtain ⟨k, p⟩ := x
  simp only [put]
  by_cases hk : k = i
  ·subst hk
   simp only [if_true, get]
   by_cases hj : k = j
   ·simp [hj]
   ·simp [hj]
  ·simp only [hk, if_false, get]
   by_cases hj : k = j
   ·subst hj
    rw [if_pos rfl, if_pos rfl]
    simp [Ne.symm hk]
   ·simp only [hj, if_false]; exact ih

theorem mem_put {s : Sto} {i : Nat} {o : Obj} {x : Nat × Obj} (h : x ∈ put s i o) : ∃ y ∈ s, y.1 = x.1 := by
 induction s with
 | nil => simp [put] at h
 | cons y r ih =>
  obtain ⟨k, p⟩ := y
  simp only [put] at h
  split at h
  ·rcases List.mem_cons.1 h with e | e
   ·subst e; exact ⟨(k, p), List.mem_cons_self, by simp⟩
   ·exact ⟨x, List.mem_cons_of_mem _ e, rfl⟩
  ·rcases List.mem_cons.1 h with e | e
   ·subst e; exact ⟨(k, p), List.mem_cons_self, rfl⟩
   ·obtain ⟨z, hz, he⟩ := ih e; exact ⟨z, List.mem_cons_of_mem _ hz, he⟩

theorem keysDesc_put {s : Sto} (hs : keysDesc s) (i : Nat) (o : Obj) : keysDesc (put s i o) := by
 induction s with
 | nil => exact hs
 | cons y r ih =>
  obtain ⟨k, p⟩ := y
  simp only [put]
  split
  ·rename_i e; subst e; exact hs
  ·refine ⟨fun x hx => ?_, ih hs.2⟩
   obtain ⟨z, hz, he⟩ := mem_put hx
   have := hs.1 z hz; omega

theorem nextId_put (s : Sto) (i : Nat) (o : Obj) : nextId (put s i o) = nextId s := by
 cases s with
 | nil => rfl
 | cons y r => obtain ⟨k, p⟩ := y; simp only [put]; split <;> simp_all [nextId]

theorem keysDesc_filter {s : Sto} (hs : keysDesc s) (f : Nat × Obj → Bool) : keysDesc (s.filter f) := by
 induction s with
 | nil => exact hs
 | cons y r ih =>
  simp only [List.filter_cons]
  split
  ·exact ⟨fun x hx => hs.1 x (List.mem_filter.1 hx).1, ih hs.2⟩
  ·exact ih hs.2

theorem get_of_mem {s : Sto} (hs : keysDesc s) {i : Nat} {o : Obj} (h : (i, o) ∈ s) : get s i = some o := by
 induction s with
 | nil => cases h
 | cons y r ih =>
  obtain ⟨k, p⟩ := y
  rcases List.mem_cons.1 h with e | e
  ·cases e; simp [get]
  ·have := hs.1 _ e
   simp only at this
   simp only [get]
   rw [if_neg (by omega)]
   exact ih hs.2 e

theorem get_filter {s : Sto} (hs : keysDesc s) (f : Nat × Obj → Bool) (i : Nat) : get (s.filter f) i = match get s i with
  | some o => if f (i, o) then some o else none
  | none => none := by
 cases h : get s i with
 | none =>
  cases h' : get (s.filter f) i with
  | none => rfl
  | some o => rw [get_of_mem hs (List.mem_filter.1 (get_mem h')).1] at h; cases h
 | some o =>
  simp only
  split
  ·rename_i hf; exact get_of_mem (keysDesc_filter hs f) (List.mem_filter.2 ⟨get_mem h, hf⟩)
  ·rename_i hf
   cases h' : get (s.filter f) i with
   | none => rfl
   | some o' =>
    have hm := List.mem_filter.1 (get_mem h')
    have := get_of_mem hs hm.1
    rw [h] at this; cases this
    exact absurd hm.2 hf

theorem get_map (g : Nat × Obj → Obj) (s : Sto) (i : Nat) : get (s.map fun x => (x.1, g x)) i = (get s i).map (fun o => g (i, o)) := by
 induction s with
 | nil => rfl
 | cons y r ih =>
  obtain ⟨k, p⟩ := y
  simp only [List.map_cons, get]
  split
  ·rename_i e; subst e; rfl
  ·exact ih

theorem keysDesc_map (g : Nat × Obj → Obj) {s : Sto} (hs : keysDesc s) : keysDesc (s.map fun x => (x.1, g x)) := by
 induction s with
 | nil => exact hs
 | cons y r ih =>
  refine ⟨fun x hx => ?_, ih hs.2⟩
  obtain ⟨z, hz, he⟩ := List.mem_map.1 hx
  rw [← he]; exact hs.1 z hz

abbrev Mem := Nat → Option (Nat × Nat)

def Own (m : Mem) (s : Sto) (b : Nat) : Prop := ∃ i o z, get s i = some o ∧ mutO o = true ∧ m i = some (b, z)

def Im (base : Nat) (Im0 : Nat → Prop) (m : Mem) (s : Sto) (b : Nat) : Prop := (b < base → Im0 b) ∧ ¬ Own m s b

/-! values without references -/

inductive PRep (w : World) (I : Nat → Prop) : Value → PVal → Prop
 | int (k n) : PRep w I (.int k n) (.int k n)
 | bool (b) : PRep w I (.bool b) (.bool b)
 | flt (k b) : PRep w I (.float k b) (.flt k b)
 | str (s : ByteArray) : PRep w I (.string s) (.str s.data.toList)
 | nilp : PRep w I (.pointer none) .nilp
 | nils (a) : PRep w I (.slice a 0 0) .nils
 | nilm : PRep w I (.map none) .nilm
 | nilf : PRep w I .nilFunc .nilf
 | nili : PRep w I .nilIface .nili
 | sl0 (a cap) : PRep w I (.slice a 0 cap) (.sl [] 0)
 | sl (b off len cap : Nat) (cur : Array Value) (e : Nat) (fr : Nat × Nat) (cs : List PVal) : I b → w.heap[b]? = some (.cells cur e fr) → off + cs.length ≤ cur.size → len ≤ cap →
   (∀ (j : Nat) u c, cur[off + j]? = some u → cs[j]? = some c → PRep w I u c) → PRep w I (.slice (some ⟨b, off, none⟩) len cap) (.sl cs len)
 | pp (b off : Nat) (cur : Array Value) (e : Nat) (fr : Nat × Nat) (cs : List PVal) : I b → w.heap[b]? = some (.cells cur e fr) → off + cs.length ≤ cur.size →
   (∀ (j : Nat) u c, cur[off + j]? = some u → cs[j]? = some c → PRep w I u c) → PRep w I (.pointer (some ⟨b, off, none⟩)) (.pp cs)
 | clo (f : Nat) (fs cs : Array Value) (a b : List PVal) : fs.size = a.length → cs.size = b.length →
   (∀ (j : Nat) u c, fs[j]? = some u → a[j]? = some c → PRep w I u c) → (∀ (j : Nat) u c, cs[j]? = some u → b[j]? = some c → PRep w I u c) →
   PRep w I (.func (.func f) fs cs) (.clo f a b)
 | map (r : Nat) (es : Array MapEntry) (clock : Nat) (ks vs : List PVal) : I r → w.heap[r]? = some (.map es clock) → es.size = ks.length → es.size = vs.length →
   (∀ (j : Nat) e k, es[j]? = some e → ks[j]? = some k → PRep w I e.key k) → (∀ (j : Nat) e v, es[j]? = some e → vs[j]? = some v → PRep w I e.val v) →
   (∀ (j : Nat) e, es[j]? = some e → e.born < clock) → (es.toList.map (·.born)).Nodup →
   PRep w I (.map (some r)) (.map ks vs)
 | ifc (t : Nat) (v : Value) (p : PVal) : PRep w I v p → PRep w I (.iface t v) (.ifc t p)

def isData : Go.Obj → Prop
 | .cells .. => True
 | .map .. => True
 | _ => False

def Keeps (w : World) (I : Nat → Prop) (w' : World) (I' : Nat → Prop) : Prop :=
 ∀ b o, I b → w.heap[b]? = some o → isData o → I' b ∧ w'.heap[b]? = some o

theorem Keeps.refl (w : World) (I : Nat → Prop) : Keeps w I w I := fun _ _ h h' _ => ⟨h, h'⟩
theorem Keeps.trans {w1 w2 w3 : World} {I1 I2 I3 : Nat → Prop} (h : Keeps w1 I1 w2 I2) (k : Keeps w2 I2 w3 I3) : Keeps w1 I1 w3 I3 :=
 fun b o hi ho hd => let ⟨a, c⟩ := h b o hi ho hd; k b o a c hd

theorem PRep.mono {w w' : World} {I I' : Nat → Prop} {v : Value} {p : PVal} (h : PRep w I v p) (hk : Keeps w I w' I') : PRep w' I' v p := by
 induction h with
 | int => exact .int ..
 | bool => exact .bool ..
 | flt => exact .flt ..
 | str => exact .str ..
 | nilp => exact .nilp
 | nils => exact .nils _
 | nilm => exact .nilm
 | nilf => exact .nilf
 | nili => exact .nili
 | sl0 => exact .sl0 ..
 | sl b off len cap cur e fr cs hI hb hl hcap _ ih => exact .sl b off len cap cur e fr cs (hk b _ hI hb trivial).1 (hk b _ hI hb trivial).2 hl hcap ih
 | pp b off cur e fr cs hI hb hl _ ih => exact .pp b off cur e fr cs (hk b _ hI hb trivial).1 (hk b _ hI hb trivial).2 hl ih
 | clo f fs cs a b h1 h2 _ _ i1 i2 => exact .clo f fs cs a b h1 h2 i1 i2
 | map r es clock ks vs hI hb h1 h2 _ _ hb1 hb2 i1 i2 => exact .map r es clock ks vs (hk r _ hI hb trivial).1 (hk r _ hI hb trivial).2 h1 h2 i1 i2 hb1 hb2
 | ifc t v p _ ih => exact .ifc t v p ih

theorem PRep.nrm {w : World} {I : Nat → Prop} {v : Value} {p : PVal} (h : PRep w I v p) : PRep w I v (nrm p) := by
 cases h <;> first | (constructor <;> assumption) | constructor

theorem PRep.one {w : World} {I : Nat → Prop} {v : Value} {p : PVal} (h : PRep w I v p) : v.cells = #[v] ∧ (∀ c, v ≠ .agg c) ∧ (∀ c, v ≠ .tuple c) := by
 cases h <;> simp [Value.cells]

/-! values with references -/

def SlRep (mi : Option (Nat × Nat)) (es off len : Nat) (v : Value) : Prop :=
 (len = 0 ∧ ∃ a, v = .slice a 0 0) ∨ (∃ b z cap, mi = some (b, z) ∧ v = .slice (some ⟨b, off, none⟩) len cap ∧ len ≤ cap ∧ off + cap * es ≤ z)

inductive ARep (w : World) (I : Nat → Prop) (m : Mem) (s : Sto) : Value → AVal → Prop
 | p (v p) : PRep w I v p → ARep w I m s v (.p p)
 | any (v) : ARep w I m s v .any
 | ptr (v i ver off o) : get s i = some o → rowO o = true → ver ≤ verO o → (ver = verO o → ∃ b z, m i = some (b, z) ∧ v = .pointer (some ⟨b, off, none⟩)) → v.oneCell' = true → ARep w I m s v (.ptr i ver off)
 | sl (v i ver off len o) : get s i = some o → rowO o = true → ver ≤ verO o → (ver = verO o → SlRep (m i) (esO o) off len v) → v.oneCell' = true → ARep w I m s v (.sl i ver off len)
 | mp (i b z o) : get s i = some o → mapO o = true → m i = some (b, z) → ARep w I m s (.map (some b)) (.mp i)
 | it (i b z o) : get s i = some o → rowO o = false → mapO o = false → m i = some (b, z) → ARep w I m s (.pointer (some ⟨b, 0, none⟩)) (.it i)
 | yld (i b z o) : get s i = some o → rowO o = false → mapO o = false → m i = some (b, z) → ARep w I m s (.func (.yield b) #[] #[]) (.yld i)
 | clo (f : Nat) (fs cs : Array Value) (a b : List AVal) : fs.size = a.length → cs.size = b.length →
   (∀ (j : Nat) u c, fs[j]? = some u → a[j]? = some c → ARep w I m s u c) → (∀ (j : Nat) u c, cs[j]? = some u → b[j]? = some c → ARep w I m s u c) →
   ARep w I m s (.func (.func f) fs cs) (.clo f a b)
 | agg (cs : Array Value) (l : List AVal) : cs.size = l.length → (∀ (j : Nat) u c, cs[j]? = some u → l[j]? = some c → ARep w I m s u c) → ARep w I m s (.agg cs) (.agg l)
 | tup (cs : Array Value) (l : List AVal) : cs.size = l.length → (∀ (j : Nat) u c, cs[j]? = some u → l[j]? = some c → ARep w I m s u c) → ARep w I m s (.tuple cs) (.tup l)

def KeepsO (m : Mem) (s : Sto) (m' : Mem) (s' : Sto) : Prop :=
 ∀ i o, get s i = some o → ∃ o', get s' i = some o' ∧ rowO o' = rowO o ∧ mapO o' = mapO o ∧ verO o ≤ verO o' ∧ (verO o' = verO o → m' i = m i ∧ esO o' = esO o)

theorem KeepsO.refl (m : Mem) (s : Sto) : KeepsO m s m s := fun _ o h => ⟨o, h, rfl, rfl, Nat.le_refl _, fun _ => ⟨rfl, rfl⟩⟩
theorem KeepsO.trans {m1 m2 m3 : Mem} {s1 s2 s3 : Sto} (h : KeepsO m1 s1 m2 s2) (k : KeepsO m2 s2 m3 s3) : KeepsO m1 s1 m3 s3 := by
 intro i o hi
 obtain ⟨o', h1, h2, h3, h4, h5⟩ := h i o hi
 obtain ⟨o'', k1, k2, k3, k4, k5⟩ := k i o' h1
 refine ⟨o'', k1, k2.trans h2, k3.trans h3, Nat.le_trans h4 k4, fun e => ?_⟩
 have e1 : verO o' = verO o := by omega
 have e2 : verO o'' = verO o' := by omega
 exact ⟨(k5 e2).1.trans (h5 e1).1, (k5 e2).2.trans (h5 e1).2⟩

theorem notRow_ver {o : Obj} (h : rowO o = false) : verO o = 0 := by cases o <;> simp_all [rowO, verO]

def KeepsAt (m : Mem) (s : Sto) (m' : Mem) (s' : Sto) (i : Nat) : Prop :=
 ∀ o, get s i = some o → ∃ o', get s' i = some o' ∧ rowO o' = rowO o ∧ mapO o' = mapO o ∧ verO o ≤ verO o' ∧ (verO o' = verO o → m' i = m i ∧ esO o' = esO o)

theorem refs_mem {l : List AVal} {j : Nat} {c : AVal} (h : l[j]? = some c) : ∀ i ∈ refs c, i ∈ refsL l := by
 induction l generalizing j with
 | nil => simp at h
 | cons a r ih =>
  intro i hi
  simp only [refsL, List.mem_append]
  cases j with
  | zero => simp at h; subst h; exact .inl hi
  | succ j => exact .inr (ih (by simpa using h) i hi)

theorem ARep.mono' {w w' : World} {I I' : Nat → Prop} {m m' : Mem} {s s' : Sto} {v : Value} {a : AVal} (h : ARep w I m s v a)
  (hk : Keeps w I w' I') (ho : ∀ i ∈ refs a, KeepsAt m s m' s' i) : ARep w' I' m' s' v a := by
 induction h with
 | p v p h => exact .p _ _ (h.mono hk)
 | any => exact .any _
 | ptr v i ver off o hg hr hv hc h1 =>
  obtain ⟨o', g, r, mp, vo, hs⟩ := ho i (by simp [refs]) o hg
  refine .ptr v i ver off o' g (r.trans hr) (Nat.le_trans hv vo) (fun e => ?_) h1
  have : verO o' = verO o := by omega
  rw [(hs this).1]; exact hc (by omega)
 | sl v i ver off len o hg hr hv hc h1 =>
  obtain ⟨o', g, r, mp, vo, hs⟩ := ho i (by simp [refs]) o hg
  refine .sl v i ver off len o' g (r.trans hr) (Nat.le_trans hv vo) (fun e => ?_) h1
  have : verO o' = verO o := by omega
  rw [(hs this).1, (hs this).2]; exact hc (by omega)
 | mp i b z o hg hr hm =>
  obtain ⟨o', g, r, mp, vo, hs⟩ := ho i (by simp [refs]) o hg
  have : verO o' = verO o := by
   have a1 : rowO o = false := by cases o <;> simp_all [mapO, rowO]
   rw [notRow_ver a1, notRow_ver (r.trans a1)]
  exact .mp i b z o' g (mp.trans hr) ((hs this).1.trans hm)
 | it i b z o hg hr hr2 hm =>
  obtain ⟨o', g, r, mp, vo, hs⟩ := ho i (by simp [refs]) o hg
  have : verO o' = verO o := by rw [notRow_ver hr, notRow_ver (r.trans hr)]
  exact .it i b z o' g (r.trans hr) (mp.trans hr2) ((hs this).1.trans hm)
 | yld i b z o hg hr hr2 hm =>
  obtain ⟨o', g, r, mp, vo, hs⟩ := ho i (by simp [refs]) o hg
  have : verO o' = verO o := by rw [notRow_ver hr, notRow_ver (r.trans hr)]
  exact .yld i b z o' g (r.trans hr) (mp.trans hr2) ((hs this).1.trans hm)
 | clo f fs cs a b h1 h2 _ _ i1 i2 =>
  exact .clo f fs cs a b h1 h2 (fun j u c hu hc => i1 j u c hu hc (fun i hi => ho i (by simp only [refs, List.mem_append]; exact .inl (refs_mem hc i hi))))
   (fun j u c hu hc => i2 j u c hu hc (fun i hi => ho i (by simp only [refs, List.mem_append]; exact .inr (refs_mem hc i hi))))
 | agg cs l h1 _ i1 => exact .agg cs l h1 (fun j u c hu hc => i1 j u c hu hc (fun i hi => ho i (by simp only [refs]; exact refs_mem hc i hi)))
 | tup cs l h1 _ i1 => exact .tup cs l h1 (fun j u c hu hc => i1 j u c hu hc (fun i hi => ho i (by simp only [refs]; exact refs_mem hc i hi)))

theorem ARep.mono {w w' : World} {I I' : Nat → Prop} {m m' : Mem} {s s' : Sto} {v : Value} {a : AVal} (h : ARep w I m s v a)
  (hk : Keeps w I w' I') (ho : KeepsO m s m' s') : ARep w' I' m' s' v a := h.mono' hk (fun i _ o hg => ho i o hg)

theorem ARep.has {w : World} {I : Nat → Prop} {m : Mem} {s : Sto} {v : Value} {a : AVal} (h : ARep w I m s v a) : ∀ i ∈ refs a, ∃ o, get s i = some o := by
 induction h with
 | p => intro i hi; simp [refs] at hi
 | any => intro i hi; simp [refs] at hi
 | ptr v i ver off o hg => intro j hj; simp [refs] at hj; subst hj; exact ⟨o, hg⟩
 | sl v i ver off len o hg => intro j hj; simp [refs] at hj; subst hj; exact ⟨o, hg⟩
 | mp i b z o hg => intro j hj; simp [refs] at hj; subst hj; exact ⟨o, hg⟩
 | it i b z o hg => intro j hj; simp [refs] at hj; subst hj; exact ⟨o, hg⟩
 | yld i b z o hg => intro j hj; simp [refs] at hj; subst hj; exact ⟨o, hg⟩
 | clo f fs cs a b h1 h2 _ _ i1 i2 =>
  intro i hi
  simp only [refs, List.mem_append] at hi
  rcases hi with hi | hi
  ·obtain ⟨j, c, hj, hc⟩ := refsL_mem hi
   exact i1 j fs[j]! c (by have := (List.getElem?_eq_some_iff.1 hj).1; rw [Array.getElem?_eq_getElem (by omega)]; simp [getElem!_pos, show j < fs.size by omega]) hj i hc
  ·obtain ⟨j, c, hj, hc⟩ := refsL_mem hi
   exact i2 j cs[j]! c (by have := (List.getElem?_eq_some_iff.1 hj).1; rw [Array.getElem?_eq_getElem (by omega)]; simp [getElem!_pos, show j < cs.size by omega]) hj i hc
 | agg cs l h1 _ i1 =>
  intro i hi
  simp only [refs] at hi
  obtain ⟨j, c, hj, hc⟩ := refsL_mem hi
  exact i1 j cs[j]! c (by have := (List.getElem?_eq_some_iff.1 hj).1; rw [Array.getElem?_eq_getElem (by omega)]; simp [getElem!_pos, show j < cs.size by omega]) hj i hc
 | tup cs l h1 _ i1 =>
  intro i hi
  simp only [refs] at hi
  obtain ⟨j, c, hj, hc⟩ := refsL_mem hi
  exact i1 j cs[j]! c (by have := (List.getElem?_eq_some_iff.1 hj).1; rw [Array.getElem?_eq_getElem (by omega)]; simp [getElem!_pos, show j < cs.size by omega]) hj i hc
  where
 refsL_mem {l : List AVal} {i : Nat} (h : i ∈ refsL l) : ∃ (j : Nat) (c : AVal), l[j]? = some c ∧ i ∈ refs c := by
  induction l with
  | nil => simp [refsL] at h
  | cons a r ih =>
   simp only [refsL, List.mem_append] at h
   rcases h with h | h
   ·exact ⟨0, a, rfl, h⟩
   ·obtain ⟨j, c, hj, hc⟩ := ih h; exact ⟨j + 1, c, by simpa using hj, hc⟩

end Fw
end

section
/-
  A store stands for a part of memory; what a step may change; purifying, freezing, forgetting.
-/
namespace Fw
open Go

def upd (m : Mem) (i : Nat) (x : Option (Nat × Nat)) : Mem := fun j => if j = i then x else m j
theorem upd_same (m : Mem) (i : Nat) (x) : upd m i x i = x := by simp [upd]
theorem upd_ne (m : Mem) {i j : Nat} (x) (h : j ≠ i) : upd m i x j = m j := by simp [upd, h]

def EnvRep (w : World) (I : Nat → Prop) (m : Mem) (s : Sto) (tm : Array Value) (env : Env) : Prop := ∀ t, ARep w I m s (tm.getD t undef) (look env t)

def NoFrz (fr : Nat × Nat) (z : Nat) : Prop := ∀ j, j < z → (fr.1 ≤ j && j < fr.2) = false

def CellsP (w : World) (I : Nat → Prop) (cur : Array Value) (cs : List PVal) : Prop := ∀ (j : Nat) u c, cur[j]? = some u → cs[j]? = some c → PRep w I u c
def CellsA (w : World) (I : Nat → Prop) (m : Mem) (s : Sto) (cur : Array Value) (cs : List AVal) : Prop := ∀ (j : Nat) u c, cur[j]? = some u → cs[j]? = some c → ARep w I m s u c

def MapRep (w : World) (I : Nat → Prop) (es : Array MapEntry) (clock : Nat) (ks vs : List PVal) : Prop :=
 es.size = ks.length ∧ es.size = vs.length ∧ (∀ (j : Nat) e k, es[j]? = some e → ks[j]? = some k → PRep w I e.key k) ∧ (∀ (j : Nat) e v, es[j]? = some e → vs[j]? = some v → PRep w I e.val v) ∧
 (∀ (j : Nat) e, es[j]? = some e → e.born < clock) ∧ (es.toList.map (·.born)).Nodup

def EntriesRep (w : World) (I : Nat → Prop) (es : List MapEntry) (ks vs : List PVal) : Prop :=
 es.length = ks.length ∧ es.length = vs.length ∧ (∀ (j : Nat) e k, es[j]? = some e → ks[j]? = some k → PRep w I e.key k) ∧ (∀ (j : Nat) e v, es[j]? = some e → vs[j]? = some v → PRep w I e.val v)

def left (es : Array MapEntry) (seen : Array Nat) : List MapEntry := (es.filter fun e => !seen.contains e.born).toList

def IterRep (w : World) (I : Nat → Prop) (o : Go.Obj) (ks vs : List PVal) (cur : Option (PVal × PVal)) : Prop :=
 (∃ a s c, o = .mapIter none a s c ∧ ks = [] ∧ vs = [] ∧ cur = none) ∨
 ∃ r es clock seen, o = .mapIter (some r) clock seen clock ∧ I r ∧ w.heap[r]? = some (.map es clock) ∧ (∀ (j : Nat) e, es[j]? = some e → e.born < clock) ∧ (es.toList.map (·.born)).Nodup ∧
  EntriesRep w I (left es seen) ks vs ∧
  (cur = none ∨ ∃ e k v, cur = some (k, v) ∧ e ∈ es.toList ∧ seen.back? = some e.born ∧ PRep w I e.key k ∧ PRep w I e.val v)

def stOf : Nat → LoopState
 | 0 => .ready
 | 1 => .busy
 | 2 => .done
 | _ => .exhausted

def JRep : Option Code → Option ACode → Prop
 | none, none => True
 | some (.exit i), some (.exit j) => i = j
 | some .ret, some .ret => True
 | _, _ => False

section
variable (CM : Nat → Code → ACode → Prop)

def ORep (w : World) (I : Nat → Prop) (m : Mem) (s : Sto) (i : Nat) : Obj → Prop
 | .arr cs _ _ => (m i = none ∧ cs = []) ∨ ∃ b z cur e fr, m i = some (b, z) ∧ w.heap[b]? = some (.cells cur e fr) ∧ NoFrz fr z ∧ cur.size = z ∧ cs.length ≤ z ∧ CellsP w I cur cs
 | .frz cs _ _ => (m i = none ∧ cs = []) ∨ ∃ b z cur e fr, m i = some (b, z) ∧ w.heap[b]? = some (.cells cur e fr) ∧ I b ∧ cur.size = z ∧ cs.length ≤ z ∧ CellsP w I cur cs
 | .box cs => ∃ b z cur e fr, m i = some (b, z) ∧ w.heap[b]? = some (.cells cur e fr) ∧ NoFrz fr z ∧ cur.size = z ∧ cs.length = z ∧ CellsA w I m s cur cs
 | .map ks vs => ∃ b z es clock, m i = some (b, z) ∧ w.heap[b]? = some (.map es clock) ∧ MapRep w I es clock ks vs
 | .fmap ks vs => ∃ b z es clock, m i = some (b, z) ∧ w.heap[b]? = some (.map es clock) ∧ I b ∧ MapRep w I es clock ks vs
 | .siter l pos => ∃ b z st, m i = some (b, z) ∧ w.heap[b]? = some (.stringIter st pos) ∧ st.data.toList = l
 | .miter ks vs cur => ∃ b z o, m i = some (b, z) ∧ w.heap[b]? = some o ∧ IterRep w I o ks vs cur
 | .loop env ps as b j st => ∃ bk z lp, m i = some (bk, z) ∧ w.heap[bk]? = some (.loop lp) ∧ lp.params.toList = ps ∧ (∀ p ∈ ps, p < lp.tmps.size) ∧ CM lp.tmps.size lp.assign as ∧ CM lp.tmps.size lp.body b ∧
   EnvRep w I m s lp.tmps env ∧ JRep lp.pending j ∧ lp.state = stOf st

structure SRep (base : Nat) (Im0 : Nat → Prop) (w : World) (m : Mem) (s : Sto) : Prop where
 keys : keysDesc s
 obj : ∀ i o, get s i = some o → ORep CM w (Im base Im0 m s) m s i o
 inj : ∀ i j o o' b z z', get s i = some o → get s j = some o' → m i = some (b, z) → m j = some (b, z') → i = j
 rng : ∀ i o b z, get s i = some o → m i = some (b, z) → base ≤ b ∧ b < w.heap.size

structure Evo (lo : Nat) (w : World) (m : Mem) (s : Sto) (w' : World) (m' : Mem) (s' : Sto) : Prop where
 os : w'.os = w.os
 tape : w'.tape = w.tape
 output : w'.output = w.output
 size : w.heap.size ≤ w'.heap.size
 keep : ∀ (b : Nat) (o : Go.Obj), w.heap[b]? = some o → ¬ Own m s b → w'.heap[b]? = some o
 own : ∀ b, b < w.heap.size → Own m' s' b → Own m s b
 obj : ∀ i, i < lo → KeepsAt m s m' s' i
 loops : ∀ (b : Nat) (lp : Loop), w.heap[b]? = some (Go.Obj.loop lp) → ∃ lp', w'.heap[b]? = some (Go.Obj.loop lp')

variable {CM}

theorem Evo.refl (lo : Nat) (w : World) (m : Mem) (s : Sto) : Evo lo w m s w m s :=
 ⟨rfl, rfl, rfl, Nat.le_refl _, fun _ _ h _ => h, fun _ _ h => h, fun _ _ o h => ⟨o, h, rfl, rfl, Nat.le_refl _, fun _ => ⟨rfl, rfl⟩⟩, fun _ lp h => ⟨lp, h⟩⟩

theorem KeepsAt.trans {m1 m2 m3 : Mem} {s1 s2 s3 : Sto} {i : Nat} (h : KeepsAt m1 s1 m2 s2 i) (k : KeepsAt m2 s2 m3 s3 i) : KeepsAt m1 s1 m3 s3 i := by
 intro o hi
 obtain ⟨o', h1, h2, h3, h4, h5⟩ := h o hi
 obtain ⟨o'', k1, k2, k3, k4, k5⟩ := k o' h1
 refine ⟨o'', k1, k2.trans h2, k3.trans h3, Nat.le_trans h4 k4, fun e => ?_⟩
 have e1 : verO o' = verO o := by omega
 have e2 : verO o'' = verO o' := by omega
 exact ⟨(k5 e2).1.trans (h5 e1).1, (k5 e2).2.trans (h5 e1).2⟩

theorem heap_lt {w : World} {b : Nat} {o : Go.Obj} (h : w.heap[b]? = some o) : b < w.heap.size := (Array.getElem?_eq_some_iff.1 h).1

theorem Evo.trans {lo : Nat} {w1 w2 w3 : World} {m1 m2 m3 : Mem} {s1 s2 s3 : Sto} (h : Evo lo w1 m1 s1 w2 m2 s2) (k : Evo lo w2 m2 s2 w3 m3 s3) : Evo lo w1 m1 s1 w3 m3 s3 where
 os := k.os.trans h.os
 tape := k.tape.trans h.tape
 output := k.output.trans h.output
 size := Nat.le_trans h.size k.size
 keep b o hb hn := k.keep b o (h.keep b o hb hn) (fun ho => hn (h.own b (heap_lt hb) ho))
 own b hb ho := h.own b hb (k.own b (Nat.lt_of_lt_of_le hb h.size) ho)
 obj i hi := (h.obj i hi).trans (k.obj i hi)
 loops b lp hb := let ⟨lp', h'⟩ := h.loops b lp hb; k.loops b lp' h'

theorem Evo.mono {lo lo' : Nat} {w w' : World} {m m' : Mem} {s s' : Sto} (h : Evo lo w m s w' m' s') (hl : ∀ i o, i < lo' → get s i = some o → i < lo) : Evo lo' w m s w' m' s' :=
 ⟨h.os, h.tape, h.output, h.size, h.keep, h.own, fun i hi o hg => h.obj i (hl i o hi hg) o hg, h.loops⟩

theorem Evo.keeps {lo base : Nat} {Im0 : Nat → Prop} {w w' : World} {m m' : Mem} {s s' : Sto} (h : Evo lo w m s w' m' s') : Keeps w (Im base Im0 m s) w' (Im base Im0 m' s') :=
 fun b o hi hb _ => ⟨⟨hi.1, fun ho => hi.2 (h.own b (heap_lt hb) ho)⟩, h.keep b o hb hi.2⟩

theorem EnvRep.evo {base lo : Nat} {Im0 : Nat → Prop} {w w' : World} {m m' : Mem} {s s' : Sto} {tm : Array Value} {env : Env} (h : EnvRep w (Im base Im0 m s) m s tm env)
  (ev : Evo lo w m s w' m' s') (hlo : ∀ i o, get s i = some o → i < lo) : EnvRep w' (Im base Im0 m' s') m' s' tm env :=
 fun t => (h t).mono ev.keeps (fun i o hg => ev.obj i (hlo i o hg) o hg)

theorem ARep.evo {base lo : Nat} {Im0 : Nat → Prop} {w w' : World} {m m' : Mem} {s s' : Sto} {v : Value} {a : AVal} (h : ARep w (Im base Im0 m s) m s v a)
  (ev : Evo lo w m s w' m' s') (hlo : ∀ i o, get s i = some o → i < lo) : ARep w' (Im base Im0 m' s') m' s' v a :=
 h.mono ev.keeps (fun i o hg => ev.obj i (hlo i o hg) o hg)

theorem CellsP.mono {w w' : World} {I I' : Nat → Prop} {cur : Array Value} {cs : List PVal} (h : CellsP w I cur cs) (hk : Keeps w I w' I') : CellsP w' I' cur cs :=
 fun j u c hu hc => (h j u c hu hc).mono hk

theorem MapRep.mono {w w' : World} {I I' : Nat → Prop} {es : Array MapEntry} {clock : Nat} {ks vs : List PVal} (h : MapRep w I es clock ks vs) (hk : Keeps w I w' I') : MapRep w' I' es clock ks vs :=
 ⟨h.1, h.2.1, fun j e k a b => (h.2.2.1 j e k a b).mono hk, fun j e k a b => (h.2.2.2.1 j e k a b).mono hk, h.2.2.2.2.1, h.2.2.2.2.2⟩

theorem EntriesRep.mono {w w' : World} {I I' : Nat → Prop} {es : List MapEntry} {ks vs : List PVal} (h : EntriesRep w I es ks vs) (hk : Keeps w I w' I') : EntriesRep w' I' es ks vs :=
 ⟨h.1, h.2.1, fun j e k a b => (h.2.2.1 j e k a b).mono hk, fun j e k a b => (h.2.2.2 j e k a b).mono hk⟩

theorem IterRep.mono {w w' : World} {I I' : Nat → Prop} {o : Go.Obj} {ks vs : List PVal} {cur : Option (PVal × PVal)} (h : IterRep w I o ks vs cur) (hk : Keeps w I w' I') : IterRep w' I' o ks vs cur := by
 rcases h with h | ⟨r, es, clock, seen, h1, h2, h3, h4, h5, h6, h7⟩
 ·exact .inl h
 ·refine .inr ⟨r, es, clock, seen, h1, (hk r _ h2 h3 trivial).1, (hk r _ h2 h3 trivial).2, h4, h5, h6.mono hk, ?_⟩
  rcases h7 with h7 | ⟨e, k, v, a1, a2, a3, a4, a5⟩
  ·exact .inl h7
  ·exact .inr ⟨e, k, v, a1, a2, a3, a4.mono hk, a5.mono hk⟩

theorem refsE_mem {env : Env} {t i : Nat} (h : i ∈ refs (look env t)) : i ∈ refsE env := by
 induction env with
 | nil => simp [look, refs] at h
 | cons x r ih =>
  obtain ⟨k, v⟩ := x
  simp only [look] at h
  simp only [refsE, List.flatMap_cons, List.mem_append]
  split at h
  ·exact .inl h
  ·exact .inr (ih h)

theorem ORep.mono {w w' : World} {I I' : Nat → Prop} {m m' : Mem} {s s' : Sto} {i : Nat} {o : Obj} (h : ORep CM w I m s i o) (hk : Keeps w I w' I')
  (ho : ∀ j ∈ refsO o, KeepsAt m s m' s' j) (hm : m' i = m i) (hb : ∀ b z, m i = some (b, z) → w'.heap[b]? = w.heap[b]?) : ORep CM w' I' m' s' i o := by
 cases o with
 | arr cs v es =>
  rcases h with h | ⟨b, z, cur, e, fr, h1, h2, h3, h4, h5, h6⟩
  ·exact .inl ⟨hm.trans h.1, h.2⟩
  ·exact .inr ⟨b, z, cur, e, fr, hm.trans h1, (hb b z h1).trans h2, h3, h4, h5, h6.mono hk⟩
 | frz cs v es =>
  rcases h with h | ⟨b, z, cur, e, fr, h1, h2, h3, h4, h5, h6⟩
  ·exact .inl ⟨hm.trans h.1, h.2⟩
  ·exact .inr ⟨b, z, cur, e, fr, hm.trans h1, (hb b z h1).trans h2, (hk b _ h3 h2 trivial).1, h4, h5, h6.mono hk⟩
 | box cs =>
  obtain ⟨b, z, cur, e, fr, h1, h2, h3, h4, h5, h6⟩ := h
  exact ⟨b, z, cur, e, fr, hm.trans h1, (hb b z h1).trans h2, h3, h4, h5, fun j u c hu hc => (h6 j u c hu hc).mono' hk (fun i hi => ho i (by simp only [refsO]; exact refs_mem hc i hi))⟩
 | map ks vs =>
  obtain ⟨b, z, es, clock, h1, h2, h3⟩ := h
  exact ⟨b, z, es, clock, hm.trans h1, (hb b z h1).trans h2, h3.mono hk⟩
 | fmap ks vs =>
  obtain ⟨b, z, es, clock, h1, h2, h3, h4⟩ := h
  exact ⟨b, z, es, clock, hm.trans h1, (hb b z h1).trans h2, (hk b _ h3 h2 trivial).1, h4.mono hk⟩
 | siter l pos =>
  obtain ⟨b, z, st, h1, h2, h3⟩ := h
  exact ⟨b, z, st, hm.trans h1, (hb b z h1).trans h2, h3⟩
 | miter ks vs cur =>
  obtain ⟨b, z, ob, h1, h2, h3⟩ := h
  exact ⟨b, z, ob, hm.trans h1, (hb b z h1).trans h2, h3.mono hk⟩
 | loop env ps as b j st =>
  obtain ⟨bk, z, lp, h1, h2, h3, h4, h5, h6, h7, h8, h9⟩ := h
  exact ⟨bk, z, lp, hm.trans h1, (hb bk z h1).trans h2, h3, h4, h5, h6, fun t => (h7 t).mono' hk (fun i hi => ho i (by simp only [refsO]; exact refsE_mem hi)), h8, h9⟩

theorem Im.keeps_own {base : Nat} {Im0 : Nat → Prop} {m m' : Mem} {s s' : Sto} {b : Nat} (h : Im base Im0 m s b) (ho : Own m' s' b → Own m s b) : Im base Im0 m' s' b := ⟨h.1, fun x => h.2 (ho x)⟩

structure Ext (w w' : World) : Prop where
 os : w'.os = w.os
 tape : w'.tape = w.tape
 output : w'.output = w.output
 size : w.heap.size ≤ w'.heap.size
 same : ∀ b, b < w.heap.size → w'.heap[b]? = w.heap[b]?

theorem Ext.refl (w : World) : Ext w w := ⟨rfl, rfl, rfl, Nat.le_refl _, fun _ _ => rfl⟩
theorem Ext.trans {a b c : World} (h : Ext a b) (k : Ext b c) : Ext a c := ⟨k.os.trans h.os, k.tape.trans h.tape, k.output.trans h.output, Nat.le_trans h.size k.size, fun i hi => (k.same i (Nat.lt_of_lt_of_le hi h.size)).trans (h.same i hi)⟩
theorem Ext.heap {w w' : World} (h : Ext w w') {b : Nat} {o : Go.Obj} (hb : w.heap[b]? = some o) : w'.heap[b]? = some o := (h.same b (heap_lt hb)).trans hb
theorem Ext.alloc (w : World) (o : Go.Obj) : Ext w (w.alloc o) :=
 ⟨rfl, rfl, rfl, by simp, fun b hb => by show (w.heap.push o)[b]? = _; rw [Array.getElem?_push, if_neg (by omega)]⟩
theorem Ext.drew (w : World) : Ext w w.drew := ⟨rfl, rfl, rfl, Nat.le_refl _, fun _ _ => rfl⟩
theorem alloc_new (w : World) (o : Go.Obj) : (w.alloc o).heap[w.heap.size]? = some o := by show (w.heap.push o)[_]? = _; simp

theorem Ext.evo {w w' : World} (h : Ext w w') (lo : Nat) (m : Mem) (s : Sto) : Evo lo w m s w' m s :=
 ⟨h.os, h.tape, h.output, h.size, fun _ _ hb _ => h.heap hb, fun _ _ ho => ho, fun _ _ o hg => ⟨o, hg, rfl, rfl, Nat.le_refl _, fun _ => ⟨rfl, rfl⟩⟩, fun _ lp hb => ⟨lp, h.heap hb⟩⟩

theorem SRep.ext {base : Nat} {Im0 : Nat → Prop} {w w' : World} {m : Mem} {s : Sto} (h : SRep CM base Im0 w m s) (e : Ext w w') : SRep CM base Im0 w' m s where
 keys := h.keys
 obj i o hg := (h.obj i o hg).mono (e.evo 0 m s).keeps (fun _j _ o hg => ⟨o, hg, rfl, rfl, Nat.le_refl _, fun _ => ⟨rfl, rfl⟩⟩) rfl (fun b z hm => e.same b (h.rng i o b z hg hm).2)
 inj := h.inj
 rng i o b z hg hm := ⟨(h.rng i o b z hg hm).1, Nat.lt_of_lt_of_le (h.rng i o b z hg hm).2 e.size⟩

theorem Own.new {m : Mem} {s : Sto} (_hk : keysDesc s) {o : Obj} {x : Option (Nat × Nat)} {b : Nat} (h : Own (upd m (nextId s) x) ((nextId s, o) :: s) b) : Own m s b ∨ ∃ z, x = some (b, z) := by
 obtain ⟨i, p, z, h1, h2, h3⟩ := h
 rw [get_new] at h1
 split at h1
 ·rename_i e; subst e; rw [upd_same] at h3; exact .inr ⟨z, h3⟩
 ·rename_i e; rw [upd_ne _ _ (Ne.symm e)] at h3; exact .inl ⟨i, p, z, h1, h2, h3⟩

theorem SRep.new {base : Nat} {Im0 : Nat → Prop} {w w' : World} {m : Mem} {s : Sto} (h : SRep CM base Im0 w m s) (e : Ext w w') (hbase : base ≤ w.heap.size) (o : Obj) (x : Option (Nat × Nat))
  (hx : ∀ b z, x = some (b, z) → w.heap.size ≤ b ∧ b < w'.heap.size)
  (ho : ∀ I' m' s', Keeps w (Im base Im0 m s) w' I' → KeepsO m s m' s' → get s' (nextId s) = some o → m' (nextId s) = x → (∀ b z, x = some (b, z) → mutO o = false → I' b) → ORep CM w' I' m' s' (nextId s) o) :
  SRep CM base Im0 w' (upd m (nextId s) x) ((nextId s, o) :: s) ∧ (∀ lo, Evo lo w m s w' (upd m (nextId s) x) ((nextId s, o) :: s)) := by
 have hko : KeepsO m s (upd m (nextId s) x) ((nextId s, o) :: s) := fun i p hg => by
  have : i ≠ nextId s := Nat.ne_of_lt (get_lt h.keys hg)
  exact ⟨p, by rw [get_new, if_neg (Ne.symm this)]; exact hg, rfl, rfl, Nat.le_refl _, fun _ => ⟨upd_ne _ _ this, rfl⟩⟩
 have hev : ∀ lo, Evo lo w m s w' (upd m (nextId s) x) ((nextId s, o) :: s) := fun lo =>
  ⟨e.os, e.tape, e.output, e.size, fun _ _ hb _ => e.heap hb, fun b hb hw => by
   rcases Own.new h.keys hw with hw | ⟨z, hz⟩
   ·exact hw
   ·have := (hx b z hz).1; omega, fun i _ p hg => hko i p hg, fun _ lp hb => ⟨lp, e.heap hb⟩⟩
 refine ⟨⟨keysDesc_new h.keys o, fun i p hg => ?_, fun i j p q b z z' hi hj hmi hmj => ?_, fun i p b z hi hm => ?_⟩, hev⟩
 ·rw [get_new] at hg
  split at hg
  ·rename_i e1; subst e1; cases hg
   refine ho _ _ _ (hev 0).keeps hko (by rw [get_new, if_pos rfl]) (upd_same _ _ _) (fun b z hz hmu => ⟨fun hlt => absurd (hx b z hz).1 (by omega), fun hw => ?_⟩)
   obtain ⟨i, q, z', g1, g2, g3⟩ := hw
   rw [get_new] at g1
   split at g1
   ·cases g1; rw [hmu] at g2; cases g2
   ·rename_i hne
    rw [upd_ne _ _ (Ne.symm hne)] at g3
    have := (h.rng i q b z' g1 g3).2
    have := (hx b z hz).1
    omega
  ·rename_i e1
   exact (h.obj i p hg).mono (hev 0).keeps (fun j _ q hq => hko j q hq) (upd_ne _ _ (Ne.symm e1)) (fun b z hm => e.same b (h.rng i p b z hg hm).2)
 ·rw [get_new] at hi hj
  split at hi <;> split at hj
  ·rename_i e1 e2; omega
  ·rename_i e1 e2
   subst e1
   rw [upd_same] at hmi
   rw [upd_ne _ _ (Ne.symm e2)] at hmj
   have := (hx b z hmi).1
   have := (h.rng j q b z' hj hmj).2
   omega
  ·rename_i e1 e2
   subst e2
   rw [upd_same] at hmj
   rw [upd_ne _ _ (Ne.symm e1)] at hmi
   have := (hx b z' hmj).1
   have := (h.rng i p b z hi hmi).2
   omega
  ·rename_i e1 e2
   rw [upd_ne _ _ (Ne.symm e1)] at hmi
   rw [upd_ne _ _ (Ne.symm e2)] at hmj
   exact h.inj i j p q b z z' hi hj hmi hmj
 ·rw [get_new] at hi
  split at hi
  ·rename_i e1; subst e1; rw [upd_same] at hm; have := hx b z hm; omega
  ·rename_i e1; rw [upd_ne _ _ (Ne.symm e1)] at hm; have := h.rng i p b z hi hm; have := e.size; omega

theorem SRep.put {base : Nat} {Im0 : Nat → Prop} {w w' : World} {m : Mem} {s : Sto} (h : SRep CM base Im0 w m s) {i : Nat} {o o' : Obj} (hg : get s i = some o) (x : Option (Nat × Nat))
  (hos : w'.os = w.os) (htape : w'.tape = w.tape) (hout : w'.output = w.output) (hsize : w.heap.size ≤ w'.heap.size)
  (hsame : ∀ b, b < w.heap.size → (∀ z, m i = some (b, z) → mutO o = false) → w'.heap[b]? = w.heap[b]?)
  (hloops : ∀ (b z : Nat) (lp : Loop), m i = some (b, z) → w.heap[b]? = some (Go.Obj.loop lp) → ∃ lp', w'.heap[b]? = some (Go.Obj.loop lp'))
  (hx : ∀ b z, x = some (b, z) → (∃ z', m i = some (b, z')) ∨ (w.heap.size ≤ b ∧ b < w'.heap.size ∧ base ≤ b))
  (hrow : rowO o' = rowO o) (hmap : mapO o' = mapO o) (hver : verO o ≤ verO o') (hsv : verO o' = verO o → x = m i ∧ esO o' = esO o) (hmut : mutO o' = true → mutO o = true)
  (ho : ∀ I', Keeps w (Im base Im0 m s) w' I' → KeepsO m s (upd m i x) (Fw.put s i o') → (∀ b z, x = some (b, z) → mutO o' = false → I' b) → ORep CM w' I' (upd m i x) (Fw.put s i o') i o') :
  SRep CM base Im0 w' (upd m i x) (Fw.put s i o') ∧ (∀ lo, Evo lo w m s w' (upd m i x) (Fw.put s i o')) := by
 have hgp : ∀ j, get (Fw.put s i o') j = if i = j then some o' else get s j := fun j => by
  rw [get_put]; split
  ·rename_i e; subst e; rw [hg]; rfl
  ·rfl
 have hko : KeepsO m s (upd m i x) (Fw.put s i o') := fun j p hj => by
  by_cases e : i = j
  ·subst e
   rw [hg] at hj; cases hj
   exact ⟨o', by rw [hgp, if_pos rfl], hrow, hmap, hver, fun e => ⟨(upd_same _ _ _).trans (hsv e).1, (hsv e).2⟩⟩
  ·exact ⟨p, by rw [hgp, if_neg e]; exact hj, rfl, rfl, Nat.le_refl _, fun _ => ⟨upd_ne _ _ (Ne.symm e), rfl⟩⟩
 have hown : ∀ b, b < w.heap.size → Own (upd m i x) (Fw.put s i o') b → Own m s b := by
  rintro b hb ⟨j, p, z, h1, h2, h3⟩
  rw [hgp] at h1
  split at h1
  ·rename_i e; subst e; cases h1
   rw [upd_same] at h3
   rcases hx b z h3 with ⟨z', hz⟩ | ⟨hz, _⟩
   ·exact ⟨i, o, z', hg, hmut h2, hz⟩
   ·omega
  ·rename_i e
   rw [upd_ne _ _ (Ne.symm e)] at h3
   exact ⟨j, p, z, h1, h2, h3⟩
 have hkeep : ∀ b p, w.heap[b]? = some p → ¬ Own m s b → w'.heap[b]? = some p := fun b p hb hn => by
  rw [hsame b (heap_lt hb) (fun z hz => by
   cases hmu : mutO o with
   | false => rfl
   | true => exact absurd ⟨i, o, z, hg, hmu, hz⟩ hn)]
  exact hb
 have hev : ∀ lo, Evo lo w m s w' (upd m i x) (Fw.put s i o') := fun lo =>
  ⟨hos, htape, hout, hsize, hkeep, hown, fun j _ p hj => hko j p hj, fun b lp hb => by
   by_cases hz : ∃ z, m i = some (b, z)
   ·obtain ⟨z, hz⟩ := hz; exact hloops b z lp hz hb
   ·exact ⟨lp, (hsame b (heap_lt hb) (fun z hz' => absurd ⟨z, hz'⟩ hz)).trans hb⟩⟩
 refine ⟨⟨keysDesc_put h.keys i o', fun j p hj => ?_, fun j k p q b z z' hj hk hmj hmk => ?_, fun j p b z hj hm => ?_⟩, hev⟩
 ·rw [hgp] at hj
  split at hj
  ·rename_i e; subst e; cases hj
   refine ho _ (hev 0).keeps hko (fun b z hz hmu => ⟨fun hlt => ?_, fun hw => ?_⟩)
   ·rcases hx b z hz with ⟨z', hz'⟩ | ⟨_, _, hz'⟩
    ·have := (h.rng i o b z' hg hz').1; omega
    ·omega
   ·obtain ⟨j, q, z2, g1, g2, g3⟩ := hw
    rw [hgp] at g1
    split at g1
    ·cases g1; rw [hmu] at g2; cases g2
    ·rename_i hne
     rw [upd_ne _ _ (Ne.symm hne)] at g3
     rcases hx b z hz with ⟨z', hz'⟩ | ⟨hz', _⟩
     ·exact hne (h.inj i j o q b z' z2 hg g1 hz' g3)
     ·have := (h.rng j q b z2 g1 g3).2; omega
  ·rename_i e
   refine (h.obj j p hj).mono (hev 0).keeps (fun k _ q hq => hko k q hq) (upd_ne _ _ (Ne.symm e)) (fun b z hm => hsame b (h.rng j p b z hj hm).2 (fun z' hz' => absurd (h.inj i j o p b z' z hg hj hz' hm) e))
 ·rw [hgp] at hj hk
  split at hj <;> split at hk
  ·rename_i e1 e2; omega
  ·rename_i e1 e2
   subst e1
   rw [upd_same] at hmj
   rw [upd_ne _ _ (Ne.symm e2)] at hmk
   rcases hx b z hmj with ⟨z2, hz2⟩ | ⟨hz2, _⟩
   ·exact h.inj i k o q b z2 z' hg hk hz2 hmk
   ·have := (h.rng k q b z' hk hmk).2; omega
  ·rename_i e1 e2
   subst e2
   rw [upd_same] at hmk
   rw [upd_ne _ _ (Ne.symm e1)] at hmj
   rcases hx b z' hmk with ⟨z2, hz2⟩ | ⟨hz2, _⟩
   ·exact (h.inj i j o p b z2 z hg hj hz2 hmj).symm
   ·have := (h.rng j p b z hj hmj).2; omega
  ·rename_i e1 e2
   rw [upd_ne _ _ (Ne.symm e1)] at hmj
   rw [upd_ne _ _ (Ne.symm e2)] at hmk
   exact h.inj j k p q b z z' hj hk hmj hmk
 ·rw [hgp] at hj
  split at hj
  ·rename_i e; subst e
   rw [upd_same] at hm
   rcases hx b z hm with ⟨z2, hz2⟩ | ⟨hz2, hz3, hz4⟩
   ·have := h.rng i o b z2 hg hz2; omega
   ·omega
  ·rename_i e
   rw [upd_ne _ _ (Ne.symm e)] at hm
   have := h.rng j p b z hj hm; omega

end
end Fw
end

section
/-
  Purifying, freezing, forgetting.
-/
namespace Fw
open Go

theorem mapM_spec {α β : Type} {f : α → Option β} : ∀ {l : List α} {r : List β}, l.mapM f = some r → r.length = l.length ∧ ∀ (j : Nat) a p, l[j]? = some a → r[j]? = some p → f a = some p := by
 intro l
 induction l with
 | nil => intro r h; simp at h; subst h; simp
 | cons x t ih =>
  intro r h
  rw [List.mapM_cons] at h
  cases hx : f x with
  | none => rw [hx] at h; simp at h
  | some y =>
   rw [hx] at h
   cases ht : t.mapM f with
   | none => rw [ht] at h; simp at h
   | some r' =>
    rw [ht] at h
    simp at h
    subst h
    obtain ⟨h1, h2⟩ := ih ht
    refine ⟨by simp [h1], fun j a p ha hp => ?_⟩
    cases j with
    | zero => simp at ha hp; subst ha hp; exact hx
    | succ j => exact h2 j a p (by simpa using ha) (by simpa using hp)

theorem getElem?_of_lt {α : Type} (l : List α) (j : Nat) (h : j < l.length) : ∃ a, l[j]? = some a := ⟨l[j], List.getElem?_eq_getElem h⟩
theorem agetElem?_of_lt {α : Type} (l : Array α) (j : Nat) (h : j < l.size) : ∃ a, l[j]? = some a := ⟨l[j], Array.getElem?_eq_getElem h⟩
theorem lt_of_some {α : Type} {l : List α} {j : Nat} {a : α} (h : l[j]? = some a) : j < l.length := (List.getElem?_eq_some_iff.1 h).1
theorem alt_of_some {α : Type} {l : Array α} {j : Nat} {a : α} (h : l[j]? = some a) : j < l.size := (Array.getElem?_eq_some_iff.1 h).1

theorem PRep.toJ {w : World} {I J : Nat → Prop} (hI : ∀ b, I b → J b) {v : Value} {p : PVal} (h : PRep w I v p) : PRep w J v p := h.mono (fun b _ hi hb _ => ⟨hI b hi, hb⟩)

theorem cut_rep {w : World} {J : Nat → Prop} {b z : Nat} {cur : Array Value} {e : Nat} {fr : Nat × Nat} {cs : List PVal} {off len es : Nat} {v : Value} (hb : w.heap[b]? = some (.cells cur e fr)) (hJ : J b)
  (hz : cur.size = z) (hl : cs.length ≤ z) (hc : CellsP w J cur cs) (hbd : off + len * es ≤ cs.length) (hs : SlRep (some (b, z)) es off len v) : PRep w J v (cut cs off len es) := by
 rcases hs with ⟨rfl, a, rfl⟩ | ⟨b', z', cap, hm, rfl, h1, h2⟩
 ·unfold cut
  split
  ·rename_i h
   have : cs = [] := List.eq_nil_of_length_eq_zero (by omega)
   subst this; exact .sl0 ..
  ·simp; exact .sl0 ..
 ·cases hm
  unfold cut
  split
  ·rename_i h
   obtain ⟨rfl, hl2⟩ := h
   exact .sl b 0 len cap cur e fr cs hJ hb (by omega) h1 (fun j u c hu hcc => hc j u c (by simpa using hu) hcc)
  ·refine .sl b off len cap cur e fr _ hJ hb (by simp; omega) h1 (fun j u c hu hcc => ?_)
   rw [List.getElem?_take] at hcc
   split at hcc
   ·rw [List.getElem?_drop] at hcc; exact hc _ u c hu hcc
   ·cases hcc

section
variable {CM : Nat → Code → ACode → Prop} {base : Nat} {Im0 : Nat → Prop} {w : World} {m : Mem} {s : Sto}

theorem toP_rep (h : SRep CM base Im0 w m s) (fr : Bool) (J : Nat → Prop) (hI : ∀ b, Im base Im0 m s b → J b) (hJ : fr = false → ∀ b, Own m s b → J b) :
  ∀ (d : Nat) (v : Value) (a : AVal) (p : PVal), ARep w (Im base Im0 m s) m s v a → toP fr s d a = some p → PRep w J v p := by
 intro d
 induction d with
 | zero => intro v a p _ hp; simp [toP] at hp
 | succ d ih =>
  intro v a p hr hp
  cases hr with
  | p v q hq => simp only [toP] at hp; cases hp; exact (hq.toJ hI).nrm
  | any => simp [toP] at hp
  | ptr v i ver off o hg hrow hver hcase =>
   simp only [toP, hg] at hp
   cases o with
   | arr cs vr es =>
    simp only at hp
    split at hp
    ·rename_i hc
     obtain ⟨rfl, rfl, hlt⟩ := hc
     cases hp
     obtain ⟨b, z, hm, rfl⟩ := hcase rfl
     rcases h.obj i _ hg with h1 | ⟨b', z', cur, e, fr', h1, h2, h3, h4, h5, h6⟩
     ·rw [hm] at h1; cases h1.1
     ·rw [hm] at h1; cases h1
      refine .pp b off cur e fr' _ (hJ rfl b ⟨i, _, z, hg, rfl, hm⟩) h2 (by simp; omega) (fun j u c hu hcc => ?_)
      rw [List.getElem?_drop] at hcc
      exact (h6 _ u c hu hcc).toJ hI
    ·cases hp
   | frz cs vr es =>
    simp only at hp
    split at hp
    ·rename_i hc
     obtain ⟨rfl, hlt⟩ := hc
     cases hp
     obtain ⟨b, z, hm, rfl⟩ := hcase rfl
     rcases h.obj i _ hg with h1 | ⟨b', z', cur, e, fr', h1, h2, h3, h4, h5, h6⟩
     ·rw [hm] at h1; cases h1.1
     ·rw [hm] at h1; cases h1
      refine .pp b off cur e fr' _ (hI b h3) h2 (by simp; omega) (fun j u c hu hcc => ?_)
      rw [List.getElem?_drop] at hcc
      exact (h6 _ u c hu hcc).toJ hI
    ·cases hp
   | box cs =>
    simp only at hp
    split at hp
    ·rename_i hc
     obtain ⟨rfl, rfl, hlt⟩ := hc
     split at hp
     ·rename_i ps hps
      cases hp
      obtain ⟨b, z, hm, rfl⟩ := hcase rfl
      obtain ⟨b', z', cur, e, fr', h1, h2, h3, h4, h5, h6⟩ := h.obj i _ hg
      rw [hm] at h1; cases h1
      obtain ⟨hlen, hel⟩ := mapM_spec hps
      refine .pp b off cur e fr' _ (hJ rfl b ⟨i, _, z, hg, rfl, hm⟩) h2 (by simp; omega) (fun j u c hu hcc => ?_)
      rw [List.getElem?_drop] at hcc
      obtain ⟨a, ha⟩ := getElem?_of_lt cs (off + j) (by have := lt_of_some hcc; omega)
      exact ih u a c (h6 _ u a hu ha) (hel _ a c ha hcc)
     ·cases hp
    ·cases hp
   | map ks vs => cases hrow
   | fmap ks vs => cases hrow
   | siter => cases hrow
   | miter => cases hrow
   | loop => cases hrow
  | sl v i ver off len o hg hrow hver hcase =>
   simp only [toP, hg] at hp
   cases o with
   | arr cs vr es =>
    simp only at hp
    split at hp
    ·rename_i hc
     obtain ⟨rfl, rfl, hbd⟩ := hc
     cases hp
     have hs := hcase rfl
     rcases h.obj i _ hg with ⟨h1, rfl⟩ | ⟨b', z', cur, e, fr', h1, h2, h3, h4, h5, h6⟩
     ·rw [h1] at hs
      rcases hs with ⟨rfl, a, rfl⟩ | ⟨b, z, cap, hx, _⟩
      ·unfold cut; split <;> first | exact .sl0 .. | (simp; exact .sl0 ..)
      ·cases hx
     ·rw [h1] at hs
      exact cut_rep h2 (hJ rfl b' ⟨i, _, z', hg, rfl, h1⟩) h4 h5 (h6.mono (fun b o hi hb _ => ⟨hI b hi, hb⟩)) hbd hs
    ·cases hp
   | frz cs vr es =>
    simp only at hp
    split at hp
    ·rename_i hc
     obtain ⟨rfl, hbd⟩ := hc
     cases hp
     have hs := hcase rfl
     rcases h.obj i _ hg with ⟨h1, rfl⟩ | ⟨b', z', cur, e, fr', h1, h2, h3, h4, h5, h6⟩
     ·rw [h1] at hs
      rcases hs with ⟨rfl, a, rfl⟩ | ⟨b, z, cap, hx, _⟩
      ·unfold cut; split <;> first | exact .sl0 .. | (simp; exact .sl0 ..)
      ·cases hx
     ·rw [h1] at hs
      exact cut_rep h2 (hI _ h3) h4 h5 (h6.mono (fun b o hi hb _ => ⟨hI b hi, hb⟩)) hbd hs
    ·cases hp
   | box cs => simp at hp
   | map ks vs => cases hrow
   | fmap ks vs => cases hrow
   | siter => cases hrow
   | miter => cases hrow
   | loop => cases hrow
  | mp i b z o hg hrow hm =>
   simp only [toP, hg] at hp
   cases o with
   | map ks vs =>
    simp only at hp
    split at hp
    ·rename_i hf
     subst hf
     cases hp
     obtain ⟨b', z', es, clock, h1, h2, h3, h4, h5, h6, h7, h8⟩ := h.obj i _ hg
     rw [hm] at h1; cases h1
     exact .map b es clock ks vs (hJ rfl b ⟨i, _, z, hg, rfl, hm⟩) h2 h3 h4 (fun j e k x y => (h5 j e k x y).toJ hI) (fun j e k x y => (h6 j e k x y).toJ hI) h7 h8
    ·cases hp
   | fmap ks vs =>
    simp only at hp
    cases hp
    obtain ⟨b', z', es, clock, h1, h2, hib, h3, h4, h5, h6, h7, h8⟩ := h.obj i _ hg
    rw [hm] at h1; cases h1
    exact .map b es clock ks vs (hI b hib) h2 h3 h4 (fun j e k x y => (h5 j e k x y).toJ hI) (fun j e k x y => (h6 j e k x y).toJ hI) h7 h8
   | arr => cases hrow
   | frz => cases hrow
   | box => cases hrow
   | siter => cases hrow
   | miter => cases hrow
   | loop => cases hrow
  | it => simp [toP] at hp
  | yld => simp [toP] at hp
  | clo f fs cs a b h1 h2 i1 i2 =>
   simp only [toP] at hp
   split at hp
   ·rename_i pa pb ha hb
    cases hp
    obtain ⟨la, ea⟩ := mapM_spec ha
    obtain ⟨lb, eb⟩ := mapM_spec hb
    refine .clo f fs cs pa pb (by omega) (by omega) (fun j u c hu hc => ?_) (fun j u c hu hc => ?_)
    ·obtain ⟨x, hx⟩ := getElem?_of_lt a j (by have := lt_of_some hc; omega)
     exact ih u x c (i1 j u x hu hx) (ea j x c hx hc)
    ·obtain ⟨x, hx⟩ := getElem?_of_lt b j (by have := lt_of_some hc; omega)
     exact ih u x c (i2 j u x hu hx) (eb j x c hx hc)
   ·cases hp
  | agg => simp [toP] at hp
  | tup => simp [toP] at hp

theorem purA_rep (h : SRep CM base Im0 w m s) (fr : Bool) (J : Nat → Prop) (hI : ∀ b, Im base Im0 m s b → J b) (hJ : fr = false → ∀ b, Own m s b → J b) (m' : Mem) (s' : Sto)
  {v : Value} {a a' : AVal} (hr : ARep w (Im base Im0 m s) m s v a) (hp : purA fr s a = some a') : ARep w J m' s' v a' := by
 have gen : ∀ p, toP fr s depthP a = some p → ARep w J m' s' v (.p p) := fun p hp => .p _ _ (toP_rep h fr J hI hJ depthP v a p hr hp)
 cases a with
 | agg cs =>
  simp only [purA] at hp
  split at hp
  ·rename_i ps hps
   cases hp
   cases hr with
   | agg arr _ h1 h2 =>
    obtain ⟨hl, he⟩ := mapM_spec hps
    refine .agg arr _ (by simp; omega) (fun j u c hu hc => ?_)
    rw [List.getElem?_map] at hc
    cases hx : ps[j]? with
    | none => rw [hx] at hc; cases hc
    | some q =>
     rw [hx] at hc; cases hc
     obtain ⟨x, hx'⟩ := getElem?_of_lt cs j (by have := lt_of_some hx; omega)
     exact .p _ _ (toP_rep h fr J hI hJ depthP u x q (h2 j u x hu hx') (he j x q hx' hx))
  ·cases hp
 | p q =>
  simp only [purA] at hp; cases hp
  cases hr with
  | p _ _ hq => exact .p _ _ (hq.toJ hI).nrm
 | ptr i ver off => simp only [purA] at hp; split at hp <;> cases hp; rename_i hq; exact gen _ hq
 | sl i ver off len => simp only [purA] at hp; split at hp <;> cases hp; rename_i hq; exact gen _ hq
 | mp i => simp only [purA] at hp; split at hp <;> cases hp; rename_i hq; exact gen _ hq
 | it i => simp only [purA] at hp; split at hp <;> cases hp; rename_i hq; exact gen _ hq
 | yld i => simp only [purA] at hp; split at hp <;> cases hp; rename_i hq; exact gen _ hq
 | clo f a b => simp only [purA] at hp; split at hp <;> cases hp; rename_i hq; exact gen _ hq
 | tup => simp only [purA] at hp; split at hp <;> cases hp; rename_i hq; exact gen _ hq
 | own => simp only [purA] at hp; split at hp <;> cases hp; rename_i hq; exact gen _ hq
 | any => simp only [purA] at hp; split at hp <;> cases hp; rename_i hq; exact gen _ hq

/-! freezing -/

theorem freezeO_cases (s : Sto) (o : Obj) : freezeO s o = o ∨ mutO (freezeO s o) = false := by
 cases o <;> simp [freezeO, mutO]
 split <;> simp

theorem get_freeze1 (l : List Nat) (s : Sto) (i : Nat) : get (freeze1 l s) i = (get s i).map (fun o => if l.contains i then freezeO s o else o) := by
 unfold freeze1
 rw [get_map (fun x => if l.contains x.1 then freezeO s x.2 else x.2)]

theorem own_freeze1 {l : List Nat} {b : Nat} (ho : Own m (freeze1 l s) b) : Own m s b := by
 obtain ⟨i, o, z, h1, h2, h3⟩ := ho
 rw [get_freeze1] at h1
 cases hg : get s i with
 | none => rw [hg] at h1; cases h1
 | some p =>
  rw [hg] at h1
  simp only [Option.map_some, Option.some.injEq] at h1
  split at h1
  ·rcases freezeO_cases s p with e | e
   ·rw [e] at h1; subst h1; exact ⟨i, p, z, hg, h2, h3⟩
   ·rw [h1] at e; rw [e] at h2; cases h2
  ·subst h1; exact ⟨i, p, z, hg, h2, h3⟩

theorem keepsAt_freeze1 (l : List Nat) (i : Nat) : KeepsAt m s m (freeze1 l s) i := by
 intro o hg
 have := get_freeze1 l s i
 rw [hg] at this
 simp only [Option.map_some] at this
 refine ⟨_, this, ?_⟩
 split
 ·cases o with
  | box cs =>
   simp only [freezeO]
   cases cs.mapM (toP true s depthP) <;> simp [rowO, mapO, verO, esO]
  | _ => simp [freezeO, rowO, mapO, verO, esO]
 ·simp

theorem freeze1_rep (h : SRep CM base Im0 w m s) (l : List Nat) : SRep CM base Im0 w m (freeze1 l s) ∧ ∀ lo, Evo lo w m s w m (freeze1 l s) := by
 have hev : ∀ lo, Evo lo w m s w m (freeze1 l s) := fun lo =>
  ⟨rfl, rfl, rfl, Nat.le_refl _, fun _ _ hb _ => hb, fun b _ ho => own_freeze1 ho, fun i _ => keepsAt_freeze1 l i, fun _ lp hb => ⟨lp, hb⟩⟩
 refine ⟨⟨keysDesc_map _ h.keys, fun i o hg => ?_, fun i j o o' b z z' hi hj hmi hmj => ?_, fun i o b z hi hm => ?_⟩, hev⟩
 ·rw [get_freeze1] at hg
  cases hp : get s i with
  | none => rw [hp] at hg; cases hg
  | some p =>
   rw [hp] at hg
   simp only [Option.map_some, Option.some.injEq] at hg
   have same : ORep CM w (Im base Im0 m (freeze1 l s)) m (freeze1 l s) i p :=
    (h.obj i p hp).mono (hev 0).keeps (fun j _ => keepsAt_freeze1 l j) rfl (fun _ _ _ => rfl)
   split at hg
   ·rename_i hc
    have imm : ∀ b z, m i = some (b, z) → mutO o = false → Im base Im0 m (freeze1 l s) b := fun b z hm hmu => by
     refine ⟨fun hlt => absurd (h.rng i p b z hp hm).1 (by omega), fun ho => ?_⟩
     obtain ⟨j, q, z', g1, g2, g3⟩ := ho
     have g1' := g1
     rw [get_freeze1] at g1
     cases hq : get s j with
     | none => rw [hq] at g1; cases g1
     | some q' =>
      have e := h.inj i j p q' b z z' hp hq hm g3
      subst e
      rw [get_freeze1, hp] at g1'
      simp only [Option.map_some, hc, if_true, hg, Option.some.injEq] at g1'
      subst g1'
      rw [hmu] at g2; cases g2
    cases p with
    | arr cs v es =>
     simp only [freezeO] at hg; subst hg
     rcases same with s1 | ⟨b, z, cur, e, fr, h1, h2, h3, h4, h5, h6⟩
     ·exact .inl s1
     ·exact .inr ⟨b, z, cur, e, fr, h1, h2, imm b z h1 rfl, h4, h5, h6⟩
    | map ks vs =>
     simp only [freezeO] at hg; subst hg
     obtain ⟨b, z, es, clock, h1, h2, h3⟩ := same
     exact ⟨b, z, es, clock, h1, h2, imm b z h1 rfl, h3⟩
    | box cs =>
     simp only [freezeO] at hg
     split at hg
     ·rename_i ps hps
      subst hg
      obtain ⟨b, z, cur, e, fr, h1, h2, h3, h4, h5, h6⟩ := h.obj i _ hp
      obtain ⟨hl, he⟩ := mapM_spec hps
      refine .inr ⟨b, z, cur, e, fr, h1, h2, imm b z h1 rfl, h4, by omega, fun j u c hu hcc => ?_⟩
      obtain ⟨a, ha⟩ := getElem?_of_lt cs j (by have := lt_of_some hcc; omega)
      exact toP_rep h true _ (fun b hi => hi.keeps_own (fun x => own_freeze1 x)) (fun h => by cases h) depthP u a c (h6 j u a hu ha) (he j a c ha hcc)
     ·subst hg; exact same
    | frz => simp only [freezeO] at hg; subst hg; exact same
    | fmap => simp only [freezeO] at hg; subst hg; exact same
    | siter => simp only [freezeO] at hg; subst hg; exact same
    | miter => simp only [freezeO] at hg; subst hg; exact same
    | loop => simp only [freezeO] at hg; subst hg; exact same
   ·subst hg; exact same
 ·rw [get_freeze1] at hi hj
  cases hp : get s i with
  | none => rw [hp] at hi; cases hi
  | some p => cases hq : get s j with
   | none => rw [hq] at hj; cases hj
   | some q => exact h.inj i j p q b z z' hp hq hmi hmj
 ·rw [get_freeze1] at hi
  cases hp : get s i with
  | none => rw [hp] at hi; cases hi
  | some p => exact h.rng i p b z hp hm

theorem froze_rep (h : SRep CM base Im0 w m s) (as : List AVal) : SRep CM base Im0 w m (froze s as) ∧ ∀ lo, Evo lo w m s w m (froze s as) := by
 unfold froze
 split
 ·exact ⟨h, fun lo => Evo.refl ..⟩
 ·obtain ⟨h1, e1⟩ := freeze1_rep h (reach s reachFuel (refsL as) [])
  obtain ⟨h2, e2⟩ := freeze1_rep h1 (reach s reachFuel (refsL as) [])
  exact ⟨h2, fun lo => (e1 lo).trans (e2 lo)⟩

/-! forgetting -/

theorem hasId_get {s : Sto} (hs : keysDesc s) {i : Nat} (h : hasId s i = true) : ∃ o, get s i = some o := by
 simp only [hasId, List.any_eq_true, beq_iff_eq] at h
 obtain ⟨x, hx, rfl⟩ := h
 exact ⟨x.2, get_of_mem hs hx⟩

theorem gc_rep (h : SRep CM base Im0 w m s) (lo : Nat) (env : Env) : SRep CM base Im0 w m (gc lo env s) ∧ Evo lo w m s w m (gc lo env s) ∧
  (∀ i ∈ refsE env, KeepsAt m s m (gc lo env s) i) := by
 unfold gc
 simp only
 generalize hlv : reach s reachFuel _ [] = live
 generalize hs' : s.filter (fun x => decide (x.1 < lo) || live.contains x.1) = s'
 split
 ·rename_i hc
  simp only [Bool.and_eq_true, List.all_eq_true] at hc
  obtain ⟨hc1, hc2⟩ := hc
  have hg : ∀ i, get s' i = match get s i with | some o => if decide (i < lo) || live.contains i then some o else none | none => none := fun i => by rw [← hs']; exact get_filter h.keys _ i
  have hk : keysDesc s' := by rw [← hs']; exact keysDesc_filter h.keys _
  have hsub : ∀ i o, get s' i = some o → get s i = some o := fun i o hi => by
   rw [hg] at hi
   cases hx : get s i with
   | none => rw [hx] at hi; cases hi
   | some p => rw [hx] at hi; simp only at hi; split at hi <;> cases hi; rfl
  have hka : ∀ i, hasId s' i = true → KeepsAt m s m s' i := fun i hi o ho => by
   obtain ⟨p, hp⟩ := hasId_get hk hi
   have := hsub i p hp
   rw [ho] at this; cases this
   exact ⟨o, hp, rfl, rfl, Nat.le_refl _, fun _ => ⟨rfl, rfl⟩⟩
  have hown : ∀ b, Own m s' b → Own m s b := fun b ⟨i, o, z, h1, h2, h3⟩ => ⟨i, o, z, hsub i o h1, h2, h3⟩
  have hev : Evo lo w m s w m s' := ⟨rfl, rfl, rfl, Nat.le_refl _, fun _ _ hb _ => hb, fun b _ ho => hown b ho, fun i hi o ho => by
   refine ⟨o, ?_, rfl, rfl, Nat.le_refl _, fun _ => ⟨rfl, rfl⟩⟩
   rw [hg, ho]; simp [hi], fun _ lp hb => ⟨lp, hb⟩⟩
  refine ⟨⟨hk, fun i o hi => ?_, fun i j o o' b z z' hi hj => h.inj i j o o' b z z' (hsub i o hi) (hsub j o' hj), fun i o b z hi => h.rng i o b z (hsub i o hi)⟩, hev, fun i hi => hka i (hc1 i hi)⟩
  exact (h.obj i o (hsub i o hi)).mono hev.keeps (fun j hj => hka j (hc2 (i, o) (get_mem hi) j hj)) rfl (fun _ _ _ => rfl)
 ·exact ⟨h, Evo.refl .., fun i _ o ho => ⟨o, ho, rfl, rfl, Nat.le_refl _, fun _ => ⟨rfl, rfl⟩⟩⟩

theorem gc_env (h : SRep CM base Im0 w m s) (lo : Nat) (env : Env) {tm : Array Value} (he : EnvRep w (Im base Im0 m s) m s tm env) : EnvRep w (Im base Im0 m (gc lo env s)) m (gc lo env s) tm env := by
 obtain ⟨_, h2, h3⟩ := gc_rep h lo env
 exact fun t => (he t).mono' h2.keeps (fun i hi => h3 i (refsE_mem hi))

end
end Fw
end

section
/-
  What the model's operations on memory come to: rows of cells that are read, written, made.
-/
namespace Fw
open Go

def aggD : TypeDesc → Bool
 | .struct _ => true
 | .array _ _ => true
 | _ => false

def setB (w : World) (b : Nat) (o : Go.Obj) : World := { w with heap := w.heap.setIfInBounds b o }
theorem setB_size (w : World) (b : Nat) (o : Go.Obj) : (setB w b o).heap.size = w.heap.size := by simp [setB]
theorem setB_same (w : World) {b : Nat} (o : Go.Obj) (h : b < w.heap.size) : (setB w b o).heap[b]? = some o := by simp [setB, h]
theorem setB_ne (w : World) {b c : Nat} (o : Go.Obj) (h : c ≠ b) : (setB w b o).heap[c]? = w.heap[c]? := by
 simp only [setB]; rw [Array.getElem?_setIfInBounds_ne (Ne.symm h)]
theorem setB_setB (w : World) (b : Nat) (o o' : Go.Obj) : setB (setB w b o) b o' = setB w b o' := by simp [setB]
theorem setB_self (w : World) {b : Nat} {o : Go.Obj} (h : w.heap[b]? = some o) : setB w b o = w := by
 have : w.heap.setIfInBounds b o = w.heap := by
  apply Array.ext_getElem?
  intro i
  by_cases e : b = i
  ·subst e; rw [Array.getElem?_setIfInBounds_self_of_lt (heap_lt h)]; exact h.symm
  ·rw [Array.getElem?_setIfInBounds_ne e]
 simp [setB, this]

def setA (cur : Array Value) : Nat → List Value → Array Value
 | _, [] => cur
 | i, v :: r => setA (cur.setIfInBounds i v) (i + 1) r
theorem setA_size (vs : List Value) : ∀ (cur : Array Value) (i : Nat), (setA cur i vs).size = cur.size := by
 induction vs with
 | nil => intros; rfl
 | cons v r ih => intro cur i; simp only [setA]; rw [ih]; simp
theorem setCells_length {α : Type} (vs : List α) : ∀ (l : List α) (i : Nat), (setCells l i vs).length = l.length := by
 induction vs with
 | nil => intros; rfl
 | cons v r ih => intro l i; simp only [setCells]; rw [ih]; simp

theorem setA_rel {α : Type} (R : Value → α → Prop) : ∀ (vs : List Value) (ps : List α) (cur : Array Value) (cs : List α) (i : Nat), vs.length = ps.length →
  (∀ (j : Nat) u c, cur[j]? = some u → cs[j]? = some c → R u c) → (∀ (j : Nat) u c, vs[j]? = some u → ps[j]? = some c → R u c) → i + ps.length ≤ cs.length → cs.length ≤ cur.size →
  ∀ (j : Nat) u c, (setA cur i vs)[j]? = some u → (setCells cs i ps)[j]? = some c → R u c := by
 intro vs
 induction vs with
 | nil =>
  intro ps cur cs i hl h1 h2 hb hb2 j u c hu hc
  cases ps with
  | nil => exact h1 j u c hu hc
  | cons => simp at hl
 | cons v r ih =>
  intro ps cur cs i hl h1 h2 hb hb2
  cases ps with
  | nil => simp at hl
  | cons p q =>
   simp only [setA, setCells]
   refine ih q _ _ (i + 1) (by simpa using hl) (fun j u c hu hc => ?_) (fun j u c hu hc => h2 (j + 1) u c (by simpa using hu) (by simpa using hc)) (by simp at hb ⊢; omega) (by simp; omega)
   by_cases e : i = j
   ·subst e
    rw [Array.getElem?_setIfInBounds_self_of_lt (by simp at hb; omega)] at hu
    rw [List.getElem?_set_self (by simp at hb; omega)] at hc
    cases hu; cases hc
    exact h2 0 v p rfl rfl
   ·rw [Array.getElem?_setIfInBounds_ne e] at hu
    rw [List.getElem?_set_ne e] at hc
    exact h1 j u c hu hc

section
variable {P : Program} {w : World} {b e : Nat} {cur : Array Value} {fr : Nat × Nat}

theorem addr_add (b o j : Nat) : (⟨b, o, none⟩ : Addr).add j = ⟨b, o + j, none⟩ := by unfold Addr.add; split <;> simp_all

theorem cell_row (h : w.heap[b]? = some (.cells cur e fr)) (j : Nat) : w.cell? ⟨b, j, none⟩ = cur[j]? := by simp [World.cell?, h]

theorem run_load_row (h : w.heap[b]? = some (.cells cur e fr)) {j : Nat} {v : Value} (hv : cur[j]? = some v) : (load ⟨b, j, none⟩).run P w = .ok v w := by
 simp [cell_row h, hv]

theorem run_loads (h : w.heap[b]? = some (.cells cur e fr)) (off n : Nat) (hn : off + n ≤ cur.size) :
  (loadCells ⟨b, off, none⟩ n).run P w = .ok (cur.extract off (off + n)) w := by
 have := run_loadCells_list (P := P) w ⟨b, off, none⟩ (cur.extract off (off + n)).toList (fun j v hj => by
  rw [addr_add, cell_row h]
  simp at hj
  rw [List.getElem?_take] at hj
  split at hj
  ·simpa using hj
  ·cases hj)
 have hl : (cur.extract off (off + n)).toList.length = n := by simp; omega
 rw [hl] at this
 rw [this, Array.toArray_toList]

theorem run_store_row (h : w.heap[b]? = some (.cells cur e fr)) {j : Nat} (hj : j < cur.size) (hf : (fr.1 ≤ j && j < fr.2) = false) {v : Value} (hv : v.oneCell' = true) :
  (store ⟨b, j, none⟩ v).run P w = .ok () (setB w b (.cells (cur.setIfInBounds j v) e fr)) := by
 obtain ⟨u, hu⟩ := agetElem?_of_lt cur j hj
 rw [run_store P w _ v _ hv, cell_row h, hu]
 have hfz : w.frozen? ⟨b, j, none⟩ = false := by simp only [World.frozen?, h]; exact hf
 simp only [hfz, Bool.false_eq_true, if_false]
 congr 1
 simp only [World.setCell, setB]
 congr 1
 apply Array.ext_getElem?
 intro i
 rw [Array.getElem?_modify]
 by_cases e : b = i
 ·subst e
  rw [if_pos rfl, Array.getElem?_setIfInBounds_self_of_lt (heap_lt h), h]
  rfl
 ·rw [if_neg e, Array.getElem?_setIfInBounds_ne e]

theorem run_stores : ∀ (vs : List Value) (cur : Array Value) (w : World) (off i : Nat), w.heap[b]? = some (.cells cur e fr) → NoFrz fr cur.size → off + i + vs.length ≤ cur.size → (∀ v ∈ vs, v.oneCell' = true) →
  (storeCells ⟨b, off, none⟩ vs i).run P w = .ok () (setB w b (.cells (setA cur (off + i) vs) e fr)) := by
 intro vs
 induction vs with
 | nil => intro cur w off i h _ _ _; simp [storeCells, setA, setB_self w h]
 | cons v r ih =>
  intro cur w off i h hf hl h1
  simp only [List.length_cons] at hl
  have hs := run_store_row (P := P) h (j := off + i) (by omega) (hf _ (by omega)) (h1 v (by simp))
  simp only [storeCells, Sem.run_bind, addr_add, hs, Result.andThen_ok]
  rw [ih (cur.setIfInBounds (off + i) v) _ off (i + 1) (setB_same _ _ (heap_lt h)) (by simpa using hf) (by simp; omega) (fun x hx => h1 x (by simp [hx])), setB_setB]
  rfl

theorem run_info {t : Nat} {i : TypeInfo} (h : P.info? t = some i) (w : World) : (typeInfo t).run P w = .ok i w := by simp [typeInfo, h]
theorem run_size {t : Nat} {i : TypeInfo} (h : P.info? t = some i) (w : World) : (Go.sizeOf t).run P w = .ok i.size w := by simp [Go.sizeOf, run_info h]
theorem run_zero {t : Nat} {i : TypeInfo} {z : Value} (h : P.info? t = some i) (hz : i.zero = some z) (w : World) : (zeroValue t).run P w = .ok z w := by simp [zeroValue, run_info h, hz]
theorem run_isAgg {t : Nat} {d : TypeDesc} (h : P.underlying t = some d) (w : World) : (isAgg t).run P w = .ok (aggD d) w := by
 simp only [isAgg, Sem.run_bind, run_underlying h, Result.andThen_ok]
 cases d <;> rfl

theorem run_newRow (t : Nat) (cs : Array Value) (w : World) : (newRow t cs).run P w = .ok ⟨w.heap.size, 0, none⟩ (w.alloc (.cells cs t)) := by
 simp [newRow]
end

theorem PRep.one' {w : World} {I : Nat → Prop} {v : Value} {p : PVal} (h : PRep w I v p) : v.oneCell' = true := by cases h <;> rfl

theorem cells_of_one {v : Value} (h : v.oneCell' = true) : v.cells = #[v] := by cases v <;> first | rfl | cases h

theorem ARep.cells {w : World} {I : Nat → Prop} {m : Mem} {s : Sto} {v : Value} {a : AVal} {l : List AVal} (h : ARep w I m s v a) (hl : cellsA a = some l) :
  v.cells.size = l.length ∧ (∀ (j : Nat) u c, v.cells[j]? = some u → l[j]? = some c → ARep w I m s u c) := by
 have one : ∀ {u : Value} {c : AVal}, u.cells = #[u] → ARep w I m s u c → u.cells.size = [c].length ∧ (∀ (j : Nat) x y, u.cells[j]? = some x → [c][j]? = some y → ARep w I m s x y) := by
  intro u c hu hc
  rw [hu]
  refine ⟨rfl, fun j x y hx hy => ?_⟩
  cases j with
  | zero => simp at hx hy; subst hx hy; exact hc
  | succ j => simp at hy
 have h' := h
 cases h with
 | p v p hp => simp only [cellsA] at hl; cases hl; exact one hp.one.1 h'
 | any => simp [cellsA] at hl
 | ptr v i ver off o h1 h2 h3 h4 h5 => simp only [cellsA] at hl; cases hl; exact one (cells_of_one h5) h'
 | sl v i ver off len o h1 h2 h3 h4 h5 => simp only [cellsA] at hl; cases hl; exact one (cells_of_one h5) h'
 | mp => simp only [cellsA] at hl; cases hl; exact one rfl h'
 | it => simp only [cellsA] at hl; cases hl; exact one rfl h'
 | yld => simp only [cellsA] at hl; cases hl; exact one rfl h'
 | clo => simp only [cellsA] at hl; cases hl; exact one rfl h'
 | agg cs l' h1 h2 => simp only [cellsA] at hl; cases hl; exact ⟨h1, h2⟩
 | tup => simp [cellsA] at hl

theorem ARep.oneCell {w : World} {I : Nat → Prop} {m : Mem} {s : Sto} {v : Value} {a : AVal} (h : ARep w I m s v a) (h1 : a ≠ .any) (h2 : ∀ l, a ≠ .agg l) (h3 : ∀ l, a ≠ .tup l) : v.oneCell' = true := by
 cases h with
 | p v p hp => exact hp.one'
 | any => exact absurd rfl h1
 | ptr v i ver off o _ _ _ _ h5 => exact h5
 | sl v i ver off len o _ _ _ _ h5 => exact h5
 | mp => rfl
 | it => rfl
 | yld => rfl
 | clo => rfl
 | agg cs l => exact absurd rfl (h2 l)
 | tup cs l => exact absurd rfl (h3 l)

end Fw
end

section
/-
  Operations, first part: constants, moves, variables, aggregates, loads.
-/
namespace Fw
open Go

/-! matching operands -/

def constP : Value → PVal → Bool
 | .int k n, .int k' n' => decide (k = k') && n == n'
 | .bool a, .bool b => a == b
 | .float k b, .flt k' b' => decide (k = k') && b == b'
 | .string s, .str l => s.data.toList == l
 | .pointer none, .nilp => true
 | .slice none n c, .nils => n == 0 && c == 0
 | .map none, .nilm => true
 | .nilFunc, .nilf => true
 | .nilIface, .nili => true
 | .func (.func f) a b, .clo g [] [] => f == g && a.size == 0 && b.size == 0
 | _, _ => false

def constC : List Value → List AVal → Bool
 | [], [] => true
 | v :: r, .p p :: q => constP v p && constC r q
 | _, _ => false

def constA : Value → AVal → Bool
 | _, .any => true
 | .agg cs, .agg l => constC cs.toList l
 | .tuple cs, .tup [] => cs.size == 0
 | v, .p p => constP v p
 | _, _ => false

def mOpd : Operand → Opd → Bool
 | .tmp t, .t n => t == n
 | .const v, .c a => constA v a
 | .global g, .g n => g == n
 | .func f, .c (.p (.clo g [] [])) => f == g
 | _, _ => false

theorem constP_rep {v : Value} {p : PVal} (h : constP v p = true) (w : World) (I : Nat → Prop) : PRep w I v p := by
 unfold constP at h
 split at h
 ·simp at h; obtain ⟨rfl, rfl⟩ := h; exact .int ..
 ·simp at h; subst h; exact .bool _
 ·simp at h; obtain ⟨rfl, rfl⟩ := h; exact .flt ..
 ·simp at h; subst h; exact .str _
 ·exact .nilp
 ·simp at h; obtain ⟨rfl, rfl⟩ := h; exact .nils _
 ·exact .nilm
 ·exact .nilf
 ·exact .nili
 ·simp at h
  obtain ⟨⟨rfl, ha⟩, hb⟩ := h
  exact .clo _ _ _ [] [] (by simpa using ha) (by simpa using hb) (fun j u c hu hc => by simp at hc) (fun j u c hu hc => by simp at hc)
 ·cases h

theorem constC_rep : ∀ {l : List Value} {q : List AVal}, constC l q = true → ∀ (w : World) (I : Nat → Prop), l.length = q.length ∧ ∃ ps : List PVal, q = ps.map .p ∧ (∀ (j : Nat) u p, l[j]? = some u → ps[j]? = some p → PRep w I u p) := by
 intro l
 induction l with
 | nil => intro q h w I; cases q <;> simp [constC] at h; exact ⟨rfl, [], rfl, fun j u p hu => by simp at hu⟩
 | cons v r ih =>
  intro q h w I
  cases q with
  | nil => simp [constC] at h
  | cons a t =>
   cases a <;> simp [constC] at h
   rename_i p
   obtain ⟨h1, ps, rfl, h2⟩ := ih h.2 w I
   refine ⟨by simp [h1], p :: ps, rfl, fun j u c hu hc => ?_⟩
   cases j with
   | zero => simp at hu hc; subst hu hc; exact constP_rep h.1 w I
   | succ j => exact h2 j u c (by simpa using hu) (by simpa using hc)

theorem constA_rep {v : Value} {a : AVal} (h : constA v a = true) (w : World) (I : Nat → Prop) (m : Mem) (s : Sto) : ARep w I m s v a := by
 unfold constA at h
 split at h
 ·exact .any _
 ·rename_i cs l
  obtain ⟨h1, ps, rfl, h2⟩ := constC_rep h w I
  refine .agg cs _ (by simpa using h1) (fun j u c hu hc => ?_)
  rw [List.getElem?_map] at hc
  cases hp : ps[j]? with
  | none => rw [hp] at hc; cases hc
  | some p => rw [hp] at hc; cases hc; exact .p _ _ (h2 j u p (by simpa using hu) hp)
 ·rename_i cs
  simp at h; subst h
  exact .tup _ _ rfl (fun j u c hu hc => by simp at hc)
 ·exact .p _ _ (constP_rep h w I)
 ·cases h

theorem pcells_map : ∀ {l : List AVal} {ps : List PVal}, pcells l = some ps → ∃ qs : List PVal, l = qs.map .p ∧ ps = qs.map nrm := by
 intro l
 induction l with
 | nil => intro ps h; simp [pcells] at h; exact ⟨[], rfl, by simpa using h⟩
 | cons a r ih =>
  intro ps h
  cases a with
  | p v =>
   simp only [pcells] at h
   split at h
   ·rename_i l hl
    cases h
    obtain ⟨qs, rfl, rfl⟩ := ih hl
    exact ⟨v :: qs, rfl, rfl⟩
   ·cases h
  | _ => simp [pcells] at h

section
variable {CM : Nat → Code → ACode → Prop} {base : Nat} {Im0 : Nat → Prop} {w : World} {m : Mem} {s : Sto} {P : Program} {ρ : Operand → Value} {ρa : Opd → AVal} {Q : AVal × Sto → Prop}

def Post (CM : Nat → Code → ACode → Prop) (base : Nat) (Im0 : Nat → Prop) (w : World) (m : Mem) (s : Sto) (Q : AVal × Sto → Prop) (r : Result Next) : Prop :=
 ∃ a s' w' m' v, Q (a, s') ∧ SRep CM base Im0 w' m' s' ∧ (∀ lo, Evo lo w m s w' m' s') ∧ ARep w' (Im base Im0 m' s') m' s' v a ∧ (r = .ok (.value v) w' ∨ (r = .ok .skip w' ∧ v = undef))

theorem Post.same (h : SRep CM base Im0 w m s) {a : AVal} {v : Value} (hq : Q (a, s)) (ha : ARep w (Im base Im0 m s) m s v a) {r : Result Next} (hr : r = .ok (.value v) w) : Post CM base Im0 w m s Q r :=
 ⟨a, s, w, m, v, hq, h, fun _lo => Evo.refl .., ha, .inl hr⟩

def OpdOk (w : World) (I : Nat → Prop) (m : Mem) (s : Sto) (ρ : Operand → Value) (ρa : Opd → AVal) : Prop := ∀ x y, mOpd x y = true → ARep w I m s (ρ x) (ρa y)

theorem inv_int {I : Nat → Prop} {v : Value} {k : IntKind} {n : Int} (h : ARep w I m s v (.p (.int k n))) : v = .int k n := by cases h with | p _ _ hp => cases hp; rfl
theorem inv_bool {I : Nat → Prop} {v : Value} {b : Bool} (h : ARep w I m s v (.p (.bool b))) : v = .bool b := by cases h with | p _ _ hp => cases hp; rfl
theorem inv_flt {I : Nat → Prop} {v : Value} {k : FloatKind} {n : Nat} (h : ARep w I m s v (.p (.flt k n))) : v = .float k n := by cases h with | p _ _ hp => cases hp; rfl
theorem inv_str {I : Nat → Prop} {v : Value} {l : List UInt8} (h : ARep w I m s v (.p (.str l))) : ∃ st : ByteArray, v = .string st ∧ st.data.toList = l := by cases h with | p _ _ hp => cases hp; exact ⟨_, rfl, rfl⟩
theorem inv_agg {I : Nat → Prop} {v : Value} {l : List AVal} (h : ARep w I m s v (.agg l)) : ∃ cs : Array Value, v = .agg cs ∧ cs.size = l.length ∧ (∀ (j : Nat) u c, cs[j]? = some u → l[j]? = some c → ARep w I m s u c) := by
 cases h with | agg cs _ h1 h2 => exact ⟨cs, rfl, h1, h2⟩
theorem inv_tup {I : Nat → Prop} {v : Value} {l : List AVal} (h : ARep w I m s v (.tup l)) : ∃ cs : Array Value, v = .tuple cs ∧ cs.size = l.length ∧ (∀ (j : Nat) u c, cs[j]? = some u → l[j]? = some c → ARep w I m s u c) := by
 cases h with | tup cs _ h1 h2 => exact ⟨cs, rfl, h1, h2⟩

theorem rep_int (I : Nat → Prop) (k : IntKind) (n : Int) : ARep w I m s (.int k n) (.p (.int k n)) := .p _ _ (.int ..)
theorem rep_bool (I : Nat → Prop) (b : Bool) : ARep w I m s (.bool b) (.p (.bool b)) := .p _ _ (.bool _)
theorem rep_str (I : Nat → Prop) (st : ByteArray) : ARep w I m s (.string st) (.p (.str st.data.toList)) := .p _ _ (.str _)
theorem rep_undef (I : Nat → Prop) : ARep w I m s undef undefA := .tup _ _ rfl (fun j u c hu hc => by simp at hc)

theorem nofrz0 (z : Nat) : NoFrz (0, 0) z := fun j _ => by simp

theorem new_arr (h : SRep CM base Im0 w m s) (hb : base ≤ w.heap.size) (cur : Array Value) (t : Nat) (fr : Nat × Nat) (hfr : NoFrz fr cur.size) (ps : List PVal) (v es : Nat) (hl : ps.length ≤ cur.size) (hc : CellsP w (Im base Im0 m s) cur ps) :
  SRep CM base Im0 (w.alloc (.cells cur t fr)) (upd m (nextId s) (some (w.heap.size, cur.size))) ((nextId s, .arr ps v es) :: s) ∧
  (∀ lo, Evo lo w m s (w.alloc (.cells cur t fr)) (upd m (nextId s) (some (w.heap.size, cur.size))) ((nextId s, .arr ps v es) :: s)) :=
 h.new (Ext.alloc w _) hb _ _ (fun b z hx => by cases hx; simp) (fun I' m' s' hk _ hg hm _ => .inr ⟨w.heap.size, cur.size, cur, t, fr, hm, alloc_new w _, hfr, rfl, hl, hc.mono hk⟩)

theorem new_box (h : SRep CM base Im0 w m s) (hb : base ≤ w.heap.size) (cur : Array Value) (t : Nat) (cs : List AVal) (hl : cs.length = cur.size) (hc : CellsA w (Im base Im0 m s) m s cur cs) :
  SRep CM base Im0 (w.alloc (.cells cur t)) (upd m (nextId s) (some (w.heap.size, cur.size))) ((nextId s, .box cs) :: s) ∧
  (∀ lo, Evo lo w m s (w.alloc (.cells cur t)) (upd m (nextId s) (some (w.heap.size, cur.size))) ((nextId s, .box cs) :: s)) :=
 h.new (Ext.alloc w _) hb _ _ (fun b z hx => by cases hx; simp) (fun I' m' s' hk hko hg hm _ => ⟨w.heap.size, cur.size, cur, t, (0, 0), hm, alloc_new w _, nofrz0 _, rfl, hl, fun j u c hu hcc => (hc j u c hu hcc).mono hk hko⟩)

theorem cellsP_of_const {l : List Value} {q : List AVal} {ps : List PVal} (hc : constC l q = true) (hp : pcells q = some ps) (I : Nat → Prop) : l.length = ps.length ∧ CellsP w I l.toArray ps := by
 obtain ⟨h1, qs, rfl, h2⟩ := constC_rep hc w I
 obtain ⟨qs', he, rfl⟩ := pcells_map hp
 have : qs = qs' := by
  have := congrArg (List.map (fun a => match a with | AVal.p v => v | _ => PVal.nilp)) he
  simpa [Function.comp_def] using this
 subst this
 refine ⟨by simpa using h1, fun j u c hu hcc => ?_⟩
 rw [List.getElem?_map] at hcc
 cases hq : qs[j]? with
 | none => rw [hq] at hcc; cases hcc
 | some p => rw [hq] at hcc; cases hcc; exact (h2 j u p (by simpa using hu) hq).nrm

theorem cellsA_of_const {l : List Value} {q : List AVal} (hc : constC l q = true) (I : Nat → Prop) : l.length = q.length ∧ CellsA w I m s l.toArray q := by
 obtain ⟨h1, qs, rfl, h2⟩ := constC_rep hc w I
 refine ⟨by simpa using h1, fun j u c hu hcc => ?_⟩
 rw [List.getElem?_map] at hcc
 cases hq : qs[j]? with
 | none => rw [hq] at hcc; cases hcc
 | some p => rw [hq] at hcc; cases hcc; exact .p _ _ (h2 j u p (by simpa using hu) hq)

/-! the operations -/

def mMv (o : Op) (y : Opd) : Bool := match o with
 | .move x | .assign x => mOpd x y
 | _ => false

theorem ok_mv {o : Oper} {y : Opd} (hm : mMv o.op y = true) (h : SRep CM base Im0 w m s) (hρ : OpdOk w (Im base Im0 m s) m s ρ ρa) (hq : (opFn ρa s (.mv y)).All Q) : Post CM base Im0 w m s Q ((execOp ρ o).run P w) := by
 have hq' : Q (ρa y, s) := hq
 unfold mMv at hm
 split at hm
 ·rename_i x hx; exact Post.same h hq' (hρ x y hm) (by simp [execOp, hx])
 ·rename_i x hx; exact Post.same h hq' (hρ x y hm) (by simp [execOp, hx])
 ·cases hm

def mPick (o : Op) (c a b : Opd) : Bool := match o with
 | .pick x y z => mOpd x c && mOpd y a && mOpd z b
 | _ => false

theorem ok_pick {o : Oper} {c a b : Opd} (hm : mPick o.op c a b = true) (h : SRep CM base Im0 w m s) (hρ : OpdOk w (Im base Im0 m s) m s ρ ρa) (hq : (opFn ρa s (.pick c a b)).All Q) : Post CM base Im0 w m s Q ((execOp ρ o).run P w) := by
 unfold mPick at hm
 split at hm
 ·rename_i x y z hx
  simp only [Bool.and_eq_true] at hm
  simp only [opFn] at hq
  split at hq
  ·rename_i t ht
   have hb : ρa c = .p (.bool t) := by
    revert ht; unfold asB; split
    ·intro e; cases e; assumption
    ·intro e; cases e
   have hv := inv_bool (hb ▸ hρ x c hm.1.1)
   refine Post.same h hq ?_ (v := if t then ρ y else ρ z) (by simp [execOp, hx, hv, asBool])
   cases t
   ·exact hρ z b hm.2
   ·exact hρ y a hm.1.2
  ·exact hq.elim
 ·cases hm

def mZero (P : Program) (t : Nat) (zero : List AVal) : Bool := match P.info? t with
 | some i => (match i.zero with | some z => constC z.cells.toList zero | none => false)
 | none => false

theorem mZero_spec {t : Nat} {zero : List AVal} (h : mZero P t zero = true) : ∃ i z, P.info? t = some i ∧ i.zero = some z ∧ constC z.cells.toList zero = true := by
 unfold mZero at h
 split at h
 ·rename_i i hi
  split at h
  ·rename_i z hz; exact ⟨i, z, hi, hz, h⟩
  ·cases h
 ·cases h

def mAlloc (P : Program) (o : Op) (zero : List AVal) : Bool := match o with
 | .alloc t => mZero P t zero
 | _ => false

theorem ptr0_rep {I : Nat → Prop} {w' : World} {m' : Mem} {s' : Sto} {i b z : Nat} {o : Obj} (hg : get s' i = some o) (hr : rowO o = true) (_hv : verO o = 0) (hm : m' i = some (b, z)) : ARep w' I m' s' (.pointer (some ⟨b, 0, none⟩)) (.ptr i 0 0) :=
 .ptr _ i 0 0 o hg hr (Nat.zero_le _) (fun _ => ⟨b, z, hm, rfl⟩) rfl

theorem ok_alloc {o : Oper} {isArr : Bool} {es : Nat} {zero : List AVal} (hm : mAlloc P o.op zero = true) (h : SRep CM base Im0 w m s) (hb : base ≤ w.heap.size) (hq : (opFn ρa s (.alloc isArr es zero)).All Q) :
  Post CM base Im0 w m s Q ((execOp ρ o).run P w) := by
 unfold mAlloc at hm
 split at hm
 ·rename_i t ht
  obtain ⟨i, z, hi, hz, hc⟩ := mZero_spec hm
  have hrun : (execOp ρ o).run P w = .ok (.value (.pointer (some ⟨w.heap.size, 0, none⟩))) (w.alloc (.cells z.cells t)) := by
   simp [execOp, ht, Instr.alloc, run_zero hi hz, newVar, run_newRow]
  simp only [opFn] at hq
  split at hq
  ·split at hq
   ·rename_i ps hps
    obtain ⟨hl, hcc⟩ := cellsP_of_const (w := w) hc hps (Im base Im0 m s)
    obtain ⟨hs', hev⟩ := new_arr h hb z.cells t (0, 0) (nofrz0 _) ps 0 es (by simpa using Nat.le_of_eq hl.symm) (by simpa using hcc)
    exact ⟨_, _, _, _, _, hq, hs', hev, ptr0_rep (by rw [get_new, if_pos rfl]) rfl rfl (upd_same _ _ _), .inl hrun⟩
   ·exact hq.elim
  ·obtain ⟨hl, hcc⟩ := cellsA_of_const (w := w) (m := m) (s := s) hc (Im base Im0 m s)
   obtain ⟨hs', hev⟩ := new_box h hb z.cells t zero (by simpa using hl.symm) (by simpa using hcc)
   exact ⟨_, _, _, _, _, hq, hs', hev, ptr0_rep (by rw [get_new, if_pos rfl]) rfl rfl (upd_same _ _ _), .inl hrun⟩
 ·cases hm

def mBox (o : Op) (y : Opd) : Bool := match o with
 | .box _ x => mOpd x y
 | _ => false

theorem pcells_cells {I : Nat → Prop} {cur : Array Value} {cs : List AVal} {ps : List PVal} (hl : cur.size = cs.length) (hc : CellsA w I m s cur cs) (hp : pcells cs = some ps) : ps.length = cur.size ∧ CellsP w I cur ps := by
 obtain ⟨qs, rfl, rfl⟩ := pcells_map hp
 refine ⟨by simpa using hl.symm, fun j u c hu hcc => ?_⟩
 rw [List.getElem?_map] at hcc
 cases hq : qs[j]? with
 | none => rw [hq] at hcc; cases hcc
 | some p =>
  rw [hq] at hcc; cases hcc
  have := hc j u (.p p) hu (by rw [List.getElem?_map, hq]; rfl)
  cases this with | p _ _ hp => exact hp.nrm

theorem ok_box {o : Oper} {isArr : Bool} {y : Opd} (hm : mBox o.op y = true) (h : SRep CM base Im0 w m s) (hb : base ≤ w.heap.size) (hρ : OpdOk w (Im base Im0 m s) m s ρ ρa) (hq : (opFn ρa s (.box isArr y)).All Q) :
  Post CM base Im0 w m s Q ((execOp ρ o).run P w) := by
 unfold mBox at hm
 split at hm
 ·rename_i t x hx
  have hrun : (execOp ρ o).run P w = .ok (.value (.pointer (some ⟨w.heap.size, 0, none⟩))) (w.alloc (.cells (ρ x).cells t)) := by
   simp [execOp, hx, Instr.box, newVar, run_newRow]
  simp only [opFn] at hq
  split at hq
  ·exact hq.elim
  ·rename_i cs hcs
   obtain ⟨hl, hc⟩ := (hρ x y hm).cells hcs
   split at hq
   ·split at hq
    ·rename_i ps hps
     obtain ⟨hl', hcc⟩ := pcells_cells hl hc hps
     obtain ⟨hs', hev⟩ := new_arr h hb (ρ x).cells t (0, 0) (nofrz0 _) ps 0 1 (by omega) hcc
     exact ⟨_, _, _, _, _, hq, hs', hev, ptr0_rep (by rw [get_new, if_pos rfl]) rfl rfl (upd_same _ _ _), .inl hrun⟩
    ·exact hq.elim
   ·obtain ⟨hs', hev⟩ := new_box h hb (ρ x).cells t cs hl.symm hc
    exact ⟨_, _, _, _, _, hq, hs', hev, ptr0_rep (by rw [get_new, if_pos rfl]) rfl rfl (upd_same _ _ _), .inl hrun⟩
 ·cases hm

/-! slices that a call owns from their beginning -/

def mNilown (o : Op) : Bool := match o with
 | .move (.const (.slice none n c)) | .assign (.const (.slice none n c)) => n == 0 && c == 0
 | _ => false

theorem sl0_rep {I : Nat → Prop} {w' : World} {m' : Mem} {s' : Sto} {i : Nat} {o : Obj} (a : Option Addr) (hg : get s' i = some o) (hr : rowO o = true) : ARep w' I m' s' (.slice a 0 0) (.sl i 0 0 0) :=
 .sl _ i 0 0 0 o hg hr (Nat.zero_le _) (fun _ => .inl ⟨rfl, a, rfl⟩) rfl

theorem new_nil (h : SRep CM base Im0 w m s) (hb : base ≤ w.heap.size) (es : Nat) :
  SRep CM base Im0 w (upd m (nextId s) none) ((nextId s, .arr [] 0 es) :: s) ∧ (∀ lo, Evo lo w m s w (upd m (nextId s) none) ((nextId s, .arr [] 0 es) :: s)) :=
 h.new (Ext.refl w) hb _ _ (fun b z hx => by cases hx) (fun I' m' s' _ _ _ hm _ => .inl ⟨hm, rfl⟩)

theorem ok_nilown {o : Oper} {es : Nat} (hm : mNilown o.op = true) (h : SRep CM base Im0 w m s) (hb : base ≤ w.heap.size) (hρ : ∀ v, ρ (.const v) = v) (hq : (opFn ρa s (.nilown es)).All Q) :
  Post CM base Im0 w m s Q ((execOp ρ o).run P w) := by
 obtain ⟨hs', hev⟩ := new_nil h hb es
 have key : ∀ n c, (n == 0 && c == 0) = true → (o.op = .move (.const (.slice none n c)) ∨ o.op = .assign (.const (.slice none n c))) → Post CM base Im0 w m s Q ((execOp ρ o).run P w) := by
  intro n c hnc ho
  simp at hnc
  obtain ⟨rfl, rfl⟩ := hnc
  refine ⟨_, _, w, _, .slice none 0 0, hq, hs', hev, sl0_rep none (by rw [get_new, if_pos rfl]) rfl, .inl ?_⟩
  rcases ho with ho | ho <;> simp [execOp, ho, hρ]
 unfold mNilown at hm
 split at hm
 ·rename_i n c hx; exact key n c hm (.inl hx)
 ·rename_i n c hx; exact key n c hm (.inr hx)
 ·cases hm

def mAllocown (P : Program) (o : Op) : Bool := match o with
 | .alloc t => (match P.info? t with | some i => (match i.zero with | some (.slice none n c) => n == 0 && c == 0 | _ => false) | none => false)
 | _ => false

theorem ok_allocown {o : Oper} {es : Nat} (hm : mAllocown P o.op = true) (h : SRep CM base Im0 w m s) (hb : base ≤ w.heap.size) (hq : (opFn ρa s (.allocown es)).All Q) :
  Post CM base Im0 w m s Q ((execOp ρ o).run P w) := by
 unfold mAllocown at hm
 split at hm
 ·rename_i t ht
  split at hm
  ·rename_i i hi
   split at hm
   ·rename_i n c hz
    simp at hm
    obtain ⟨rfl, rfl⟩ := hm
    have hrun : (execOp ρ o).run P w = .ok (.value (.pointer (some ⟨w.heap.size, 0, none⟩))) (w.alloc (.cells #[.slice none 0 0] t)) := by
     simp [execOp, ht, Instr.alloc, run_zero hi hz, newVar, run_newRow, Value.cells]
    obtain ⟨hs', hev⟩ := new_nil h hb es
    obtain ⟨hs2, hev2⟩ := new_box hs' (by simpa using hb) #[.slice none 0 0] t [.sl (nextId s) 0 0 0] rfl (fun j u a hu ha => by
     cases j with
     | zero => simp at hu ha; subst hu ha; exact sl0_rep none (by rw [get_new, if_pos rfl]) rfl
     | succ j => simp at ha)
    exact ⟨_, _, _, _, _, hq, hs2, fun lo => (hev lo).trans (hev2 lo), ptr0_rep (by rw [get_new, if_pos rfl]) rfl rfl (upd_same _ _ _), .inl hrun⟩
   ·cases hm
  ·cases hm
 ·cases hm

/-! loads -/

def mLd (P : Program) (o : Op) (agg : Bool) (sz : Nat) (y : Opd) : Bool := match o with
 | .load t x => mOpd x y && (match P.info? t, P.underlying t with
  | some i, some d => i.size == sz && (aggD d == agg)
  | _, _ => false)
 | _ => false

theorem readP_rep {I : Nat → Prop} {b e : Nat} {cur : Array Value} {fr : Nat × Nat} {cs : List PVal} {off o0 sz : Nat} {agg : Bool} {a : AVal} {t : Nat} {i : TypeInfo} {d : TypeDesc} (hb : w.heap[b]? = some (.cells cur e fr))
  (hc : ∀ (j : Nat) u c, cur[o0 + j]? = some u → cs[j]? = some c → PRep w I u c) (hlen : o0 + cs.length ≤ cur.size) (hr : readP agg cs off sz = some a) (hi : P.info? t = some i) (hd : P.underlying t = some d) (hsz : i.size = sz) (hagg : aggD d = agg) :
  ∃ v, (loadVar t ⟨b, o0 + off, none⟩).run P w = .ok v w ∧ ARep w I m s v a := by
 unfold readP at hr
 cases agg with
 | true =>
  simp only [if_true] at hr
  split at hr
  ·rename_i hle
   cases hr
   refine ⟨.agg (cur.extract (o0 + off) (o0 + off + sz)), ?_, .agg _ _ (by simp; omega) (fun j u c hu hcc => ?_)⟩
   ·simp only [loadVar, Sem.run_bind, run_isAgg hd, Result.andThen_ok, hagg, if_true, run_size hi, hsz]
    rw [run_loads hb (o0 + off) sz (by omega)]; rfl
   ·rw [List.getElem?_map, List.getElem?_take] at hcc
    split at hcc
    ·rw [List.getElem?_drop] at hcc
     cases hx : cs[off + j]? with
     | none => rw [hx] at hcc; cases hcc
     | some p =>
      rw [hx] at hcc; cases hcc
      rw [Array.getElem?_extract] at hu
      split at hu
      ·exact .p _ _ (hc (off + j) u p (by rw [← Nat.add_assoc]; exact hu) hx)
      ·cases hu
    ·cases hcc
  ·cases hr
 | false =>
  simp only [Bool.false_eq_true, if_false] at hr
  split at hr
  ·rename_i p hp
   cases hr
   obtain ⟨u, hu⟩ := agetElem?_of_lt cur (o0 + off) (by have := lt_of_some hp; omega)
   refine ⟨u, ?_, .p _ _ (hc off u p hu hp)⟩
   simp only [loadVar, Sem.run_bind, run_isAgg hd, Result.andThen_ok, hagg, Bool.false_eq_true, if_false]
   exact run_load_row hb hu
  ·cases hr

theorem readA_rep {I : Nat → Prop} {b e : Nat} {cur : Array Value} {fr : Nat × Nat} {cs : List AVal} {off sz : Nat} {agg : Bool} {a : AVal} {t : Nat} {i : TypeInfo} {d : TypeDesc} (hb : w.heap[b]? = some (.cells cur e fr))
  (hc : CellsA w I m s cur cs) (hlen : cs.length = cur.size) (hr : readA agg cs off sz = some a) (hi : P.info? t = some i) (hd : P.underlying t = some d) (hsz : i.size = sz) (hagg : aggD d = agg) :
  ∃ v, (loadVar t ⟨b, off, none⟩).run P w = .ok v w ∧ ARep w I m s v a := by
 unfold readA at hr
 cases agg with
 | true =>
  simp only [if_true] at hr
  split at hr
  ·rename_i hle
   cases hr
   refine ⟨.agg (cur.extract off (off + sz)), ?_, .agg _ _ (by simp; omega) (fun j u c hu hcc => ?_)⟩
   ·simp only [loadVar, Sem.run_bind, run_isAgg hd, Result.andThen_ok, hagg, if_true, run_size hi, hsz]
    rw [run_loads hb off sz (by omega)]; rfl
   ·rw [List.getElem?_take] at hcc
    split at hcc
    ·rw [List.getElem?_drop] at hcc
     rw [Array.getElem?_extract] at hu
     split at hu
     ·exact hc (off + j) u c hu hcc
     ·cases hu
    ·cases hcc
  ·cases hr
 | false =>
  simp only [Bool.false_eq_true, if_false] at hr
  obtain ⟨u, hu⟩ := agetElem?_of_lt cur off (by have := lt_of_some hr; omega)
  refine ⟨u, ?_, hc off u a hu hr⟩
  simp only [loadVar, Sem.run_bind, run_isAgg hd, Result.andThen_ok, hagg, Bool.false_eq_true, if_false]
  exact run_load_row hb hu

theorem loadA_rep (h : SRep CM base Im0 w m s) {x : Value} {xa : AVal} (hx : ARep w (Im base Im0 m s) m s x xa) {agg : Bool} {sz : Nat} {a : AVal} (hr : loadA s agg sz xa = some a) {t : Nat} {i : TypeInfo} {d : TypeDesc}
  (hi : P.info? t = some i) (hd : P.underlying t = some d) (hsz : i.size = sz) (hagg : aggD d = agg) :
  ∃ ad v, x = .pointer (some ad) ∧ (loadVar t ad).run P w = .ok v w ∧ ARep w (Im base Im0 m s) m s v a := by
 cases hx with
 | p v p hp =>
  cases hp with
  | pp b off cur e fr cs hI hb hl hc =>
   simp only [loadA] at hr
   obtain ⟨v, h1, h2⟩ := readP_rep (m := m) (s := s) (P := P) hb hc (by omega) hr hi hd hsz hagg
   exact ⟨_, v, rfl, by simpa using h1, h2⟩
  | _ => simp [loadA] at hr
 | ptr v j ver off o hg hrow hver hcase =>
  simp only [loadA, hg] at hr
  cases o with
  | arr cs vr es =>
   simp only at hr
   split at hr
   ·rename_i hv; subst hv
    obtain ⟨b, z, hm, rfl⟩ := hcase rfl
    rcases h.obj j _ hg with h1 | ⟨b', z', cur, e, fr', h1, h2, h3, h4, h5, h6⟩
    ·rw [hm] at h1; cases h1.1
    ·rw [hm] at h1; cases h1
     obtain ⟨v, k1, k2⟩ := readP_rep (m := m) (s := s) (P := P) (o0 := 0) h2 (fun j u c hu hc => h6 j u c (by simpa using hu) hc) (by omega) hr hi hd hsz hagg
     exact ⟨_, v, rfl, by simpa using k1, k2⟩
   ·cases hr
  | frz cs vr es =>
   simp only at hr
   split at hr
   ·rename_i hv; subst hv
    obtain ⟨b, z, hm, rfl⟩ := hcase rfl
    rcases h.obj j _ hg with h1 | ⟨b', z', cur, e, fr', h1, h2, h3, h4, h5, h6⟩
    ·rw [hm] at h1; cases h1.1
    ·rw [hm] at h1; cases h1
     obtain ⟨v, k1, k2⟩ := readP_rep (m := m) (s := s) (P := P) (o0 := 0) h2 (fun j u c hu hc => h6 j u c (by simpa using hu) hc) (by omega) hr hi hd hsz hagg
     exact ⟨_, v, rfl, by simpa using k1, k2⟩
   ·cases hr
  | box cs =>
   simp only at hr
   split at hr
   ·rename_i hv
    obtain ⟨b, z, hm, rfl⟩ := hcase (by simpa [verO] using hv.symm)
    obtain ⟨b', z', cur, e, fr', h1, h2, h3, h4, h5, h6⟩ := h.obj j _ hg
    rw [hm] at h1; cases h1
    obtain ⟨v, k1, k2⟩ := readA_rep (P := P) h2 h6 (by omega) hr hi hd hsz hagg
    exact ⟨_, v, rfl, k1, k2⟩
   ·cases hr
  | map => cases hrow
  | fmap => cases hrow
  | siter => cases hrow
  | miter => cases hrow
  | loop => cases hrow
 | any => simp [loadA] at hr
 | sl => simp [loadA] at hr
 | mp => simp [loadA] at hr
 | it => simp [loadA] at hr
 | yld => simp [loadA] at hr
 | clo => simp [loadA] at hr
 | agg => simp [loadA] at hr
 | tup => simp [loadA] at hr

theorem ok_ld {o : Oper} {agg : Bool} {sz : Nat} {y : Opd} (hm : mLd P o.op agg sz y = true) (h : SRep CM base Im0 w m s) (hρ : OpdOk w (Im base Im0 m s) m s ρ ρa) (hq : (opFn ρa s (.ld agg sz y)).All Q) :
  Post CM base Im0 w m s Q ((execOp ρ o).run P w) := by
 unfold mLd at hm
 split at hm
 ·rename_i t x hx
  simp only [Bool.and_eq_true] at hm
  obtain ⟨h1, h2⟩ := hm
  split at h2
  ·rename_i i d hi hd
   simp only [Bool.and_eq_true, beq_iff_eq] at h2
   simp only [opFn] at hq
   unfold opt1 at hq
   split at hq
   ·rename_i a ha
    obtain ⟨ad, v, e1, e2, e3⟩ := loadA_rep h (hρ x y h1) ha hi hd h2.1 h2.2
    exact Post.same h hq e3 (by simp [execOp, hx, Instr.loadAt, e1, Instr.sureAddr, e2])
   ·exact hq.elim
  ·cases h2
 ·cases hm
end
end Fw
end

section
/-
  Operations, second part: stores, aggregates, slices that are laid, arithmetic, conversions.
-/
namespace Fw
open Go

theorem upd_self (m : Mem) (i : Nat) : upd m i (m i) = m := by funext j; unfold upd; split <;> simp_all

theorem foldl_setA (vs : List Value) : ∀ (cur : Array Value) (off k : Nat), (vs.zipIdx k).foldl (fun cs (x : Value × Nat) => cs.setIfInBounds (off + x.2) x.1) cur = setA cur (off + k) vs := by
 induction vs with
 | nil => intros; rfl
 | cons v r ih => intro cur off k; simp only [List.zipIdx_cons, List.foldl_cons, setA]; rw [ih]; rfl

section
variable {CM : Nat → Code → ACode → Prop} {base : Nat} {Im0 : Nat → Prop} {w : World} {m : Mem} {s : Sto} {P : Program} {ρ : Operand → Value} {ρa : Opd → AVal} {Q : AVal × Sto → Prop}

theorem write_arr (h : SRep CM base Im0 w m s) {i b z e : Nat} {cs : List PVal} {ver es : Nat} {cur : Array Value} {fr : Nat × Nat} (hg : get s i = some (.arr cs ver es)) (hm : m i = some (b, z)) (hb : w.heap[b]? = some (.cells cur e fr))
  (hfr : NoFrz fr z) (_hz : cur.size = z) (cs' : List PVal) (cur' : Array Value) (hz' : cur'.size = z) (hl : cs'.length ≤ z) (hc : CellsP w (Im base Im0 m s) cur' cs') :
  SRep CM base Im0 (setB w b (.cells cur' e fr)) m (put s i (.arr cs' ver es)) ∧ (∀ lo, Evo lo w m s (setB w b (.cells cur' e fr)) m (put s i (.arr cs' ver es))) := by
 have := h.put (o' := .arr cs' ver es) hg (m i) (w' := setB w b (.cells cur' e fr)) rfl rfl rfl (by rw [setB_size]; exact Nat.le_refl _)
  (fun b' hb' hz' => setB_ne w _ (fun e => by subst e; have := hz' z hm; cases this))
  (fun b' z' lp hm' hl' => by rw [hm] at hm'; cases hm'; rw [hb] at hl'; cases hl')
  (fun b' z' hx => .inl ⟨z', hx⟩) rfl rfl (Nat.le_refl _) (fun _ => ⟨rfl, rfl⟩) (fun _ => rfl)
  (fun I' hk hko _ => .inr ⟨b, z, cur', e, fr, by rw [upd_same]; exact hm, setB_same w _ (heap_lt hb), hfr, hz', hl, hc.mono hk⟩)
 rwa [upd_self] at this

theorem write_box (h : SRep CM base Im0 w m s) {i b z e : Nat} {cs : List AVal} {cur : Array Value} {fr : Nat × Nat} (hg : get s i = some (.box cs)) (hm : m i = some (b, z)) (hb : w.heap[b]? = some (.cells cur e fr))
  (hfr : NoFrz fr z) (_hz : cur.size = z) (cs' : List AVal) (cur' : Array Value) (hz' : cur'.size = z) (hl : cs'.length = z) (hc : CellsA w (Im base Im0 m s) m s cur' cs') :
  SRep CM base Im0 (setB w b (.cells cur' e fr)) m (put s i (.box cs')) ∧ (∀ lo, Evo lo w m s (setB w b (.cells cur' e fr)) m (put s i (.box cs'))) := by
 have := h.put (o' := .box cs') hg (m i) (w' := setB w b (.cells cur' e fr)) rfl rfl rfl (by rw [setB_size]; exact Nat.le_refl _)
  (fun b' hb' hz' => setB_ne w _ (fun e => by subst e; have := hz' z hm; cases this))
  (fun b' z' lp hm' hl' => by rw [hm] at hm'; cases hm'; rw [hb] at hl'; cases hl')
  (fun b' z' hx => .inl ⟨z', hx⟩) rfl rfl (Nat.le_refl _) (fun _ => ⟨rfl, rfl⟩) (fun _ => rfl)
  (fun I' hk hko _ => ⟨b, z, cur', e, fr, by rw [upd_same]; exact hm, setB_same w _ (heap_lt hb), hfr, hz', hl, fun j u a hu ha => (hc j u a hu ha).mono hk hko⟩)
 rwa [upd_self] at this

def mSt (P : Program) (o : Op) (sz : Nat) (y z : Opd) : Bool := match o with
 | .store t x v => mOpd x y && mOpd v z && (match P.info? t with | some i => i.size == sz | none => false)
 | _ => false

theorem okC_one {I : Nat → Prop} {v : Value} {a : AVal} (h : ARep w I m s v a) (hc : okC a = true) : v.oneCell' = true := by
 exact h.oneCell (fun e => by subst e; cases hc) (fun l e => by subst e; cases hc) (fun l e => by subst e; cases hc)

theorem run_storeVar {t : Nat} {i : TypeInfo} {b e : Nat} {cur : Array Value} {fr : Nat × Nat} {off : Nat} {v : Value} (hi : P.info? t = some i) (hb : w.heap[b]? = some (.cells cur e fr)) (hf : NoFrz fr cur.size) (hsz : v.cells.size = i.size)
  (hl : off + v.cells.size ≤ cur.size) (h1 : ∀ u ∈ v.cells.toList, u.oneCell' = true) : (storeVar t ⟨b, off, none⟩ v).run P w = .ok () (setB w b (.cells (setA cur off v.cells.toList) e fr)) := by
 have := run_stores (P := P) v.cells.toList cur w off 0 hb hf (by simpa using hl) h1
 simp [storeVar, run_size hi, hsz, this]

theorem store_spec (h : SRep CM base Im0 w m s) {x v : Value} {xa va : AVal} {sz : Nat} (hx : ARep w (Im base Im0 m s) m s x xa) (hv : ARep w (Im base Im0 m s) m s v va) {s' : Sto} (hs : storeA s sz xa va = some s') {t : Nat} {i : TypeInfo} (hi : P.info? t = some i) (hsz : i.size = sz) :
  ∃ ad w', x = .pointer (some ad) ∧ (storeVar t ad v).run P w = .ok () w' ∧ SRep CM base Im0 w' m s' ∧ (∀ lo, Evo lo w m s w' m s') := by
 unfold storeA at hs
 split at hs
 ·rename_i id ver off vs hvs
  obtain ⟨hcl, hcc⟩ := hv.cells hvs
  split at hs
  ·cases hs
  ·rename_i hlen
   have hlen : vs.length = sz := by simpa using hlen
   split at hs
   ·rename_i cs vr es hg
    split at hs
    ·rename_i hc
     obtain ⟨rfl, hbd⟩ := hc
     cases hx with
     | ptr _ _ _ _ o hg' hrow hver hcase =>
     rw [hg] at hg'; cases hg'
     obtain ⟨b, z, hm, rfl⟩ := hcase rfl
     rcases h.obj id _ hg with h1 | ⟨b', z', cur, e, fr, h1, h2, h3, h4, h5, h6⟩
     ·rw [hm] at h1; cases h1.1
     ·rw [hm] at h1; cases h1
      split at hs
      ·rename_i ps hps
       cases hs
       obtain ⟨hpl, hpc⟩ := pcells_cells hcl hcc hps
       refine ⟨_, _, rfl, run_storeVar hi h2 (by rw [h4]; exact h3) (by omega) (by omega) (fun u hu => ?_), write_arr h hg hm h2 h3 h4 _ _ (by rw [setA_size]; exact h4) (by rw [setCells_length]; exact h5) ?_⟩
       ·obtain ⟨j, hj⟩ := List.getElem?_of_mem hu
        rw [Array.getElem?_toList] at hj
        obtain ⟨p, hp⟩ := getElem?_of_lt ps j (by have := alt_of_some hj; omega)
        exact (hpc j u p hj hp).one'
       ·exact setA_rel (PRep w (Im base Im0 m s)) _ ps cur cs off (by simp; omega) h6 (fun j u c hu hc => hpc j u c (by simpa using hu) hc) (by omega) (by omega)
      ·simp only at hs
       split at hs
       ·rename_i cs2 vr2 es2 ps hg2 hps
        cases hs
        obtain ⟨hs1, ev1⟩ := froze_rep h [va]
        obtain ⟨hpl, hpe⟩ := mapM_spec hps
        rcases hs1.obj id _ hg2 with k1 | ⟨b', z', cur2, e2, fr2, k1, k2, k3, k4, k5, k6⟩
        ·rw [hm] at k1; cases k1.1
        ·rw [hm] at k1; cases k1
         rw [h2] at k2; cases k2
         have hbd2 : off + ps.length ≤ cs2.length := by
          have : cs2.length = cs.length := by
           have hx := ‹get (froze s [va]) id = some (Obj.arr cs2 vr2 es2)›
           exact froze_arr_len hg hx
          omega
         have hpc : ∀ (j : Nat) u c, v.cells[j]? = some u → ps[j]? = some c → PRep w (Im base Im0 m (froze s [va])) u c := fun j u c hu hc => by
          obtain ⟨a, ha⟩ := getElem?_of_lt vs j (by have := lt_of_some hc; omega)
          have ha' := (hcc j u a hu ha).mono (ev1 0).keeps (fun i o hg => (ev1 (i + 1)).obj i (by omega) o hg)
          exact toP_rep hs1 true _ (fun _ h => h) (fun h => by cases h) depthP u a c ha' (hpe j a c ha hc)
         obtain ⟨hs2, ev2⟩ := write_arr hs1 hg2 hm h2 k3 h4 _ (setA cur off v.cells.toList) (by rw [setA_size]; exact h4) (by rw [setCells_length]; exact k5)
          (setA_rel (PRep w (Im base Im0 m (froze s [va]))) _ ps cur cs2 off (by simp; omega) k6 (fun j u c hu hc => hpc j u c (by simpa using hu) hc) hbd2 (by omega))
         refine ⟨_, _, rfl, run_storeVar hi h2 (by rw [h4]; exact h3) (by omega) (by omega) (fun u hu => ?_), hs2, fun lo => (ev1 lo).trans (ev2 lo)⟩
         obtain ⟨j, hj⟩ := List.getElem?_of_mem hu
         rw [Array.getElem?_toList] at hj
         obtain ⟨p, hp⟩ := getElem?_of_lt ps j (by have := alt_of_some hj; omega)
         exact (hpc j u p hj hp).one'
       ·cases hs
    ·cases hs
   ·rename_i cs hg
    split at hs
    ·rename_i hc
     obtain ⟨hv0, hbd, hok⟩ := hc
     cases hs
     cases hx with
     | ptr _ _ _ _ o hg' hrow hver hcase =>
     rw [hg] at hg'; cases hg'
     obtain ⟨b, z, hm, rfl⟩ := hcase (by simpa [verO] using hv0.symm)
     obtain ⟨b', z', cur, e, fr, h1, h2, h3, h4, h5, h6⟩ := h.obj id _ hg
     rw [hm] at h1; cases h1
     refine ⟨_, _, rfl, run_storeVar hi h2 (by rw [h4]; exact h3) (by omega) (by omega) (fun u hu => ?_), write_box h hg hm h2 h3 h4 _ _ (by rw [setA_size]; exact h4) (by rw [setCells_length]; exact h5) ?_⟩
     ·obtain ⟨j, hj⟩ := List.getElem?_of_mem hu
      rw [Array.getElem?_toList] at hj
      obtain ⟨a, ha⟩ := getElem?_of_lt vs j (by have := alt_of_some hj; omega)
      exact okC_one (hcc j u a hj ha) (List.all_eq_true.1 hok a (List.mem_of_getElem? ha))
     ·exact setA_rel (ARep w (Im base Im0 m s) m s) _ vs cur cs off (by simp; omega) h6 (fun j u c hu hc => hcc j u c (by simpa using hu) hc) (by omega) (by omega)
    ·cases hs
   ·cases hs
 ·cases hs
  where
 froze_arr_len {s : Sto} {id : Nat} {cs : List PVal} {vr es : Nat} {cs2 : List PVal} {vr2 es2 : Nat} {as : List AVal} (hg : get s id = some (.arr cs vr es)) (hg2 : get (froze s as) id = some (.arr cs2 vr2 es2)) : cs2.length = cs.length := by
  have step : ∀ (l : List Nat) (s : Sto) (cs2 : List PVal) (v2 e2 : Nat), get (freeze1 l s) id = some (.arr cs2 v2 e2) → get s id = some (.arr cs2 v2 e2) := fun l s cs2 v2 e2 hx => by
   rw [get_freeze1] at hx
   cases hp : get s id with
   | none => rw [hp] at hx; cases hx
   | some p =>
    rw [hp] at hx
    simp only [Option.map_some, Option.some.injEq] at hx
    split at hx
    ·rcases freezeO_cases s p with e | e
     ·rw [e] at hx; rw [hx]
     ·rw [hx] at e; cases e
    ·rw [hx]
  unfold froze at hg2
  split at hg2
  ·rw [hg] at hg2; cases hg2; rfl
  ·have := step _ _ _ _ _ (step _ _ _ _ _ hg2)
   rw [hg] at this; cases this; rfl

theorem ok_st {o : Oper} {sz : Nat} {y z : Opd} (hm : mSt P o.op sz y z = true) (h : SRep CM base Im0 w m s) (hρ : OpdOk w (Im base Im0 m s) m s ρ ρa) (hq : (opFn ρa s (.st sz y z)).All Q) :
  Post CM base Im0 w m s Q ((execOp ρ o).run P w) := by
 unfold mSt at hm
 split at hm
 ·rename_i t x v hx
  simp only [Bool.and_eq_true] at hm
  obtain ⟨⟨h1, h2⟩, h3⟩ := hm
  split at h3
  ·rename_i i hi
   simp only [beq_iff_eq] at h3
   simp only [opFn] at hq
   split at hq
   ·rename_i s' hs
    obtain ⟨ad, w', e1, e2, e3, e4⟩ := store_spec h (hρ x y h1) (hρ v z h2) hs hi h3
    exact ⟨_, _, _, _, undef, hq, e3, e4, rep_undef _, .inr ⟨by simp [execOp, hx, Instr.storeAt, e1, Instr.sureAddr, e2], rfl⟩⟩
   ·exact hq.elim
  ·cases h3
 ·cases hm

/-! aggregates -/

def mParts (place : Nat → Option (Nat × Nat)) : List (Nat × Operand) → List (Nat × Nat × Opd) → Bool
 | [], [] => true
 | (i, x) :: r, (off, sz, y) :: q => place i == some (off, sz) && mOpd x y && mParts place r q
 | _, _ => false

def mBuild (P : Program) (o : Op) (zero : List AVal) (ps : List (Nat × Nat × Opd)) : Bool := match o with
 | .build t parts => mZero P t zero && (match P.underlying t with
  | some (.struct fs) => (fs.toList.all fun f => (P.info? f.type).isSome) && mParts (fun i => (fs[i]?).map fun f => (f.offset, ((P.info? f.type).map (·.size)).getD 0)) parts.toList ps
  | some (.array _ e) => (P.info? e).isSome && mParts (fun i => some (i * ((P.info? e).map (·.size)).getD 0, ((P.info? e).map (·.size)).getD 0)) parts.toList ps
  | _ => false)
 | _ => false

theorem fill_spec {I : Nat → Prop} (place : Nat → Option (Nat × Nat)) (ρ : Operand → Value) (ρa : Opd → AVal) (hρ : OpdOk w I m s ρ ρa) : ∀ (l : List (Nat × Operand)) (q : List (Nat × Nat × Opd)) (cur : Array Value) (zero : List AVal) (r : List AVal), mParts place l q = true →
  cur.size = zero.length → CellsA w I m s cur zero → fillA zero (q.map fun x => (x.1, x.2.1, ρa x.2.2)) = some r →
  ∃ cells, Instr.fill place cur (l.map fun x => (x.1, ρ x.2)) = some cells ∧ cells.size = r.length ∧ CellsA w I m s cells r := by
 intro l
 induction l with
 | nil =>
  intro q cur zero r hm hz hc hf
  cases q with
  | nil => simp [fillA] at hf; subst hf; exact ⟨cur, rfl, hz, hc⟩
  | cons => simp [mParts] at hm
 | cons x t ih =>
  intro q cur zero r hm hz hc hf
  obtain ⟨i, x⟩ := x
  cases q with
  | nil => simp [mParts] at hm
  | cons y q =>
   obtain ⟨off, sz, y⟩ := y
   simp only [mParts, Bool.and_eq_true, beq_iff_eq] at hm
   obtain ⟨⟨h1, h2⟩, h3⟩ := hm
   simp only [List.map_cons, fillA] at hf
   split at hf
   ·rename_i cs hcs
    split at hf
    ·rename_i hlen
     obtain ⟨hl1, hl2⟩ := (hρ x y h2).cells hcs
     obtain ⟨cells, e1, e2, e3⟩ := ih q (setA cur off (ρ x).cells.toList) (setCells zero off cs) r h3 (by rw [setA_size, setCells_length]; exact hz)
      (setA_rel (ARep w I m s) _ cs cur zero off (by simpa using hl1) hc (fun j u c hu hc => hl2 j u c (by simpa using hu) hc) (by omega) (by omega)) hf
     refine ⟨cells, ?_, e2, e3⟩
     simp only [List.map_cons, Instr.fill, h1]
     rw [if_neg (by simp; omega)]
     have hfold : Array.foldl (fun cs x => cs.setIfInBounds (off + x.2) x.1) cur (ρ x).cells.zipIdx = setA cur off (ρ x).cells.toList := by
      rw [← Array.foldl_toList, Array.toList_zipIdx]
      simpa using foldl_setA (ρ x).cells.toList cur off 0
     rw [hfold]; exact e1
    ·cases hf
   ·cases hf

theorem run_places {fs : Array Field} (h : (fs.toList.all fun f => (P.info? f.type).isSome) = true) (w : World) :
  (fs.mapM fun f => (do pure (f.offset, ← Go.sizeOf f.type) : Sem (Nat × Nat))).run P w = .ok (fs.map fun f => (f.offset, ((P.info? f.type).map (·.size)).getD 0)) w := by
 have key : ∀ (l : List Field), (l.all fun f => (P.info? f.type).isSome) = true → (l.mapM fun f => (do pure (f.offset, ← Go.sizeOf f.type) : Sem (Nat × Nat))).run P w = .ok (l.map fun f => (f.offset, ((P.info? f.type).map (·.size)).getD 0)) w := by
  intro l
  induction l with
  | nil => intro _; rfl
  | cons f r ih =>
   intro hl
   simp only [List.all_cons, Bool.and_eq_true] at hl
   obtain ⟨i, hi⟩ := Option.isSome_iff_exists.1 hl.1
   rw [List.mapM_cons]
   simp only [Sem.run_bind, run_size hi, Result.andThen_ok, Sem.run_pure, ih hl.2, List.map_cons, hi, Option.map_some, Option.getD_some]
 rw [Array.mapM_eq_mapM_toList]
 simp only [Sem.run_map, key _ h, Result.andThen_ok]
 congr 1
 apply Array.ext'
 simp

theorem ok_build {o : Oper} {zero : List AVal} {ps : List (Nat × Nat × Opd)} (hm : mBuild P o.op zero ps = true) (h : SRep CM base Im0 w m s) (hρ : OpdOk w (Im base Im0 m s) m s ρ ρa) (hq : (opFn ρa s (.build zero ps)).All Q) :
  Post CM base Im0 w m s Q ((execOp ρ o).run P w) := by
 unfold mBuild at hm
 split at hm
 ·rename_i t parts hx
  simp only [Bool.and_eq_true] at hm
  obtain ⟨h1, h2⟩ := hm
  obtain ⟨i, z, hi, hz, hc⟩ := mZero_spec h1
  obtain ⟨hzl, hzc⟩ := cellsA_of_const (w := w) (m := m) (s := s) hc (Im base Im0 m s)
  simp only [opFn] at hq
  unfold opt1 at hq
  cases hf : fillA zero (ps.map fun x => (x.1, x.2.1, ρa x.2.2)) with
  | none => rw [hf] at hq; exact hq.elim
  | some r =>
   rw [hf] at hq
   split at h2
   ·rename_i fs hu
    simp only [Bool.and_eq_true] at h2
    obtain ⟨cells, e1, e2, e3⟩ := fill_spec _ ρ ρa hρ _ _ z.cells zero r h2.2 (by simpa using hzl) (by simpa using hzc) hf
    refine Post.same h hq (.agg cells r e2 e3) ?_
    have hplace : (fun (i : Nat) => (fs.map fun (f : Field) => (f.offset, ((P.info? f.type).map (·.size)).getD 0))[i]?) = (fun (i : Nat) => (fs[i]?).map fun (f : Field) => (f.offset, ((P.info? f.type).map (·.size)).getD 0)) := by funext i; simp
    simp only [execOp, hx, Instr.build, Sem.run_bind, run_zero hi hz, Result.andThen_ok, run_underlying hu, run_places h2.1]
    rw [hplace]
    simp [e1]
   ·rename_i n e hu
    simp only [Bool.and_eq_true] at h2
    obtain ⟨ie, hie⟩ := Option.isSome_iff_exists.1 h2.1
    obtain ⟨cells, e1, e2, e3⟩ := fill_spec _ ρ ρa hρ _ _ z.cells zero r h2.2 (by simpa using hzl) (by simpa using hzc) hf
    refine Post.same h hq (.agg cells r e2 e3) ?_
    simp only [hie, Option.map_some, Option.getD_some] at e1
    simp [execOp, hx, Instr.build, run_zero hi hz, run_underlying hu, run_size hie, e1]
   ·cases h2
 ·cases hm

/-! slices that are laid -/

theorem flatten_rep {α : Type} (z : List α) : ∀ (n j : Nat), (List.replicate n z).flatten[j]? = if j < n * z.length then z[j % z.length]? else none := by
 intro n
 induction n with
 | zero => intro j; simp
 | succ n ih =>
  intro j
  rw [List.replicate_succ, List.flatten_cons]
  by_cases hj : j < z.length
  ·rw [List.getElem?_append_left hj, Nat.mod_eq_of_lt hj, if_pos (by rw [Nat.succ_mul]; omega)]
  ·rw [List.getElem?_append_right (by omega), ih]
   have hz : 0 < z.length ∨ z.length = 0 := by omega
   have hmod : (j - z.length) % z.length = j % z.length := by
    rw [← Nat.mod_eq_sub_mod (by omega)]
   rw [hmod]
   have : (j - z.length < n * z.length) ↔ (j < (n + 1) * z.length) := by rw [Nat.succ_mul]; omega
   simp only [this]

def mBslice (P : Program) (o : Op) (es : Nat) (zero : List AVal) (n : Nat) (ps : List (Nat × Opd)) : Bool := match o with
 | .buildSlice t n' parts => n == n' && (match P.underlying t with
  | some (.slice e) => mZero P e zero && (match P.info? e with | some i => i.size == es && zero.length == es && decide (0 < es) && decide (n * es ≤ 16777216) | none => false) &&
   (if n = 0 then parts.size == 0 && ps.isEmpty else mParts (fun i => some (i * es, es)) parts.toList (ps.map fun x => (x.1 * es, es, x.2)))
  | _ => false)
 | _ => false

theorem zeros_eq (z : Array Value) (k : Nat) (hz : 0 < z.size) : ∀ (j : Nat) u, ((Array.range k).map (fun i => z[i % z.size]!))[j]? = some u → j < k ∧ z[j % z.size]? = some u := by
 intro j u hu
 rw [Array.getElem?_map] at hu
 by_cases hj : j < k
 ·rw [Array.getElem?_range, if_pos hj] at hu
  simp only [Option.map_some, Option.some.injEq] at hu
  refine ⟨hj, ?_⟩
  have := Nat.mod_lt j hz
  rw [Array.getElem?_eq_getElem this]
  rw [getElem!_pos z _ this] at hu
  rw [hu]
 ·rw [Array.getElem?_range, if_neg hj] at hu; cases hu

theorem zeros_cells {I : Nat → Prop} {z : Array Value} {zero : List AVal} (hzl : z.size = zero.length) (hpos : 0 < zero.length) (hzc : CellsA w I m s z zero) (n : Nat) :
  ((Array.range (n * zero.length)).map (fun i => z[i % z.size]!)).size = (List.replicate n zero).flatten.length ∧ CellsA w I m s ((Array.range (n * zero.length)).map (fun i => z[i % z.size]!)) (List.replicate n zero).flatten := by
 refine ⟨by simp [List.length_flatten], fun j u c hu hc => ?_⟩
 obtain ⟨h1, h2⟩ := zeros_eq z _ (by omega) j u hu
 rw [flatten_rep, if_pos h1] at hc
 rw [hzl] at h2
 exact hzc _ u c h2 hc

theorem new_data (h : SRep CM base Im0 w m s) (hb : base ≤ w.heap.size) (o : Go.Obj) : SRep CM base Im0 (w.alloc o) m s ∧ (∀ lo, Evo lo w m s (w.alloc o) m s) ∧ Im base Im0 m s w.heap.size :=
 ⟨h.ext (Ext.alloc w o), fun lo => (Ext.alloc w o).evo lo m s, fun hlt => absurd hlt (by omega), fun ⟨i, p, z, g1, _, g3⟩ => by have := (h.rng i p _ z g1 g3).2; omega⟩

theorem fillA_length : ∀ (l : List (Nat × Nat × AVal)) (z r : List AVal), fillA z l = some r → r.length = z.length := by
 intro l
 induction l with
 | nil => intro z r h; simp [fillA] at h; rw [h]
 | cons x t ih =>
  intro z r h
  obtain ⟨off, sz, v⟩ := x
  simp only [fillA] at h
  split at h
  ·split at h
   ·rw [ih _ _ h, setCells_length]
   ·cases h
  ·cases h

theorem bslice_run {o : Oper} {es : Nat} {zero : List AVal} {n : Nat} {ps : List (Nat × Opd)} (hm : mBslice P o.op es zero n ps = true) (hρ : OpdOk w (Im base Im0 m s) m s ρ ρa) {cs : List AVal}
  (hf : fillA (List.replicate n zero).flatten (ps.map fun x => (x.1 * es, es, ρa x.2)) = some cs) :
  0 < es ∧ cs.length = n * es ∧ ∃ e cells, (execOp ρ o).run P w = .ok (.value (.slice (some ⟨w.heap.size, 0, none⟩) n n)) (w.alloc (.cells cells e)) ∧ cells.size = cs.length ∧ CellsA w (Im base Im0 m s) m s cells cs := by
 unfold mBslice at hm
 split at hm
 ·rename_i t n' parts hx
  simp only [Bool.and_eq_true, beq_iff_eq] at hm
  obtain ⟨rfl, h2⟩ := hm
  split at h2
  ·rename_i e hu
   simp only [Bool.and_eq_true] at h2
   obtain ⟨⟨h3, h4⟩, h5⟩ := h2
   obtain ⟨i, z, hi, hz, hc⟩ := mZero_spec h3
   rw [hi] at h4
   simp only [Bool.and_eq_true, beq_iff_eq, decide_eq_true_eq] at h4
   obtain ⟨⟨⟨k1, k2⟩, k3⟩, k4⟩ := h4
   obtain ⟨hzl, hzc⟩ := cellsA_of_const (w := w) (m := m) (s := s) hc (Im base Im0 m s)
   obtain ⟨y1, y2⟩ := zeros_cells (z := z.cells) (by simpa using hzl) (by omega) (by simpa using hzc) n
   have hpm : (ps.map fun x => (x.1 * es, es, ρa x.2)) = (ps.map fun x => (x.1 * es, es, x.2)).map fun x => (x.1, x.2.1, ρa x.2.2) := by simp [Function.comp_def]
   have hcl : cs.length = n * es := by rw [fillA_length _ _ _ hf, List.length_flatten]; simp [k2]
   refine ⟨k3, hcl, e, ?_⟩
   have hle : ¬ n * es > 2 ^ 24 := by simp; omega
   by_cases hn : n = 0
   ·subst hn
    simp only [if_true, Bool.and_eq_true, beq_iff_eq, List.isEmpty_iff] at h5
    obtain ⟨h5, rfl⟩ := h5
    have hp0 : parts = #[] := Array.eq_empty_of_size_eq_zero h5
    subst hp0
    simp [fillA] at hf
    subst hf
    refine ⟨#[], ?_, rfl, fun j u c hu hc => by simp at hu⟩
    simp [execOp, hx, Instr.buildSlice, run_underlying hu, run_size hi, k1, Instr.fill, run_newRow, show Array.range 0 = #[] from rfl]
   ·rw [if_neg hn] at h5
    rw [hpm] at hf
    obtain ⟨cells, e1, e2, e3⟩ := fill_spec _ ρ ρa hρ _ _ _ _ cs h5 y1 y2 hf
    refine ⟨cells, ?_, e2, e3⟩
    have hnz : ¬ n * es = 0 := fun h0 => by rcases Nat.mul_eq_zero.1 h0 with h0 | h0 <;> omega
    rw [k2] at e1
    simp [execOp, hx, Instr.buildSlice, run_underlying hu, run_size hi, k1, hle, hnz, run_zero hi hz, e1, run_newRow]
  ·cases h2
 ·cases hm

theorem sl_rep {I : Nat → Prop} {w' : World} {m' : Mem} {s' : Sto} {i b z es n : Nat} {cs : List PVal} (hg : get s' i = some (.arr cs 0 es)) (hm : m' i = some (b, z)) (hz : n * es ≤ z) : ARep w' I m' s' (.slice (some ⟨b, 0, none⟩) n n) (.sl i 0 0 n) :=
 .sl _ i 0 0 n _ hg rfl (Nat.le_refl _) (fun _ => .inr ⟨b, z, n, hm, rfl, Nat.le_refl _, by simpa [esO] using hz⟩) rfl

theorem ok_bslice {o : Oper} {own : Bool} {es : Nat} {zero : List AVal} {n : Nat} {ps : List (Nat × Opd)} (hm : mBslice P o.op es zero n ps = true) (h : SRep CM base Im0 w m s) (hb : base ≤ w.heap.size) (hρ : OpdOk w (Im base Im0 m s) m s ρ ρa)
  (hq : (opFn ρa s (.bslice own es zero n ps)).All Q) : Post CM base Im0 w m s Q ((execOp ρ o).run P w) := by
 simp only [opFn] at hq
 split at hq
 ·rename_i cs hf
  obtain ⟨hes, hcl, e, cells, hrun, hsz, hcc⟩ := bslice_run hm hρ hf
  split at hq
  ·rename_i qs hqs
   obtain ⟨hl, hc⟩ := pcells_cells hsz hcc hqs
   split at hq
   ·obtain ⟨hs', hev⟩ := new_arr h hb cells e (0, 0) (nofrz0 _) qs 0 es (by omega) hc
    exact ⟨_, _, _, _, _, hq, hs', hev, sl_rep (by rw [get_new, if_pos rfl]) (upd_same _ _ _) (by omega), .inl hrun⟩
   ·obtain ⟨hs', hev, him⟩ := new_data h hb (.cells cells e)
    exact ⟨_, _, _, _, _, hq, hs', hev, .p _ _ (.sl w.heap.size 0 n n cells e (0, 0) qs him (alloc_new w _) (by omega) (Nat.le_refl _) (fun j u c hu hc' => (hc j u c (by simpa using hu) hc').mono (hev 0).keeps)), .inl hrun⟩
  ·obtain ⟨hs1, ev1⟩ := froze_rep h cs
   split at hq
   ·rename_i qs hqs
    obtain ⟨hql, hqe⟩ := mapM_spec hqs
    have hc : CellsP w (Im base Im0 m (froze s cs)) cells qs := fun j u c hu hc => by
     obtain ⟨a, ha⟩ := getElem?_of_lt cs j (by have := lt_of_some hc; omega)
     exact toP_rep hs1 true _ (fun _ h => h) (fun h => by cases h) depthP u a c ((hcc j u a hu ha).mono (ev1 0).keeps (fun i o hg => (ev1 (i + 1)).obj i (by omega) o hg)) (hqe j a c ha hc)
    split at hq
    ·obtain ⟨hs', hev⟩ := new_arr hs1 hb cells e (0, 0) (nofrz0 _) qs 0 es (by omega) hc
     exact ⟨_, _, _, _, _, hq, hs', fun lo => (ev1 lo).trans (hev lo), sl_rep (by rw [get_new, if_pos rfl]) (upd_same _ _ _) (by omega), .inl hrun⟩
    ·obtain ⟨hs', hev, him⟩ := new_data hs1 hb (.cells cells e)
     exact ⟨_, _, _, _, _, hq, hs', fun lo => (ev1 lo).trans (hev lo), .p _ _ (.sl w.heap.size 0 n n cells e (0, 0) qs him (alloc_new w _) (by omega) (Nat.le_refl _) (fun j u c hu hc' => (hc j u c (by simpa using hu) hc').mono (hev 0).keeps)), .inl hrun⟩
   ·exact hq.elim
 ·exact hq.elim

end
end Fw
end

section
/-
  Operations, third part: arithmetic, comparisons, conversions, closures, addresses, parts of slices and strings.
-/
namespace Fw
open Go

def bopOf : Bop → BinOp
 | .add => .add | .sub => .sub | .mul => .mul | .quo => .quo | .rem => .rem | .and => .and | .or => .or | .xor => .xor | .andNot => .andNot
 | .eql => .eql | .neq => .neq | .lss => .lss | .leq => .leq | .gtr => .gtr | .geq => .geq

section
variable {CM : Nat → Code → ACode → Prop} {base : Nat} {Im0 : Nat → Prop} {w : World} {m : Mem} {s : Sto} {P : Program} {ρ : Operand → Value} {ρa : Opd → AVal} {Q : AVal × Sto → Prop} {I : Nat → Prop}

theorem okv_spec {i v : Nat} (h : okv s i v = true) : ∃ o, get s i = some o ∧ verO o = v := by
 unfold okv at h
 split at h
 ·rename_i o ho; exact ⟨o, ho, by simpa using h⟩
 ·cases h

theorem inv_ptr {x : Value} {i v off : Nat} (hx : ARep w I m s x (.ptr i v off)) (hv : okv s i v = true) : ∃ o b z, get s i = some o ∧ rowO o = true ∧ verO o = v ∧ m i = some (b, z) ∧ x = .pointer (some ⟨b, off, none⟩) := by
 obtain ⟨o, ho, hvo⟩ := okv_spec hv
 cases hx with
 | ptr _ _ _ _ o' hg hr hl hc _ =>
  rw [ho] at hg; cases hg
  obtain ⟨b, z, hm, rfl⟩ := hc hvo.symm
  exact ⟨o, b, z, ho, hr, hvo, hm, rfl⟩

theorem inv_sl {x : Value} {i v off len : Nat} (hx : ARep w I m s x (.sl i v off len)) (hv : okv s i v = true) : ∃ o, get s i = some o ∧ rowO o = true ∧ verO o = v ∧ SlRep (m i) (esO o) off len x := by
 obtain ⟨o, ho, hvo⟩ := okv_spec hv
 cases hx with
 | sl _ _ _ _ _ o' hg hr hl hc _ =>
  rw [ho] at hg; cases hg
  exact ⟨o, ho, hr, hvo, hc hvo.symm⟩

theorem inv_p {x : Value} {p : PVal} (h : ARep w I m s x (.p p)) : PRep w I x p := by cases h with | p _ _ h => exact h
theorem inv_pp {x : Value} {cs : List PVal} (h : PRep w I x (.pp cs)) : ∃ b off cur e fr, x = .pointer (some ⟨b, off, none⟩) ∧ I b ∧ w.heap[b]? = some (.cells cur e fr) ∧ off + cs.length ≤ cur.size ∧ (∀ (j : Nat) u c, cur[off + j]? = some u → cs[j]? = some c → PRep w I u c) := by
 cases h with | pp b off cur e fr _ h1 h2 h3 h4 => exact ⟨b, off, cur, e, fr, rfl, h1, h2, h3, h4⟩
theorem inv_psl {x : Value} {cs : List PVal} {n : Nat} (h : PRep w I x (.sl cs n)) : (∃ a cap, x = .slice a 0 cap ∧ cs = [] ∧ n = 0) ∨
  ∃ b off cap cur e fr, x = .slice (some ⟨b, off, none⟩) n cap ∧ I b ∧ w.heap[b]? = some (.cells cur e fr) ∧ off + cs.length ≤ cur.size ∧ n ≤ cap ∧ (∀ (j : Nat) u c, cur[off + j]? = some u → cs[j]? = some c → PRep w I u c) := by
 cases h with
 | sl0 a cap => exact .inl ⟨a, cap, rfl, rfl, rfl⟩
 | sl b off _ cap cur e fr _ h1 h2 h3 h4 h5 => exact .inr ⟨b, off, cap, cur, e, fr, rfl, h1, h2, h3, h4, h5⟩
theorem inv_nils {x : Value} (h : PRep w I x .nils) : ∃ a, x = .slice a 0 0 := by cases h; exact ⟨_, rfl⟩

theorem SlRep.isSlice {mi : Option (Nat × Nat)} {es off len : Nat} {v : Value} (h : SlRep mi es off len v) : ∃ a cap, v = .slice a len cap ∧ (len ≠ 0 → a.isSome = true) := by
 rcases h with ⟨rfl, a, rfl⟩ | ⟨b, z, cap, _, rfl, h, _⟩
 ·exact ⟨a, 0, rfl, fun h => absurd rfl h⟩
 ·exact ⟨_, cap, rfl, fun _ => rfl⟩

def mNilck (o : Op) (y : Opd) : Bool := match o with
 | .nilCheck x => mOpd x y
 | _ => false

theorem ok_nilck {o : Oper} {y : Opd} (hm : mNilck o.op y = true) (h : SRep CM base Im0 w m s) (hρ : OpdOk w (Im base Im0 m s) m s ρ ρa) (hq : (opFn ρa s (.nilck y)).All Q) : Post CM base Im0 w m s Q ((execOp ρ o).run P w) := by
 unfold mNilck at hm
 split at hm
 ·rename_i x hx
  have hr := hρ x y hm
  simp only [opFn] at hq
  split at hq
  ·rename_i i v off hy
   split at hq
   ·rename_i hv
    rw [hy] at hr
    obtain ⟨o', b, z, _, _, _, _, e⟩ := inv_ptr hr hv
    exact Post.same h hq hr (by simp [execOp, hx, e])
   ·exact hq.elim
  ·rename_i cs hy
   rw [hy] at hr
   obtain ⟨b, off, cur, e, fr, e1, _⟩ := inv_pp (inv_p hr)
   exact Post.same h hq hr (by simp [execOp, hx, e1])
  ·exact hq.elim
 ·cases hm

def mBin (o : Op) (b : Bop) (y z : Opd) : Bool := match o with
 | .binOp op _ x v _ => decide (op = bopOf b) && mOpd x y && mOpd v z
 | _ => false

theorem guard_none (op : BinOp) (t : Nat) (x y : Operand) {a b : Value} (h1 : ∀ c, a ≠ .agg c) (h2 : a ≠ .nilIface) : (eqGuard op t x y a b).run P w = .ok () w := by
 cases a <;> first | exact absurd rfl h2 | exact absurd rfl (h1 _) | (cases op <;> first | rfl | (cases b <;> rfl))

theorem binP_run {b : Bop} {p q r : PVal} (hb : binP b p q = some r) {x y : Value} (hx : PRep w I x p) (hy : PRep w I y q) (t : Nat) : ∃ v, (binOp (bopOf b) t x y).run P w = .ok v w ∧ PRep w I v r ∧ (∀ c, x ≠ .agg c) ∧ x ≠ .nilIface := by
 unfold binP at hb
 split at hb
 ·rename_i k a k' c
  cases hx; cases hy
  split at hb
  ·rename_i hk
   subst hk
   unfold intBin at hb
   cases b <;> simp only [Option.some.injEq] at hb
   case quo =>
    split at hb
    ·cases hb
    ·rename_i hz; cases hb; exact ⟨_, by simp [binOp, bopOf, Op.intDiv, hz], .int .., by simp, by simp⟩
   case rem =>
    split at hb
    ·cases hb
    ·rename_i hz; cases hb; exact ⟨_, by simp [binOp, bopOf, Op.intDiv, hz], .int .., by simp, by simp⟩
   all_goals (subst hb; exact ⟨_, by simp only [binOp, bopOf, ne_eq, not_true_eq_false, if_false, Op.intArith, Op.intBits, Op.intCmp]; rfl, by constructor, by simp, by simp⟩)
  ·cases hb
 ·rename_i a c
  cases hx; cases hy
  rename_i sx sy
  unfold strBin at hb
  cases b <;> simp only [Option.some.injEq] at hb <;> try (cases hb; done)
  case add =>
   split at hb
   ·rename_i hle
    cases hb
    refine ⟨.string (sx ++ sy), ?_, ?_, by simp, by simp⟩
    ·have h63 : ¬ (((sx.size + sy.size : Nat) : Int) > IntKind.i64.max) := by
      have e1 : sx.size = sx.data.toList.length := by cases sx; simp [ByteArray.size]
      have e2 : sy.size = sy.data.toList.length := by cases sy; simp [ByteArray.size]
      have : IntKind.i64.max = 9223372036854775807 := by decide
      simp only [lim] at hle
      omega
     simp only [binOp, bopOf, Op.stringOp, if_neg h63]; rfl
    ·have : (sx ++ sy).data.toList = sx.data.toList ++ sy.data.toList := by simp
     rw [← this]; exact .str _
   ·cases hb
  all_goals (subst hb; exact ⟨_, by simp only [binOp, bopOf, Op.stringOp, ByteArray.toList_eq]; rfl, by constructor, by simp, by simp⟩)
 ·rename_i k a k' c
  cases hx; cases hy
  split at hb
  ·rename_i hk
   subst hk
   unfold fltBin at hb
   cases b <;> simp only [Option.some.injEq] at hb <;> try (cases hb; done)
   case add =>
    cases hf : k.format.add a c with
    | none => rw [hf] at hb; cases hb
    | some f => rw [hf] at hb; cases hb; exact ⟨_, by simp [binOp, bopOf, Op.floatArith, hf], .flt .., by simp, by simp⟩
   case sub =>
    cases hf : k.format.sub a c with
    | none => rw [hf] at hb; cases hb
    | some f => rw [hf] at hb; cases hb; exact ⟨_, by simp [binOp, bopOf, Op.floatArith, hf], .flt .., by simp, by simp⟩
   case mul =>
    cases hf : k.format.mul a c with
    | none => rw [hf] at hb; cases hb
    | some f => rw [hf] at hb; cases hb; exact ⟨_, by simp [binOp, bopOf, Op.floatArith, hf], .flt .., by simp, by simp⟩
   case quo =>
    cases hf : k.format.div a c with
    | none => rw [hf] at hb; cases hb
    | some f => rw [hf] at hb; cases hb; exact ⟨_, by simp [binOp, bopOf, Op.floatArith, hf], .flt .., by simp, by simp⟩
   all_goals (subst hb; exact ⟨_, by simp only [binOp, bopOf, ne_eq, not_true_eq_false, if_false, Op.floatCmp]; rfl, by constructor, by simp, by simp⟩)
  ·cases hb
 ·cases hb

theorem exec_bin {o : Oper} {op : BinOp} {t t' : Nat} {x v : Operand} {r : Value} (hx : o.op = .binOp op t x v t') (hg : (eqGuard op t x v (ρ x) (ρ v)).run P w = .ok () w) (hb : (binOp op t (ρ x) (ρ v)).run P w = .ok r w) :
  (execOp ρ o).run P w = .ok (.value r) w := by simp [execOp, hx, hg, hb]

theorem run_eq_bool {t : Nat} (hu : P.underlying t = some .bool) (a b : Bool) : (Op.equal t (.bool a) (.bool b)).run P w = .ok (a == b) w := by
 simp only [Op.equal, Op.maxDepth]
 rw [Op.equalIn]
 simp [run_underlying hu]

theorem nan_draw (k : FloatKind) (t : Nat) : ∃ i, i < nanN k ∧ ∀ x y, Question.cut (.nanBits k x y) t = nanB k i ∧ Question.cut (.nanConv k x) t = nanB k i := by
 cases k with
 | f32 =>
  refine ⟨t % 2 + 2 * (t / 2 % (2 ^ 23 - 1)), by simp only [nanN]; omega, fun x y => ?_⟩
  have e1 : (t % 2 + 2 * (t / 2 % (2 ^ 23 - 1))) % 2 = t % 2 := by omega
  have e2 : (t % 2 + 2 * (t / 2 % (2 ^ 23 - 1))) / 2 % (2 ^ 23 - 1) = t / 2 % (2 ^ 23 - 1) := by omega
  simp only [Question.cut, nanB, e1, e2, and_self]
 | f64 =>
  refine ⟨t % 2 + 2 * (t / 2 % (2 ^ 52 - 1)), by simp only [nanN]; omega, fun x y => ?_⟩
  have e1 : (t % 2 + 2 * (t / 2 % (2 ^ 52 - 1))) % 2 = t % 2 := by omega
  have e2 : (t % 2 + 2 * (t / 2 % (2 ^ 52 - 1))) / 2 % (2 ^ 52 - 1) = t / 2 % (2 ^ 52 - 1) := by omega
  simp only [Question.cut, nanB, e1, e2, and_self]

theorem run_nanBits (k : FloatKind) (x y : Nat) : ∃ i, i < nanN k ∧ (choose (.nanBits k x y)).run P w = .ok (nanB k i) w.drew := by
 obtain ⟨i, h1, h2⟩ := nan_draw k (w.tape w.drawn (.nanBits k x y))
 refine ⟨i, h1, ?_⟩
 rw [← (h2 x y).1]
 cases k <;> (simp [choose, Sem.run, Question.forced]; try rfl)

theorem run_nanConv (k : FloatKind) (x : Nat) : ∃ i, i < nanN k ∧ (choose (.nanConv k x)).run P w = .ok (nanB k i) w.drew := by
 obtain ⟨i, h1, h2⟩ := nan_draw k (w.tape w.drawn (.nanConv k x))
 refine ⟨i, h1, ?_⟩
 rw [← (h2 x 0).2]
 cases k <;> (simp [choose, Sem.run, Question.forced]; try rfl)

theorem Post.drew (h : SRep CM base Im0 w m s) {a : AVal} {v : Value} (hq : Q (a, s)) (ha : ∀ w I m s, ARep w I m s v a) {r : Result Next} (hr : r = .ok (.value v) w.drew) : Post CM base Im0 w m s Q r :=
 ⟨a, s, w.drew, m, v, hq, h.ext (Ext.drew w), fun lo => (Ext.drew w).evo lo m s, ha _ _ _ _, .inl hr⟩

theorem ok_bin {o : Oper} {b : Bop} {y z : Opd} (hm : mBin o.op b y z = true) (h : SRep CM base Im0 w m s) (hρ : OpdOk w (Im base Im0 m s) m s ρ ρa) (hq : (opFn ρa s (.bin b y z)).All Q) : Post CM base Im0 w m s Q ((execOp ρ o).run P w) := by
 unfold mBin at hm
 split at hm
 ·rename_i op t x v t' hx
  simp only [Bool.and_eq_true, decide_eq_true_eq] at hm
  obtain ⟨⟨rfl, h1⟩, h2⟩ := hm
  simp only [opFn] at hq
  unfold optN at hq
  split at hq
  ·rename_i a ha
   unfold binA at ha
   split at ha
   ·rename_i p q hp hq'
    cases hb : binP b p q with
    | none => rw [hb] at ha; cases ha
    | some r =>
     rw [hb] at ha; cases ha
     obtain ⟨u, e1, e2, e3, e4⟩ := binP_run (P := P) hb (inv_p (hp ▸ hρ x y h1)) (inv_p (hq' ▸ hρ v z h2)) t
     exact Post.same h hq (.p _ _ e2) (exec_bin hx (guard_none _ _ _ _ e3 e4) e1)
   ·cases ha
  ·rename_i ha
   split at hq
   ·rename_i k hk
    unfold nanA at hk
    split at hk
    ·rename_i k1 a k2 c hy hz
     split at hk
     ·rename_i hc
      simp only [Option.some.injEq] at hk
      subst hk
      obtain ⟨hkk, hop⟩ := hc
      subst hkk
      have e1 := inv_flt (hy ▸ hρ x y h1)
      have e2 := inv_flt (hz ▸ hρ v z h2)
      rw [hy, hz] at ha
      simp only [binA, binP, if_true, Option.map_eq_none_iff] at ha
      obtain ⟨i, hi, hr⟩ := run_nanBits (P := P) (w := w) k1 a c
      have hrun : (execOp ρ o).run P w = .ok (.value (.float k1 (nanB k1 i))) w.drew := by
       have hg : (eqGuard (bopOf b) t x v (ρ x) (ρ v)).run P w = .ok () w := guard_none _ _ _ _ (by simp [e1]) (by simp [e1])
       have hbin : (binOp (bopOf b) t (ρ x) (ρ v)).run P w = .ok (.float k1 (nanB k1 i)) w.drew := by
        rw [e1, e2]
        unfold fltBin at ha
        cases b <;> simp only [arithB, Bool.false_eq_true] at hop <;> simp only [Option.map_eq_none_iff] at ha <;> simp [binOp, bopOf, Op.floatArith, ha, hr, Result.andThen]
       simp [execOp, hx, hg, hbin, Result.andThen]
      exact Post.drew h (hq.2 i hi) (fun w I m s => .p _ _ (.flt ..)) hrun
     ·cases hk
    ·cases hk
   ·exact hq.elim
 ·cases hm

def mEqb (P : Program) (o : Op) (ng : Bool) (y z : Opd) : Bool := match o with
 | .binOp op t x v _ => (match op with | .eql => !ng | .neq => ng | _ => false) && (match P.underlying t with | some .bool => true | _ => false) && mOpd x y && mOpd v z
 | _ => false

theorem ok_eqb {o : Oper} {ng : Bool} {y z : Opd} (hm : mEqb P o.op ng y z = true) (h : SRep CM base Im0 w m s) (hρ : OpdOk w (Im base Im0 m s) m s ρ ρa) (hq : (opFn ρa s (.eqb ng y z)).All Q) : Post CM base Im0 w m s Q ((execOp ρ o).run P w) := by
 unfold mEqb at hm
 split at hm
 ·rename_i op t x v t' hx
  simp only [Bool.and_eq_true] at hm
  obtain ⟨⟨⟨h0, hu⟩, h1⟩, h2⟩ := hm
  split at hu
  ·rename_i hub
   simp only [opFn] at hq
   split at hq
   ·rename_i a b ha hb
    have e1 := inv_bool (ha ▸ hρ x y h1)
    have e2 := inv_bool (hb ▸ hρ v z h2)
    split at h0
    ·simp at h0; subst h0
     exact Post.same h hq (rep_bool _ _) (exec_bin hx (guard_none _ _ _ _ (by simp [e1]) (by simp [e1])) (by rw [e1, e2]; simp [show binOp .eql t (.bool a) (.bool b) = (do pure (.bool (← Op.equal t (.bool a) (.bool b)))) from rfl, run_eq_bool hub]))
    ·subst h0
     exact Post.same h hq (rep_bool _ _) (exec_bin hx (guard_none _ _ _ _ (by simp [e1]) (by simp [e1])) (by rw [e1, e2]; simp [show binOp .neq t (.bool a) (.bool b) = (do pure (.bool (!(← Op.equal t (.bool a) (.bool b))))) from rfl, run_eq_bool hub]))
    ·cases h0
   ·exact hq.elim
  ·cases hu
 ·cases hm

def mShift (o : Op) (left : Bool) (y z : Opd) : Bool := match o with
 | .binOp op _ x v _ => (match op with | .shl => left | .shr => !left | _ => false) && mOpd x y && mOpd v z
 | _ => false

theorem ok_shift {o : Oper} {left : Bool} {y z : Opd} (hm : mShift o.op left y z = true) (h : SRep CM base Im0 w m s) (hρ : OpdOk w (Im base Im0 m s) m s ρ ρa) (hq : (opFn ρa s (.shift left y z)).All Q) : Post CM base Im0 w m s Q ((execOp ρ o).run P w) := by
 unfold mShift at hm
 split at hm
 ·rename_i op t x v t' hx
  simp only [Bool.and_eq_true] at hm
  obtain ⟨⟨h0, h1⟩, h2⟩ := hm
  simp only [opFn] at hq
  unfold opt1 at hq
  split at hq
  ·rename_i a ha
   unfold shiftP at ha
   split at ha
   ·rename_i k n k' n' ha1 ha2
    have e1 := inv_int (ha1 ▸ hρ x y h1)
    have e2 := inv_int (ha2 ▸ hρ v z h2)
    split at ha
    ·cases ha
    ·rename_i hn
     split at h0
     ·subst h0
      simp only [if_true] at ha; cases ha
      exact Post.same h hq (rep_int _ _ _) (exec_bin hx (guard_none _ _ _ _ (by simp [e1]) (by simp [e1])) (by rw [e1, e2]; simp only [binOp, Op.shift, if_neg hn]; rfl))
     ·simp at h0; subst h0
      simp only [Bool.false_eq_true, if_false] at ha; cases ha
      exact Post.same h hq (rep_int _ _ _) (exec_bin hx (guard_none _ _ _ _ (by simp [e1]) (by simp [e1])) (by rw [e1, e2]; simp only [binOp, Op.shift, if_neg hn]; rfl))
     ·cases h0
   ·cases ha
  ·exact hq.elim
 ·cases hm

def isNilC : Operand → Bool
 | .const (.pointer none) | .const (.slice none 0 0) | .const (.map none) | .const .nilFunc | .const .nilIface => true
 | _ => false

def eqOp : BinOp → Bool → Bool
 | .eql, ng => !ng
 | .neq, ng => ng
 | _, _ => false

def mEqnil (P : Program) (o : Op) (k : Nat) (ng : Bool) (y : Opd) : Bool := match o with
 | .binOp op t x v _ => eqOp op ng && mOpd x y && (match k, P.underlying t, v with
  | 0, some (.pointer _), .const (.pointer none) => true
  | 1, some (.slice _), .const (.slice none _ _) => true
  | 2, some (.map _ _), .const (.map none) => true
  | 3, some (.func _ _ _), .const .nilFunc => true
  | 4, some (.interface _), .const .nilIface => true
  | _, _, _ => false)
 | _ => false

end
end Fw
end

section
/-
  Operations, fourth part: comparisons with nil, unary operations, conversions, closures, maps and slices that are made.
-/
namespace Fw
open Go

theorem i64_in (n : Int) (h0 : -9223372036854775808 ≤ n) (h1 : n ≤ 9223372036854775807) : IntKind.i64.wrap n = n := by
 simp only [IntKind.wrap, IntKind.bits, IntKind.signed]
 simp
 split <;> omega

section
variable {CM : Nat → Code → ACode → Prop} {base : Nat} {Im0 : Nat → Prop} {w : World} {m : Mem} {s : Sto} {P : Program} {ρ : Operand → Value} {ρa : Opd → AVal} {Q : AVal × Sto → Prop} {I : Nat → Prop}

theorem run_eq_any {t : Nat} {d : TypeDesc} (_hu : P.underlying t = some d) (x y : Value) (r : Bool) (h : ∀ n, (Op.equalIn (n + 1) t x y).run P w = .ok r w) : (Op.equal t x y).run P w = .ok r w := h 9999

theorem eqnil_exec {o : Oper} {op : BinOp} {t t' : Nat} {x v : Operand} {ng r : Bool} (hx : o.op = .binOp op t x v t') (h0 : eqOp op ng = true)
  (hg : ∀ op, (eqGuard op t x v (ρ x) (ρ v)).run P w = .ok () w) (he : (Op.equal t (ρ x) (ρ v)).run P w = .ok r w)
  (hb1 : binOp .eql t (ρ x) (ρ v) = (do pure (.bool (← Op.equal t (ρ x) (ρ v))))) (hb2 : binOp .neq t (ρ x) (ρ v) = (do pure (.bool (!(← Op.equal t (ρ x) (ρ v)))))) :
  (execOp ρ o).run P w = .ok (.value (.bool (if ng then !r else r))) w := by
 cases op with
 | eql =>
  simp [eqOp] at h0; subst h0
  exact exec_bin hx (hg _) (by rw [hb1]; simp [he])
 | neq =>
  simp [eqOp] at h0; subst h0
  exact exec_bin hx (hg _) (by rw [hb2]; simp [he])
 | _ => cases h0

theorem ok_eqnil {o : Oper} {k : Nat} {ng : Bool} {y : Opd} (hm : mEqnil P o.op k ng y = true) (h : SRep CM base Im0 w m s) (hρ : OpdOk w (Im base Im0 m s) m s ρ ρa) (hρc : ∀ v, ρ (.const v) = v) (hq : (opFn ρa s (.eqnil k ng y)).All Q) :
  Post CM base Im0 w m s Q ((execOp ρ o).run P w) := by
 unfold mEqnil at hm
 split at hm
 ·rename_i op t x v t' hx
  simp only [Bool.and_eq_true] at hm
  obtain ⟨⟨h0, h1⟩, h2⟩ := hm
  have hr := hρ x y h1
  have fin : ∀ r : Bool, Q (.p (.bool (if ng then !r else r)), s) → (execOp ρ o).run P w = .ok (.value (.bool (if ng then !r else r))) w → Post CM base Im0 w m s Q ((execOp ρ o).run P w) := fun r hq hrun => Post.same h hq (rep_bool _ _) hrun
  split at h2
  ·rename_i e hu
   have hv : ρ (.const (.pointer none)) = .pointer none := hρc _
   have e1 : ∀ a, ρ x = .pointer a → (execOp ρ o).run P w = .ok (.value (.bool (if ng then !a.isNone else a.isNone))) w := fun a ha => by
    refine eqnil_exec hx h0 (fun op => guard_none _ _ _ _ (by simp [ha]) (by simp [ha])) ?_ (by rw [ha, hv]; rfl) (by rw [ha, hv]; rfl)
    rw [ha, hv]
    refine run_eq_any hu _ _ _ (fun n => ?_)
    rw [Op.equalIn]
    cases a <;> simp [run_underlying hu]
   simp only [opFn] at hq
   split at hq <;> try (rename_i hk _; cases hk)
   ·rename_i hy; have := inv_p (hy ▸ hr); generalize hrx : ρ x = rx at this; cases this
    have := e1 none hrx; simp at this
    exact Post.same h hq (rep_bool _ _) (by rw [this])
   ·rename_i i ver off hk hy
    split at hq
    ·rename_i hok
     obtain ⟨o', b, z, _, _, _, _, e⟩ := inv_ptr (hy ▸ hr) hok
     have := e1 _ e; simp at this
     exact Post.same h hq (rep_bool _ _) (by rw [this])
    ·exact hq.elim
   ·rename_i cs hk hy
    obtain ⟨b, off, cur, e, fr, e2, _⟩ := inv_pp (inv_p (hy ▸ hr))
    have := e1 _ e2; simp at this
    exact Post.same h hq (rep_bool _ _) (by rw [this])
   ·exact hq.elim
  ·rename_i e a0 n0 hu
   have hv : ρ (.const (.slice none a0 n0)) = .slice none a0 n0 := hρc _
   have e1 : ∀ a l c, ρ x = .slice a l c → (execOp ρ o).run P w = .ok (.value (.bool (if ng then !a.isNone else a.isNone))) w := fun a l c ha => by
    refine eqnil_exec hx h0 (fun op => guard_none _ _ _ _ (by simp [ha]) (by simp [ha])) ?_ (by rw [ha, hv]; rfl) (by rw [ha, hv]; rfl)
    rw [ha, hv]
    refine run_eq_any hu _ _ _ (fun n => ?_)
    rw [Op.equalIn]
    cases a <;> simp [run_underlying hu]
   have pick : ∀ a l c, ρ x = .slice a l c → (T.pick 2 fun i => some1 (.p (.bool (i == 0))) s).All Q → Post CM base Im0 w m s Q ((execOp ρ o).run P w) := fun a l c ha hq => by
    have := e1 a l c ha
    cases hb : (if ng then !a.isNone else a.isNone) with
    | true => rw [hb] at this; exact Post.same h (hq.2 0 (by omega)) (rep_bool _ _) this
    | false => rw [hb] at this; exact Post.same h (hq.2 1 (by omega)) (rep_bool _ _) this
   simp only [opFn] at hq
   split at hq <;> try (rename_i hk _; cases hk)
   ·rename_i hk hy
    obtain ⟨a, ha⟩ := inv_nils (inv_p (hy ▸ hr))
    exact pick a _ _ ha hq
   ·rename_i cs n hk hy
    rcases inv_psl (inv_p (hy ▸ hr)) with ⟨a, cap, ha, _, rfl⟩ | ⟨b, off, cap, cur, e, fr, ha, _⟩
    ·simp only [if_true] at hq
     exact pick a _ _ ha hq
    ·split at hq
     ·exact pick _ _ _ ha hq
     ·have := e1 _ _ _ ha; simp at this
      exact Post.same h hq (rep_bool _ _) (by rw [this])
   ·rename_i i ver off n hk hy
    split at hq
    ·rename_i hok
     obtain ⟨o', _, _, _, hs⟩ := inv_sl (hy ▸ hr) hok
     obtain ⟨a, cap, ha, hsome⟩ := hs.isSlice
     split at hq
     ·exact pick _ _ _ ha hq
     ·rename_i hn
      have := e1 _ _ _ ha
      have hs' := hsome hn
      have hnone : a.isNone = false := by cases a with | none => cases hs' | some => rfl
      rw [hnone] at this; simp at this
      exact Post.same h hq (rep_bool _ _) (by rw [this])
    ·exact hq.elim
   ·exact hq.elim
  ·rename_i k0 e0 hu
   have hv : ρ (.const (.map none)) = .map none := hρc _
   have e1 : ∀ a, ρ x = .map a → (execOp ρ o).run P w = .ok (.value (.bool (if ng then !a.isNone else a.isNone))) w := fun a ha => by
    refine eqnil_exec hx h0 (fun op => guard_none _ _ _ _ (by simp [ha]) (by simp [ha])) ?_ (by rw [ha, hv]; rfl) (by rw [ha, hv]; rfl)
    rw [ha, hv]
    refine run_eq_any hu _ _ _ (fun n => ?_)
    rw [Op.equalIn]
    cases a <;> simp [run_underlying hu]
   simp only [opFn] at hq
   split at hq <;> try (rename_i hk _; cases hk)
   ·rename_i hy; have := inv_p (hy ▸ hr); generalize hrx : ρ x = rx at this; cases this
    have := e1 none hrx; simp at this
    exact Post.same h hq (rep_bool _ _) (by rw [this])
   ·rename_i hy; have := inv_p (hy ▸ hr); generalize hrx : ρ x = rx at this; cases this
    have := e1 _ hrx; simp at this
    exact Post.same h hq (rep_bool _ _) (by rw [this])
   ·rename_i hy; rw [hy] at hr; generalize hrx : ρ x = rx at hr; cases hr
    have := e1 _ hrx; simp at this
    exact Post.same h hq (rep_bool _ _) (by rw [this])
   ·exact hq.elim
  ·rename_i a0 b0 c0 hu
   have hv : ρ (.const .nilFunc) = .nilFunc := hρc _
   have e1 : ∀ r : Bool, (ρ x = .nilFunc ∧ r = true ∨ ∃ f a b, ρ x = .func f a b ∧ r = false) → (execOp ρ o).run P w = .ok (.value (.bool (if ng then !r else r))) w := fun r ha => by
    refine eqnil_exec hx h0 (fun op => ?_) ?_ ?_ ?_
    ·rcases ha with ⟨ha, _⟩ | ⟨f, a, b, ha, _⟩ <;> exact guard_none _ _ _ _ (by simp [ha]) (by simp [ha])
    ·rw [hv]
     refine run_eq_any hu _ _ _ (fun n => ?_)
     rw [Op.equalIn]
     rcases ha with ⟨ha, rfl⟩ | ⟨f, a, b, ha, rfl⟩ <;> simp [run_underlying hu, ha]
    ·rcases ha with ⟨ha, _⟩ | ⟨f, a, b, ha, _⟩ <;> rw [ha, hv] <;> rfl
    ·rcases ha with ⟨ha, _⟩ | ⟨f, a, b, ha, _⟩ <;> rw [ha, hv] <;> rfl
   simp only [opFn] at hq
   split at hq <;> try (rename_i hk _; cases hk)
   ·rename_i hy; have := inv_p (hy ▸ hr); generalize hrx : ρ x = rx at this; cases this
    have := e1 true (.inl ⟨hrx, rfl⟩); simp at this
    exact Post.same h hq (rep_bool _ _) (by rw [this])
   ·rename_i hy; have := inv_p (hy ▸ hr); generalize hrx : ρ x = rx at this; cases this
    have := e1 false (.inr ⟨_, _, _, hrx, rfl⟩); simp at this
    exact Post.same h hq (rep_bool _ _) (by rw [this])
   ·rename_i hy; rw [hy] at hr; generalize hrx : ρ x = rx at hr; cases hr
    have := e1 false (.inr ⟨_, _, _, hrx, rfl⟩); simp at this
    exact Post.same h hq (rep_bool _ _) (by rw [this])
   ·exact hq.elim
  ·rename_i ms hu
   have hv : ρ (.const .nilIface) = .nilIface := hρc _
   have hgd : ∀ op, (eqGuard op t x (.const .nilIface) (ρ x) (ρ (.const .nilIface))).run P w = .ok () w ∨ ¬ (ρ x = .nilIface ∨ ∃ u y, ρ x = .iface u y) := fun op => by
    by_cases hc : ρ x = .nilIface ∨ ∃ u y, ρ x = .iface u y
    ·left
     rw [hv]
     rcases hc with hc | ⟨u, y', hc⟩
     ·rw [hc]; cases op <;> first | rfl | (simp [eqGuard])
     ·rw [hc]; cases op <;> rfl
    ·exact .inr hc
   have e1 : ∀ r : Bool, (ρ x = .nilIface ∧ r = true ∨ ∃ u y, ρ x = .iface u y ∧ r = false) → (execOp ρ o).run P w = .ok (.value (.bool (if ng then !r else r))) w := fun r ha => by
    refine eqnil_exec hx h0 (fun op => ?_) ?_ ?_ ?_
    ·rcases hgd op with hg | hg
     ·exact hg
     ·exact absurd (by rcases ha with ⟨ha, _⟩ | ⟨u, y, ha, _⟩; exact .inl ha; exact .inr ⟨u, y, ha⟩) hg
    ·rw [hv]
     refine run_eq_any hu _ _ _ (fun n => ?_)
     rw [Op.equalIn]
     rcases ha with ⟨ha, rfl⟩ | ⟨u, y, ha, rfl⟩ <;> simp [run_underlying hu, ha]
    ·rcases ha with ⟨ha, _⟩ | ⟨u, y, ha, _⟩ <;> rw [ha, hv] <;> rfl
    ·rcases ha with ⟨ha, _⟩ | ⟨u, y, ha, _⟩ <;> rw [ha, hv] <;> rfl
   simp only [opFn] at hq
   split at hq <;> try (rename_i hk _; cases hk)
   ·rename_i hy; have := inv_p (hy ▸ hr); generalize hrx : ρ x = rx at this; cases this
    have := e1 true (.inl ⟨hrx, rfl⟩); simp at this
    exact Post.same h hq (rep_bool _ _) (by rw [this])
   ·rename_i hy; have := inv_p (hy ▸ hr); generalize hrx : ρ x = rx at this; cases this
    have := e1 false (.inr ⟨_, _, hrx, rfl⟩); simp at this
    exact Post.same h hq (rep_bool _ _) (by rw [this])
   ·exact hq.elim
  ·cases h2
 ·cases hm
end
end Fw
end

section
/-
  Operations, fifth part: unary operations, closures, addresses, parts.
-/
namespace Fw
open Go

section
variable {CM : Nat → Code → ACode → Prop} {base : Nat} {Im0 : Nat → Prop} {w : World} {m : Mem} {s : Sto} {P : Program} {ρ : Operand → Value} {ρa : Opd → AVal} {Q : AVal × Sto → Prop} {I : Nat → Prop}

def mUn (o : Op) (u : UnOp) (y : Opd) : Bool := match o with
 | .unOp v _ x => decide (v = u) && mOpd x y
 | _ => false

theorem mUn_spec {o : Op} {u : UnOp} {y : Opd} (h : mUn o u y = true) : ∃ t x, o = .unOp u t x ∧ mOpd x y = true := by
 unfold mUn at h
 split at h
 ·simp at h; obtain ⟨rfl, h⟩ := h; exact ⟨_, _, rfl, h⟩
 ·cases h

theorem ok_neg {o : Oper} {y : Opd} (hm : mUn o.op .neg y = true) (h : SRep CM base Im0 w m s) (hρ : OpdOk w (Im base Im0 m s) m s ρ ρa) (hq : (opFn ρa s (.neg y)).All Q) : Post CM base Im0 w m s Q ((execOp ρ o).run P w) := by
 obtain ⟨t, x, hx, h1⟩ := mUn_spec hm
 simp only [opFn] at hq
 split at hq
 ·rename_i k n hy
  have e := inv_int (hy ▸ hρ x y h1)
  exact Post.same h hq (rep_int _ _ _) (by simp only [execOp, hx, e, Op.unary, Op.intArith]; rfl)
 ·rename_i k n hy
  have e := inv_flt (hy ▸ hρ x y h1)
  exact Post.same h hq (.p _ _ (.flt _ _)) (by simp only [execOp, hx, e, Op.unary]; rfl)
 ·exact hq.elim

theorem ok_not {o : Oper} {y : Opd} (hm : mUn o.op .not y = true) (h : SRep CM base Im0 w m s) (hρ : OpdOk w (Im base Im0 m s) m s ρ ρa) (hq : (opFn ρa s (.not y)).All Q) : Post CM base Im0 w m s Q ((execOp ρ o).run P w) := by
 obtain ⟨t, x, hx, h1⟩ := mUn_spec hm
 simp only [opFn] at hq
 split at hq
 ·rename_i b hy
  have e := inv_bool (hy ▸ hρ x y h1)
  exact Post.same h hq (rep_bool _ _) (by simp only [execOp, hx, e, Op.unary]; rfl)
 ·exact hq.elim

theorem ok_bnot {o : Oper} {y : Opd} (hm : mUn o.op .xor y = true) (h : SRep CM base Im0 w m s) (hρ : OpdOk w (Im base Im0 m s) m s ρ ρa) (hq : (opFn ρa s (.bnot y)).All Q) : Post CM base Im0 w m s Q ((execOp ρ o).run P w) := by
 obtain ⟨t, x, hx, h1⟩ := mUn_spec hm
 simp only [opFn] at hq
 split at hq
 ·rename_i k n hy
  have e := inv_int (hy ▸ hρ x y h1)
  exact Post.same h hq (rep_int _ _ _) (by simp only [execOp, hx, e, Op.unary, Op.intBits]; rfl)
 ·exact hq.elim

def mOpds : List Operand → List Opd → Bool
 | [], [] => true
 | x :: r, y :: q => mOpd x y && mOpds r q
 | _, _ => false

theorem mOpds_spec : ∀ {l : List Operand} {q : List Opd}, mOpds l q = true → OpdOk w I m s ρ ρa → l.length = q.length ∧ (∀ (j : Nat) u c, (l.map ρ)[j]? = some u → (q.map ρa)[j]? = some c → ARep w I m s u c) := by
 intro l
 induction l with
 | nil => intro q h hρ; cases q <;> simp [mOpds] at h; exact ⟨rfl, fun j u c hu => by simp at hu⟩
 | cons x r ih =>
  intro q h hρ
  cases q with
  | nil => simp [mOpds] at h
  | cons y t =>
   simp only [mOpds, Bool.and_eq_true] at h
   obtain ⟨h1, h2⟩ := ih h.2 hρ
   refine ⟨by simp [h1], fun j u c hu hc => ?_⟩
   cases j with
   | zero => simp at hu hc; subst hu hc; exact hρ x y h.1
   | succ j => exact h2 j u c (by simpa using hu) (by simpa using hc)

def mMkclo (o : Op) (f : Nat) (a b : List Opd) : Bool := match o with
 | .makeFunc (.func g) x y => f == g && mOpds x.toList a && mOpds y.toList b
 | _ => false

theorem ok_mkclo {o : Oper} {f : Nat} {a b : List Opd} (hm : mMkclo o.op f a b = true) (h : SRep CM base Im0 w m s) (hρ : OpdOk w (Im base Im0 m s) m s ρ ρa) (hq : (opFn ρa s (.mkclo f a b)).All Q) : Post CM base Im0 w m s Q ((execOp ρ o).run P w) := by
 unfold mMkclo at hm
 split at hm
 ·rename_i g x y hx
  simp only [Bool.and_eq_true, beq_iff_eq] at hm
  obtain ⟨⟨rfl, h1⟩, h2⟩ := hm
  obtain ⟨l1, e1⟩ := mOpds_spec h1 hρ
  obtain ⟨l2, e2⟩ := mOpds_spec h2 hρ
  refine Post.same h hq (.clo f (x.map ρ) (y.map ρ) _ _ (by simpa using l1) (by simpa using l2) (fun j u c hu hc => e1 j u c (by simpa using hu) hc) (fun j u c hu hc => e2 j u c (by simpa using hu) hc)) ?_
  simp [execOp, hx, Instr.makeFunc]
 ·cases hm

def mMkmap (o : Op) : Bool := match o with
 | .makeMap _ none => true
 | _ => false

theorem ok_mkmap {o : Oper} (hm : mMkmap o.op = true) (h : SRep CM base Im0 w m s) (hb : base ≤ w.heap.size) (hq : (opFn ρa s .mkmap).All Q) : Post CM base Im0 w m s Q ((execOp ρ o).run P w) := by
 unfold mMkmap at hm
 split at hm
 ·rename_i t hx
  obtain ⟨hs', hev⟩ := h.new (Ext.alloc w (.map #[] 0)) hb (.map [] []) (some (w.heap.size, 0)) (fun b z hx => by cases hx; simp)
   (fun I' m' s' hk _ hg hm _ => ⟨w.heap.size, 0, #[], 0, hm, alloc_new w _, rfl, rfl, fun j e k he => by simp at he, fun j e k he => by simp at he, fun j e he => by simp at he, by simp⟩)
  exact ⟨_, _, _, _, _, hq, hs', hev, .mp _ w.heap.size 0 _ (by rw [get_new, if_pos rfl]) rfl (upd_same _ _ _), .inl (by simp [execOp, hx, Instr.makeMap])⟩
 ·cases hm

/-! addresses -/

theorem ptr_same {i ver off b z : Nat} {o : Obj} (hg : get s i = some o) (hr : rowO o = true) (hv : verO o = ver) (hm : m i = some (b, z)) : ARep w I m s (.pointer (some ⟨b, off, none⟩)) (.ptr i ver off) :=
 .ptr _ i ver off o hg hr (by omega) (fun _ => ⟨b, z, hm, rfl⟩) rfl

def mFadr (P : Program) (o : Op) (off : Nat) (y : Opd) : Bool := match o with
 | .fieldAddr t x f => mOpd x y && (match P.underlying t with
  | some (.struct fs) => (match fs[f]? with | some fd => fd.offset == off && (match P.info? fd.type with | some i => i.size != 0 | none => false) | none => false)
  | _ => false)
 | _ => false

theorem ok_fadr {o : Oper} {off : Nat} {y : Opd} (hm : mFadr P o.op off y = true) (h : SRep CM base Im0 w m s) (hρ : OpdOk w (Im base Im0 m s) m s ρ ρa) (hq : (opFn ρa s (.fadr off y)).All Q) : Post CM base Im0 w m s Q ((execOp ρ o).run P w) := by
 unfold mFadr at hm
 split at hm
 ·rename_i t x f hx
  simp only [Bool.and_eq_true] at hm
  obtain ⟨h1, h2⟩ := hm
  split at h2
  ·rename_i fs hu
   split at h2
   ·rename_i fd hfd
    simp only [Bool.and_eq_true, beq_iff_eq] at h2
    obtain ⟨rfl, h3⟩ := h2
    split at h3
    ·rename_i i hi
     have hsz : ¬ i.size = 0 := by simpa using h3
     have run : ∀ b o0, ρ x = .pointer (some ⟨b, o0, none⟩) → (execOp ρ o).run P w = .ok (.value (.pointer (some ⟨b, o0 + fd.offset, none⟩))) w := fun b o0 e => by
      simp [execOp, hx, Instr.fieldAt, run_underlying hu, hfd, e, Instr.sureAddr, fieldPlace, run_size hi, hsz, addr_add]
     have hr := hρ x y h1
     simp only [opFn] at hq
     split at hq
     ·rename_i i v off hy
      split at hq
      ·rename_i hv
       rw [hy] at hr
       obtain ⟨o', b, z, hg, hrow, hvo, hm, e⟩ := inv_ptr hr hv
       exact Post.same h hq (ptr_same hg hrow hvo hm) (run b _ e)
      ·exact hq.elim
     ·rename_i cs hy
      rw [hy] at hr
      obtain ⟨b, off, cur, e, fr, e1, k1, k2, k3, k4⟩ := inv_pp (inv_p hr)
      split at hq
      ·rename_i hlt
       refine Post.same h hq (.p _ _ (.pp b (off + fd.offset) cur e fr _ k1 k2 (by simp; omega) (fun j u c hu hc => ?_))) (run b _ e1)
       rw [List.getElem?_drop] at hc
       exact k4 _ u c (by rw [← Nat.add_assoc]; exact hu) hc
      ·exact hq.elim
     ·exact hq.elim
    ·cases h3
   ·cases h2
  ·cases h2
 ·cases hm

theorem toInt64_spec {x : Value} {a : AVal} (hx : ARep w I m s x a) {n : Int} (h : toInt64? a = some n) : ∃ k, x = .int k n := by
 unfold toInt64? at h
 split at h
 ·cases h; exact ⟨_, inv_int hx⟩
 ·cases h

def mIadr (P : Program) (o : Op) (es : Nat) (y z : Opd) : Bool := match o with
 | .indexAddr t x i => mOpd x y && mOpd i z && (match P.underlying t with | some (.slice e) => (match P.info? e with | some j => j.size == es | none => false) | _ => false)
 | _ => false

theorem ok_iadr {o : Oper} {es : Nat} {y z : Opd} (hm : mIadr P o.op es y z = true) (h : SRep CM base Im0 w m s) (hρ : OpdOk w (Im base Im0 m s) m s ρ ρa) (hq : (opFn ρa s (.iadr es y z)).All Q) : Post CM base Im0 w m s Q ((execOp ρ o).run P w) := by
 unfold mIadr at hm
 split at hm
 ·rename_i t x i hx
  simp only [Bool.and_eq_true] at hm
  obtain ⟨⟨h1, h2⟩, h3⟩ := hm
  split at h3
  ·rename_i e hu
   split at h3
   ·rename_i j hj
    have hsz : j.size = es := by simpa using h3
    simp only [opFn] at hq
    split at hq
    ·rename_i n hn
     obtain ⟨k, hk⟩ := toInt64_spec (hρ i z h2) hn
     have run : ∀ b o0 len cap, ρ x = .slice (some ⟨b, o0, none⟩) len cap → 0 ≤ n → n < len → (execOp ρ o).run P w = .ok (.value (.pointer (some ⟨b, o0 + n.toNat * es, none⟩))) w := fun b o0 len cap e h0 hl => by
      simp [execOp, hx, Instr.indexAt, hk, asIntOf, run_underlying hu, e, h0, hl, run_size hj, hsz, addr_add]
     have hr := hρ x y h1
     split at hq
     ·rename_i cs len hy
      rw [hy] at hr
      split at hq
      ·rename_i hc
       obtain ⟨c1, c2, c3⟩ := hc
       rcases inv_psl (inv_p hr) with ⟨a, cap, e1, _, rfl⟩ | ⟨b, off, cap, cur, e', fr, e1, k1, k2, k3, k4, k5⟩
       ·omega
       ·refine Post.same h hq (.p _ _ (.pp b (off + n.toNat * es) cur e' fr _ k1 k2 (by simp; omega) (fun j u c hu hc => ?_))) (run b _ _ _ e1 c1 c2)
        rw [List.getElem?_drop] at hc
        exact k5 _ u c (by rw [← Nat.add_assoc]; exact hu) hc
      ·exact hq.elim
     ·rename_i id ver off len hy
      rw [hy] at hr
      split at hq
      ·rename_i hc
       obtain ⟨c1, c2, c3⟩ := hc
       obtain ⟨o', hg, hrow, hvo, hs⟩ := inv_sl hr c3
       rcases hs with ⟨rfl, _⟩ | ⟨b, zz, cap, hm, e1, _⟩
       ·omega
       ·exact Post.same h hq (ptr_same hg hrow hvo hm) (run b _ _ _ e1 c1 c2)
      ·exact hq.elim
     ·exact hq.elim
    ·exact hq.elim
   ·cases h3
  ·cases h3
 ·cases hm

def mIadra (P : Program) (o : Op) (es n : Nat) (y z : Opd) : Bool := match o with
 | .indexAddr t x i => mOpd x y && mOpd i z && (match P.underlying t with | some (.array k e) => k == n && (match P.info? e with | some j => j.size == es | none => false) | _ => false)
 | _ => false

theorem ok_iadra {o : Oper} {es len : Nat} {y z : Opd} (hm : mIadra P o.op es len y z = true) (h : SRep CM base Im0 w m s) (hρ : OpdOk w (Im base Im0 m s) m s ρ ρa) (hq : (opFn ρa s (.iadra es len y z)).All Q) : Post CM base Im0 w m s Q ((execOp ρ o).run P w) := by
 unfold mIadra at hm
 split at hm
 ·rename_i t x i hx
  simp only [Bool.and_eq_true] at hm
  obtain ⟨⟨h1, h2⟩, h3⟩ := hm
  split at h3
  ·rename_i k0 e hu
   simp only [Bool.and_eq_true, beq_iff_eq] at h3
   obtain ⟨rfl, h3⟩ := h3
   split at h3
   ·rename_i j hj
    have hsz : j.size = es := by simpa using h3
    simp only [opFn] at hq
    split at hq
    ·rename_i n hn
     obtain ⟨k, hk⟩ := toInt64_spec (hρ i z h2) hn
     split at hq
     ·rename_i hc
      obtain ⟨c1, c2⟩ := hc
      have run : ∀ b o0, ρ x = .pointer (some ⟨b, o0, none⟩) → (execOp ρ o).run P w = .ok (.value (.pointer (some ⟨b, o0 + n.toNat * es, none⟩))) w := fun b o0 e => by
       simp [execOp, hx, Instr.indexAt, hk, asIntOf, run_underlying hu, e, Instr.sureAddr, c1, c2, run_size hj, hsz, addr_add]
      have hr := hρ x y h1
      split at hq
      ·rename_i cs hy
       rw [hy] at hr
       obtain ⟨b, off, cur, e', fr, e1, k1, k2, k3, k4⟩ := inv_pp (inv_p hr)
       split at hq
       ·rename_i hlt
        refine Post.same h hq (.p _ _ (.pp b (off + n.toNat * es) cur e' fr _ k1 k2 (by simp; omega) (fun j u c hu hc => ?_))) (run b _ e1)
        rw [List.getElem?_drop] at hc
        exact k4 _ u c (by rw [← Nat.add_assoc]; exact hu) hc
       ·exact hq.elim
      ·rename_i id ver off hy
       rw [hy] at hr
       split at hq
       ·rename_i hv
        obtain ⟨o', b, zz, hg, hrow, hvo, hm, e1⟩ := inv_ptr hr hv
        exact Post.same h hq (ptr_same hg hrow hvo hm) (run b _ e1)
       ·exact hq.elim
      ·exact hq.elim
     ·exact hq.elim
    ·exact hq.elim
   ·cases h3
  ·cases h3
 ·cases hm

/-! parts of aggregates, strings, tuples -/

theorem part_rep {cs : Array Value} {l : List AVal} {off sz : Nat} {agg : Bool} {a : AVal} {t : Nat} {i : TypeInfo} {d : TypeDesc} (hl : cs.size = l.length) (hc : CellsA w I m s cs l)
  (hr : readA agg l off sz = some a) (hi : P.info? t = some i) (hd : P.underlying t = some d) (hsz : i.size = sz) (hagg : aggD d = agg) : ∃ v, (part t cs off).run P w = .ok v w ∧ ARep w I m s v a := by
 unfold readA at hr
 cases agg with
 | true =>
  simp only [if_true] at hr
  split at hr
  ·rename_i hle
   cases hr
   refine ⟨.agg (cs.extract off (off + sz)), ?_, .agg _ _ (by simp; omega) (fun j u c hu hcc => ?_)⟩
   ·simp [part, run_isAgg hd, hagg, run_size hi, hsz]
   ·rw [List.getElem?_take] at hcc
    split at hcc
    ·rw [List.getElem?_drop] at hcc
     rw [Array.getElem?_extract] at hu
     split at hu
     ·exact hc (off + j) u c hu hcc
     ·cases hu
    ·cases hcc
  ·cases hr
 | false =>
  simp only [Bool.false_eq_true, if_false] at hr
  obtain ⟨u, hu⟩ := agetElem?_of_lt cs off (by have := lt_of_some hr; omega)
  exact ⟨u, by simp [part, run_isAgg hd, hagg, hu], hc off u a hu hr⟩

def mType (P : Program) (t : Nat) (agg : Bool) (sz : Nat) : Bool := match P.info? t, P.underlying t with
 | some i, some d => i.size == sz && (aggD d == agg)
 | _, _ => false

theorem mType_spec {t : Nat} {agg : Bool} {sz : Nat} (h : mType P t agg sz = true) : ∃ i d, P.info? t = some i ∧ P.underlying t = some d ∧ i.size = sz ∧ aggD d = agg := by
 unfold mType at h
 split at h
 ·rename_i i d hi hd; simp at h; exact ⟨i, d, hi, hd, h.1, h.2⟩
 ·cases h

def mFld (P : Program) (o : Op) (agg : Bool) (off sz : Nat) (y : Opd) : Bool := match o with
 | .field t x f => mOpd x y && (match P.underlying t with
  | some (.struct fs) => (match fs[f]? with | some fd => fd.offset == off && mType P fd.type agg sz | none => false)
  | _ => false)
 | _ => false

theorem ok_fld {o : Oper} {agg : Bool} {off sz : Nat} {y : Opd} (hm : mFld P o.op agg off sz y = true) (h : SRep CM base Im0 w m s) (hρ : OpdOk w (Im base Im0 m s) m s ρ ρa) (hq : (opFn ρa s (.fld agg off sz y)).All Q) : Post CM base Im0 w m s Q ((execOp ρ o).run P w) := by
 unfold mFld at hm
 split at hm
 ·rename_i t x f hx
  simp only [Bool.and_eq_true] at hm
  obtain ⟨h1, h2⟩ := hm
  split at h2
  ·rename_i fs hu
   split at h2
   ·rename_i fd hfd
    simp only [Bool.and_eq_true, beq_iff_eq] at h2
    obtain ⟨rfl, h3⟩ := h2
    obtain ⟨i, d, hi, hd, hsz, hagg⟩ := mType_spec h3
    have hr := hρ x y h1
    simp only [opFn] at hq
    split at hq
    ·rename_i l hy
     rw [hy] at hr
     obtain ⟨cs, e1, e2, e3⟩ := inv_agg hr
     unfold opt1 at hq
     split at hq
     ·rename_i a ha
      obtain ⟨v, r1, r2⟩ := part_rep (P := P) e2 e3 ha hi hd hsz hagg
      exact Post.same h hq r2 (by simp [execOp, hx, Instr.field, run_underlying hu, hfd, e1, asAgg, r1])
     ·exact hq.elim
    ·exact hq.elim
   ·cases h2
  ·cases h2
 ·cases hm

def mIdx (P : Program) (o : Op) (agg : Bool) (es n : Nat) (y z : Opd) : Bool := match o with
 | .index t x i => mOpd x y && mOpd i z && (match P.underlying t with | some (.array k e) => k == n && mType P e agg es | _ => false)
 | _ => false

theorem ok_idx {o : Oper} {agg : Bool} {es len : Nat} {y z : Opd} (hm : mIdx P o.op agg es len y z = true) (h : SRep CM base Im0 w m s) (hρ : OpdOk w (Im base Im0 m s) m s ρ ρa) (hq : (opFn ρa s (.idx agg es len y z)).All Q) : Post CM base Im0 w m s Q ((execOp ρ o).run P w) := by
 unfold mIdx at hm
 split at hm
 ·rename_i t x i hx
  simp only [Bool.and_eq_true] at hm
  obtain ⟨⟨h1, h2⟩, h3⟩ := hm
  split at h3
  ·rename_i k0 e hu
   simp only [Bool.and_eq_true, beq_iff_eq] at h3
   obtain ⟨rfl, h3⟩ := h3
   obtain ⟨j, d, hi, hd, hsz, hagg⟩ := mType_spec h3
   simp only [opFn] at hq
   split at hq
   ·rename_i n l hn hy
    obtain ⟨k, hk⟩ := toInt64_spec (hρ i z h2) hn
    have hr := hρ x y h1
    rw [hy] at hr
    obtain ⟨cs, e1, e2, e3⟩ := inv_agg hr
    split at hq
    ·rename_i hc
     unfold opt1 at hq
     split at hq
     ·rename_i a ha
      obtain ⟨v, r1, r2⟩ := part_rep (P := P) e2 e3 ha hi hd hsz hagg
      exact Post.same h hq r2 (by simp [execOp, hx, Instr.index, hk, asIntOf, run_underlying hu, e1, hc.1, hc.2, run_size hi, hsz, r1])
     ·exact hq.elim
    ·exact hq.elim
   ·exact hq.elim
  ·cases h3
 ·cases hm

theorem bytes_get (st : ByteArray) (n : Nat) : st[n]? = st.data.toList[n]? := by
 by_cases h : n < st.size
 ·rw [ByteArray.getElem?_lt' st n h]
  have h' : n < st.data.size := h
  rw [Array.getElem?_toList, Array.getElem?_eq_getElem h']
  rfl
 ·rw [ByteArray.getElem?_ge' st n h]
  have h' : ¬ n < st.data.size := h
  rw [Array.getElem?_toList, Array.getElem?_eq_none (by omega)]

def mIdxs (P : Program) (o : Op) (y z : Opd) : Bool := match o with
 | .index t x i => mOpd x y && mOpd i z && (match P.underlying t with | some .string => true | _ => false)
 | _ => false

theorem ok_idxs {o : Oper} {y z : Opd} (hm : mIdxs P o.op y z = true) (h : SRep CM base Im0 w m s) (hρ : OpdOk w (Im base Im0 m s) m s ρ ρa) (hq : (opFn ρa s (.idxs y z)).All Q) : Post CM base Im0 w m s Q ((execOp ρ o).run P w) := by
 unfold mIdxs at hm
 split at hm
 ·rename_i t x i hx
  simp only [Bool.and_eq_true] at hm
  obtain ⟨⟨h1, h2⟩, h3⟩ := hm
  split at h3
  ·rename_i hu
   simp only [opFn] at hq
   split at hq
   ·rename_i n l hn hy
    obtain ⟨k, hk⟩ := toInt64_spec (hρ i z h2) hn
    have hr := hρ x y h1
    rw [hy] at hr
    obtain ⟨st, e1, rfl⟩ := inv_str hr
    split at hq
    ·rename_i hc
     split at hq
     ·rename_i b hb
      have hb' : st.data[n.toNat]? = some b := by simpa using hb
      exact Post.same h hq (rep_int _ _ _) (by simp [execOp, hx, Instr.index, hk, asIntOf, run_underlying hu, e1, hc, bytes_get, hb'])
     ·exact hq.elim
    ·exact hq.elim
   ·exact hq.elim
  ·cases h3
 ·cases hm

def mExt (o : Op) (y : Opd) (i : Nat) : Bool := match o with
 | .extract x j => mOpd x y && i == j
 | _ => false

theorem ok_ext {o : Oper} {y : Opd} {i : Nat} (hm : mExt o.op y i = true) (h : SRep CM base Im0 w m s) (hρ : OpdOk w (Im base Im0 m s) m s ρ ρa) (hq : (opFn ρa s (.ext y i)).All Q) : Post CM base Im0 w m s Q ((execOp ρ o).run P w) := by
 unfold mExt at hm
 split at hm
 ·rename_i x j hx
  simp only [Bool.and_eq_true, beq_iff_eq] at hm
  obtain ⟨h1, rfl⟩ := hm
  have hr := hρ x y h1
  simp only [opFn] at hq
  split at hq
  ·rename_i l hy
   rw [hy] at hr
   obtain ⟨cs, e1, e2, e3⟩ := inv_tup hr
   unfold opt1 at hq
   split at hq
   ·rename_i a ha
    obtain ⟨u, hu⟩ := agetElem?_of_lt cs i (by have := lt_of_some ha; omega)
    exact Post.same h hq (e3 i u a hu ha) (by simp [execOp, hx, Instr.extract, e1, hu])
   ·exact hq.elim
  ·exact hq.elim
 ·cases hm

end
end Fw
end

section
/-
  Operations, sixth part: slice expressions, lengths, conversions, make, append, copy.
-/
namespace Fw
open Go

section
variable {CM : Nat → Code → ACode → Prop} {base : Nat} {Im0 : Nat → Prop} {w : World} {m : Mem} {s : Sto} {P : Program} {ρ : Operand → Value} {ρa : Opd → AVal} {Q : AVal × Sto → Prop} {I : Nat → Prop}

def mOO : Option Operand → Option Opd → Bool
 | none, none => true
 | some x, some y => mOpd x y
 | _, _ => false

theorem hi_spec {hi : Option Operand} {ha : Option Opd} (h2 : mOO hi ha = true) (hρ : OpdOk w I m s ρ ρa) {len b : Nat} (hb : hiBnd len (ha.map ρa) = some b) : b ≤ len ∧ ((hi = none ∧ b = len) ∨ ∃ x k, hi = some x ∧ ρ x = .int k (b : Int)) := by
 cases ha with
 | none =>
  cases hi with
  | none => simp [hiBnd] at hb; exact ⟨by omega, .inl ⟨rfl, hb.symm⟩⟩
  | some x => cases h2
 | some y =>
  cases hi with
  | none => cases h2
  | some x =>
   simp only [Option.map_some] at hb
   unfold hiBnd at hb
   split at hb
   ·rename_i e; cases e
   ·rename_i k z hz
    simp only [Option.some.injEq] at hz
    split at hb
    ·rename_i hc
     cases hb
     refine ⟨by omega, .inr ⟨x, k, rfl, ?_⟩⟩
     have := inv_int (hz ▸ hρ x y h2)
     rw [this, Int.toNat_of_nonneg hc.1]
    ·cases hb
   ·cases hb

theorem lo_spec {lo : Option Operand} {la : Option Opd} (h2 : mOO lo la = true) (hρ : OpdOk w I m s ρ ρa) {h a : Nat} (hb : loBnd h (la.map ρa) = some a) : a ≤ h ∧ ((lo = none ∧ a = 0) ∨ ∃ x k, lo = some x ∧ ρ x = .int k (a : Int)) := by
 cases la with
 | none =>
  cases lo with
  | none => simp [loBnd] at hb; exact ⟨by omega, .inl ⟨rfl, hb.symm⟩⟩
  | some x => cases h2
 | some y =>
  cases lo with
  | none => cases h2
  | some x =>
   simp only [Option.map_some] at hb
   unfold loBnd at hb
   split at hb
   ·rename_i e; cases e
   ·rename_i k z hz
    simp only [Option.some.injEq] at hz
    split at hb
    ·rename_i hc
     cases hb
     refine ⟨by omega, .inr ⟨x, k, rfl, ?_⟩⟩
     have := inv_int (hz ▸ hρ x y h2)
     rw [this, Int.toNat_of_nonneg hc.1]
    ·cases hb
   ·cases hb

theorem bnds_run {lo hi : Option Operand} {la ha : Option Opd} (h1 : mOO lo la = true) (h2 : mOO hi ha = true) (hρ : OpdOk w I m s ρ ρa) {len cap a b : Nat} (hlc : len ≤ cap) (hb : sliceBnds len (la.map ρa) (ha.map ρa) = some (a, b)) (isS : Bool) :
  a ≤ b ∧ b ≤ len ∧ (Instr.sliceBounds isS len cap (lo.map ρ) (hi.map ρ) none).run P w = .ok (a, b, cap) w := by
 unfold sliceBnds at hb
 split at hb
 ·cases hb
 ·rename_i b' hb'
  split at hb
  ·cases hb
  ·rename_i a' ha'
   cases hb
   obtain ⟨hbl, hh⟩ := hi_spec h2 hρ hb'
   obtain ⟨l1, l2⟩ := lo_spec h1 hρ ha'
   refine ⟨l1, hbl, ?_⟩
   have sb : ∀ (k : IntKind) (x y : Nat) (c : BoundsCode), x ≤ y → (Instr.sliceBound (.int k (x : Int)) y c).run P w = .ok x w := fun k x y c hxy => by
    simp [Instr.sliceBound, asIntOf, hxy]
   unfold Instr.sliceBounds
   rcases hh with ⟨rfl, rfl⟩ | ⟨x, k, rfl, hx⟩ <;> rcases l2 with ⟨rfl, rfl⟩ | ⟨x', k', rfl, hx'⟩
   ·simp
   ·simp only [Option.map_none, Option.map_some, hx', Sem.run_bind, Sem.run_pure, Result.andThen_ok, sb k' a b _ l1]
   ·simp only [Option.map_none, Option.map_some, hx, Sem.run_bind, Sem.run_pure, Result.andThen_ok, sb k b cap _ (by omega)]
   ·simp only [Option.map_some, hx, hx', Sem.run_bind, Sem.run_pure, Result.andThen_ok, sb k b cap _ (by omega), sb k' a b _ l1]

theorem str_len (st : ByteArray) : st.data.toList.length = st.size := by show _ = st.data.size; exact Array.length_toList

def mSlcs (P : Program) (o : Op) (y : Opd) (lo hi : Option Opd) : Bool := match o with
 | .slice t x l h none => mOpd x y && mOO l lo && mOO h hi && (match P.underlying t with | some .string => true | _ => false)
 | _ => false

theorem ok_slcs {o : Oper} {y : Opd} {lo hi : Option Opd} (hm : mSlcs P o.op y lo hi = true) (h : SRep CM base Im0 w m s) (hρ : OpdOk w (Im base Im0 m s) m s ρ ρa) (hq : (opFn ρa s (.slcs y lo hi)).All Q) : Post CM base Im0 w m s Q ((execOp ρ o).run P w) := by
 unfold mSlcs at hm
 split at hm
 ·rename_i t x l hh hx
  simp only [Bool.and_eq_true] at hm
  obtain ⟨⟨⟨h1, h2⟩, h3⟩, h4⟩ := hm
  split at h4
  ·rename_i hu
   have hr := hρ x y h1
   simp only [opFn] at hq
   split at hq
   ·rename_i l0 hy
    rw [hy] at hr
    obtain ⟨st, e1, rfl⟩ := inv_str hr
    split at hq
    ·rename_i a b hb
     rw [str_len] at hb
     obtain ⟨b1, b2, b3⟩ := bnds_run (P := P) h2 h3 hρ (Nat.le_refl st.size) hb false
     refine Post.same h hq (v := .string (st.extract a b)) ?_ (by simp [execOp, hx, Instr.sliceAt, run_underlying hu, Instr.slice, e1, b3])
     have : (st.extract a b).data.toList = (st.data.toList.take b).drop a := by
      rw [ByteArray.data_extract, Array.toList_extract, List.extract_eq_take_drop, List.drop_take]
     rw [← this]; exact rep_str _ _
    ·exact hq.elim
   ·exact hq.elim
  ·cases h4
 ·cases hm

def mSlc (P : Program) (o : Op) (es : Nat) (y : Opd) (lo hi : Option Opd) : Bool := match o with
 | .slice t x l h none => mOpd x y && mOO l lo && mOO h hi && (match P.underlying t with | some (.slice e) => (match P.info? e with | some i => i.size == es | none => false) | _ => false)
 | _ => false

theorem ok_slc {o : Oper} {es : Nat} {y : Opd} {lo hi : Option Opd} (hm : mSlc P o.op es y lo hi = true) (h : SRep CM base Im0 w m s) (hρ : OpdOk w (Im base Im0 m s) m s ρ ρa) (hq : (opFn ρa s (.slc es y lo hi)).All Q) : Post CM base Im0 w m s Q ((execOp ρ o).run P w) := by
 unfold mSlc at hm
 split at hm
 ·rename_i t x l hh hx
  simp only [Bool.and_eq_true] at hm
  obtain ⟨⟨⟨h1, h2⟩, h3⟩, h4⟩ := hm
  split at h4
  ·rename_i e hu
   split at h4
   ·rename_i i hi0
    have hsz : i.size = es := by simpa using h4
    have run : ∀ ad len cap a b, ρ x = .slice ad len cap → len ≤ cap → sliceBnds len (lo.map ρa) (hi.map ρa) = some (a, b) → (execOp ρ o).run P w = .ok (.value (.slice (if cap = a then ad else ad.map (·.add (a * es))) (b - a) (cap - a))) w := fun ad len cap a b e1 hlc hb => by
     obtain ⟨b1, b2, b3⟩ := bnds_run (P := P) h2 h3 hρ hlc hb true
     simp [execOp, hx, Instr.sliceAt, run_underlying hu, Instr.slice, e1, b3, run_size hi0, hsz]
    have hr := hρ x y h1
    simp only [opFn] at hq
    split at hq
    ·rename_i cs n hy
     rw [hy] at hr
     split at hq
     ·rename_i a b hb
      split at hq
      case isFalse => exact hq.elim
      rename_i hacs
      rcases inv_psl (inv_p hr) with ⟨ad, cap, e1, rfl, rfl⟩ | ⟨bk, off, cap, cur, e', fr, e1, k1, k2, k3, k4, k5⟩
      ·obtain ⟨b1, b2, b3⟩ := bnds_run (P := P) h2 h3 hρ (Nat.zero_le cap) hb true
       have ha : a = 0 := by omega
       have hb0 : b = 0 := by omega
       subst ha hb0
       exact Post.same h hq (.p _ _ (by simp; exact .sl0 ..)) (run _ _ _ _ _ e1 (Nat.zero_le _) hb)
      ·obtain ⟨b1, b2, b3⟩ := bnds_run (P := P) h2 h3 hρ k4 hb true
       have hrun := run _ _ _ _ _ e1 k4 hb
       by_cases hca : cap = a
       ·have hab : b = a := by omega
        subst hab
        rw [if_pos hca] at hrun
        refine Post.same h hq (.p _ _ ?_) hrun
        have : (cs.take (b * es)).drop (b * es) = [] := by simp
        rw [this, Nat.sub_self]; exact .sl0 ..
       ·rw [if_neg hca] at hrun
        refine Post.same h hq (.p _ _ (.sl bk (off + a * es) (b - a) (cap - a) cur e' fr _ k1 k2 (by simp; omega) (by omega) (fun j u c hu hc => ?_))) (by simpa [addr_add] using hrun)
        rw [List.getElem?_drop, List.getElem?_take] at hc
        split at hc
        ·exact k5 _ u c (by rw [← Nat.add_assoc]; exact hu) hc
        ·cases hc
     ·exact hq.elim
    ·rename_i hy
     rw [hy] at hr
     obtain ⟨ad, e1⟩ := inv_nils (inv_p hr)
     split at hq
     ·rename_i ab hb
      obtain ⟨a, b⟩ := ab
      obtain ⟨b1, b2, b3⟩ := bnds_run (P := P) h2 h3 hρ (Nat.le_refl 0) hb true
      have ha : a = 0 := by omega
      have hb0 : b = 0 := by omega
      subst ha hb0
      exact Post.same h hq (.p _ _ (.nils _)) (run _ _ _ _ _ e1 (Nat.le_refl _) hb)
     ·exact hq.elim
    ·rename_i id ver off n hy
     rw [hy] at hr
     split at hq
     ·rename_i hc
      obtain ⟨c1, c2⟩ := hc
      split at hq
      ·rename_i a b hb
       obtain ⟨o', hg, hrow, hvo, hs⟩ := inv_sl hr c2
       have hes : esO o' = es := by
        unfold esOf at c1
        rw [hg] at c1
        cases o' <;> simp_all [esO]
       rw [hes] at hs
       have fin : ∀ v, SlRep (m id) es (off + a * es) (b - a) v → v.oneCell' = true → ARep w (Im base Im0 m s) m s v (.sl id ver (off + a * es) (b - a)) := fun v hv h1 => .sl _ id ver _ _ o' hg hrow (by omega) (fun _ => by rw [hes]; exact hv) h1
       rcases hs with ⟨rfl, ad, e1⟩ | ⟨bk, z, cap, hm', e1, l1, l2⟩
       ·obtain ⟨b1, b2, b3⟩ := bnds_run (P := P) h2 h3 hρ (Nat.le_refl 0) hb true
        have ha : a = 0 := by omega
        have hb0 : b = 0 := by omega
        subst ha hb0
        exact Post.same h hq (fin _ (.inl ⟨rfl, ad, by simp⟩) rfl) (run _ _ _ _ _ e1 (Nat.le_refl _) hb)
       ·obtain ⟨b1, b2, b3⟩ := bnds_run (P := P) h2 h3 hρ l1 hb true
        have hrun := run _ _ _ _ _ e1 l1 hb
        by_cases hca : cap = a
        ·have hab : b = a := by omega
         subst hab
         rw [if_pos hca] at hrun
         exact Post.same h hq (fin _ (.inl ⟨by omega, _, by rw [hca, Nat.sub_self]⟩) rfl) hrun
        ·rw [if_neg hca] at hrun
         refine Post.same h hq (fin _ (.inr ⟨bk, z, cap - a, hm', by simp only [Option.map_some, addr_add], by omega, ?_⟩) rfl) hrun
         have : a * es + (cap - a) * es = cap * es := by rw [← Nat.add_mul]; congr 1; omega
         omega
      ·exact hq.elim
     ·exact hq.elim
    ·exact hq.elim
   ·cases h4
  ·cases h4
 ·cases hm

def mSlc3 (P : Program) (o : Op) (es : Nat) (y lo hi mx : Opd) : Bool := match o with
 | .slice t x l (some h) (some mm) => mOpd x y && (match l with | some l => mOpd l lo | none => (match lo with | .c (.p (.int .i64 0)) => true | _ => false)) && mOpd h hi && mOpd mm mx &&
  (match P.underlying t with | some (.slice e) => (match P.info? e with | some i => i.size == es | none => false) | _ => false)
 | _ => false

theorem ok_slc3 {o : Oper} {own : Bool} {es : Nat} {y lo hi mx : Opd} (hm : mSlc3 P o.op es y lo hi mx = true) (h : SRep CM base Im0 w m s) (hb : base ≤ w.heap.size) (hρ : OpdOk w (Im base Im0 m s) m s ρ ρa)
  (hq : (opFn ρa s (.slc3 own es y lo hi mx)).All Q) : Post CM base Im0 w m s Q ((execOp ρ o).run P w) := by
 unfold mSlc3 at hm
 split at hm
 ·rename_i t x l hh mm hx
  simp only [Bool.and_eq_true] at hm
  obtain ⟨⟨⟨⟨h1, h2⟩, h3⟩, h4⟩, h5⟩ := hm
  split at h5
  ·rename_i e hu
   split at h5
   ·rename_i i hi0
    simp only [opFn] at hq
    split at hq
    ·rename_i n1 n2 n3
     obtain ⟨k2, e2⟩ := toInt64_spec (hρ hh hi h3) n2
     obtain ⟨k3, e3⟩ := toInt64_spec (hρ mm mx h4) n3
     have run : ∀ ad len cap, ρ x = .slice ad len cap → (execOp ρ o).run P w = .ok (.value (.slice ad 0 0)) w := fun ad len cap e1 => by
      cases l with
      | none => simp [execOp, hx, Instr.sliceAt, run_underlying hu, Instr.slice, e1, Instr.sliceBounds, e2, e3, Instr.sliceBound, asIntOf, run_size hi0]
      | some l =>
       obtain ⟨k1, e4⟩ := toInt64_spec (hρ l lo h2) n1
       simp [execOp, hx, Instr.sliceAt, run_underlying hu, Instr.slice, e1, Instr.sliceBounds, e2, e3, e4, Instr.sliceBound, asIntOf, run_size hi0]
     have fin : ∀ ad, (execOp ρ o).run P w = .ok (.value (.slice ad 0 0)) w → (if own then newO s (.arr [] 0 es) (fun i => .sl i 0 0 0) else some1 (.p .nils) s).All Q → Post CM base Im0 w m s Q ((execOp ρ o).run P w) := fun ad hrun hq => by
      split at hq
      ·obtain ⟨hs', hev⟩ := new_nil h hb es
       exact ⟨_, _, w, _, _, hq, hs', hev, sl0_rep ad (by rw [get_new, if_pos rfl]) rfl, .inl hrun⟩
      ·exact Post.same h hq (.p _ _ (.nils ad)) hrun
     have hr := hρ x y h1
     split at hq
     ·rename_i cs n hy
      rw [hy] at hr
      rcases inv_psl (inv_p hr) with ⟨ad, cap, e1, _⟩ | ⟨bk, off, cap, cur, e', fr, e1, _⟩
      ·exact fin _ (run _ _ _ e1) hq
      ·exact fin _ (run _ _ _ e1) hq
     ·rename_i hy
      rw [hy] at hr
      obtain ⟨ad, e1⟩ := inv_nils (inv_p hr)
      exact fin _ (run _ _ _ e1) hq
     ·exact hq.elim
    ·exact hq.elim
   ·cases h5
  ·cases h5
 ·cases hm

def mSlca (P : Program) (o : Op) (es n : Nat) (y : Opd) (lo hi : Option Opd) : Bool := match o with
 | .slice t x l h none => mOpd x y && mOO l lo && mOO h hi && (match P.underlying t with | some (.array k e) => k == n && (match P.info? e with | some i => i.size == es | none => false) | _ => false)
 | _ => false

theorem ok_slca {o : Oper} {es n : Nat} {y : Opd} {lo hi : Option Opd} (hm : mSlca P o.op es n y lo hi = true) (h : SRep CM base Im0 w m s) (hρ : OpdOk w (Im base Im0 m s) m s ρ ρa) (hq : (opFn ρa s (.slca es n y lo hi)).All Q) : Post CM base Im0 w m s Q ((execOp ρ o).run P w) := by
 unfold mSlca at hm
 split at hm
 ·rename_i t x l hh hx
  simp only [Bool.and_eq_true] at hm
  obtain ⟨⟨⟨h1, h2⟩, h3⟩, h4⟩ := hm
  split at h4
  ·rename_i k0 e hu
   simp only [Bool.and_eq_true, beq_iff_eq] at h4
   obtain ⟨rfl, h4⟩ := h4
   split at h4
   ·rename_i i hi0
    have hsz : i.size = es := by simpa using h4
    simp only [opFn] at hq
    split at hq
    ·rename_i a b hb
     obtain ⟨b1, b2, b3⟩ := bnds_run (P := P) h2 h3 hρ (Nat.le_refl k0) hb false
     have run : ∀ bk o0, ρ x = .pointer (some ⟨bk, o0, none⟩) → (execOp ρ o).run P w = .ok (.value (.slice (some (if k0 = a then ⟨bk, o0, none⟩ else ⟨bk, o0 + a * es, none⟩)) (b - a) (k0 - a))) w := fun bk o0 e1 => by
      simp [execOp, hx, Instr.sliceAt, run_underlying hu, e1, Instr.sureAddr, b3, run_size hi0, hsz, addr_add]
     have hr := hρ x y h1
     have hmul : a * es + (k0 - a) * es = k0 * es := by rw [← Nat.add_mul]; congr 1; omega
     split at hq
     ·rename_i id ver off hy
      rw [hy] at hr
      split at hq
      ·rename_i hc
       obtain ⟨c1, c2, c3⟩ := hc
       obtain ⟨o', bk, z, hg, hrow, hvo, hm', e1⟩ := inv_ptr hr c2
       have hes : esO o' = es := by
        unfold esOf at c1
        rw [hg] at c1
        cases o' <;> simp_all [esO]
       have hzz : off + k0 * es ≤ z := by
        unfold Fw.sizeOf at c3
        rw [hg] at c3
        cases o' with
        | arr cs v es' =>
         rcases h.obj id _ hg with q1 | ⟨b', z', cur, e', fr, q1, q2, q3, q4, q5, q6⟩
         ·rw [hm'] at q1; cases q1.1
         ·rw [hm'] at q1; cases q1; simp at c3; omega
        | frz cs v es' =>
         rcases h.obj id _ hg with q1 | ⟨b', z', cur, e', fr, q1, q2, q3, q4, q5, q6⟩
         ·rw [hm'] at q1; cases q1.1
         ·rw [hm'] at q1; cases q1; simp at c3; omega
        | box cs =>
         obtain ⟨b', z', cur, e', fr, q1, q2, q3, q4, q5, q6⟩ := h.obj id _ hg
         simp at c3; omega
        | _ => cases hrow
       have hrun := run _ _ e1
       have fin : ∀ v, SlRep (m id) es (off + a * es) (b - a) v → v.oneCell' = true → ARep w (Im base Im0 m s) m s v (.sl id ver (off + a * es) (b - a)) := fun v hv h1 => .sl _ id ver _ _ o' hg hrow (by omega) (fun _ => by rw [hes]; exact hv) h1
       by_cases hca : k0 = a
       ·rw [if_pos hca] at hrun
        exact Post.same h hq (fin _ (.inl ⟨by omega, _, by rw [show b - a = 0 by omega, show k0 - a = 0 by omega]⟩) rfl) hrun
       ·rw [if_neg hca] at hrun
        exact Post.same h hq (fin _ (.inr ⟨bk, z, k0 - a, hm', rfl, by omega, by omega⟩) rfl) hrun
      ·exact hq.elim
     ·rename_i cs hy
      rw [hy] at hr
      obtain ⟨bk, off, cur, e', fr, e1, k1, k2, k3, k4⟩ := inv_pp (inv_p hr)
      split at hq
      ·rename_i hle
       have hrun := run _ _ e1
       by_cases hca : k0 = a
       ·rw [if_pos hca] at hrun
        refine Post.same h hq (.p _ _ ?_) hrun
        have hab : b = a := by omega
        have : (cs.take (b * es)).drop (a * es) = [] := by rw [hab]; simp
        rw [this, show b - a = 0 by omega, show k0 - a = 0 by omega]; exact .sl0 ..
       ·rw [if_neg hca] at hrun
        refine Post.same h hq (.p _ _ (.sl bk (off + a * es) (b - a) (k0 - a) cur e' fr _ k1 k2 (by simp; omega) (by omega) (fun j u c hu hc => ?_))) hrun
        rw [List.getElem?_drop, List.getElem?_take] at hc
        split at hc
        ·exact k4 _ u c (by rw [← Nat.add_assoc]; exact hu) hc
        ·cases hc
      ·exact hq.elim
     ·exact hq.elim
    ·exact hq.elim
   ·cases h4
  ·cases h4
 ·cases hm

/-! lengths, greatest and least -/

def mLen (P : Program) (o : Op) (k : Nat) (y : Opd) : Bool := match o with
 | .call { callee := .builtin .len, args, argTypes } => (match args.toList, argTypes[0]? with
  | [x], some t => mOpd x y && (match k, P.underlying t with | 0, some .string => true | 1, some (.slice _) => true | 2, some (.map _ _) => true | _, _ => false)
  | _, _ => false)
 | _ => false

theorem ok_len {o : Oper} {k : Nat} {y : Opd} (hm : mLen P o.op k y = true) (h : SRep CM base Im0 w m s) (hρ : OpdOk w (Im base Im0 m s) m s ρ ρa) (hq : (opFn ρa s (.len k y)).All Q) : Post CM base Im0 w m s Q ((execOp ρ o).run P w) := by
 unfold mLen at hm
 split at hm
 ·rename_i args argTypes hx
  split at hm
  ·rename_i x t hargs ht
   simp only [Bool.and_eq_true] at hm
   obtain ⟨h1, h2⟩ := hm
   have hr := hρ x y h1
   have ha : args = #[x] := by apply Array.ext'; simpa using hargs
   subst ha
   have run : ∀ n : Int, (∀ ty, (Builtin.len_ argTypes ty #[ρ x]).run P w = .ok (goInt n) w) → (execOp ρ o).run P w = .ok (.value (.int .i64 n)) w := fun n hn => by
    simp [execOp, hx, resolve, invoke, builtin, hn, goInt]
   split at h2
   ·rename_i hu
    simp only [opFn] at hq
    split at hq <;> try (rename_i hk _; cases hk)
    ·rename_i l hy
     rw [hy] at hr
     obtain ⟨st, e1, rfl⟩ := inv_str hr
     rw [str_len] at hq
     exact Post.same h hq (rep_int _ _ _) (run _ (fun ty => by simp [Builtin.len_, ht, run_underlying hu, e1]))
    ·exact hq.elim
   ·rename_i e hu
    simp only [opFn] at hq
    have sl : ∀ a n c, ρ x = .slice a n c → (execOp ρ o).run P w = .ok (.value (.int .i64 (n : Int))) w := fun a n c e1 => run _ (fun ty => by simp [Builtin.len_, ht, run_underlying hu, e1])
    split at hq <;> try (rename_i hk _; cases hk)
    ·rename_i cs n hk hy
     rw [hy] at hr
     rcases inv_psl (inv_p hr) with ⟨ad, cap, e1, _, rfl⟩ | ⟨bk, off, cap, cur, e', fr, e1, _⟩
     ·exact Post.same h hq (rep_int _ _ _) (sl _ _ _ e1)
     ·exact Post.same h hq (rep_int _ _ _) (sl _ _ _ e1)
    ·rename_i hy
     rw [hy] at hr
     obtain ⟨ad, e1⟩ := inv_nils (inv_p hr)
     exact Post.same h hq (rep_int _ _ _) (sl _ _ _ e1)
    ·rename_i i v off n hk hy
     rw [hy] at hr
     split at hq
     ·rename_i hv
      obtain ⟨o', _, _, _, hs⟩ := inv_sl hr hv
      obtain ⟨a, cap, e1, _⟩ := hs.isSlice
      exact Post.same h hq (rep_int _ _ _) (sl _ _ _ e1)
     ·exact hq.elim
    ·exact hq.elim
   ·rename_i kt et hu
    simp only [opFn] at hq
    have mp : ∀ b es c, ρ x = .map (some b) → w.heap[b]? = some (.map es c) → (execOp ρ o).run P w = .ok (.value (.int .i64 (es.size : Int))) w := fun b es c e1 hb => run _ (fun ty => by
     have : (getObj b).run P w = .ok (.map es c) w := by simp [getObj, Sem.run, hb]
     simp [Builtin.len_, ht, run_underlying hu, e1, this])
    split at hq <;> try (rename_i hk _; cases hk)
    ·rename_i ks vs hk hy
     rw [hy] at hr
     have hp := inv_p hr
     generalize hrx : ρ x = rx at hp
     cases hp with
     | map r es clock _ _ k1 k2 k3 k4 k5 k6 k7 k8 =>
      have := mp r es clock hrx k2
      exact Post.same h hq (rep_int _ _ _) (by rw [this, k3])
    ·rename_i hy
     rw [hy] at hr
     have hp := inv_p hr
     generalize hrx : ρ x = rx at hp
     cases hp
     exact Post.same h hq (rep_int _ _ _) (run _ (fun ty => by simp [Builtin.len_, ht, run_underlying hu, hrx]))
    ·rename_i hy
     rw [hy] at hr
     generalize hrx : ρ x = rx at hr
     cases hr with
     | mp i b z o' hg hmap hm' =>
     split at hq
     ·rename_i ks vs hg'
      rw [hg] at hg'; cases hg'
      obtain ⟨b', z', es, clock, q1, q2, q3⟩ := h.obj _ _ hg
      rw [hm'] at q1; cases q1
      have := mp b es clock hrx q2
      exact Post.same h hq (rep_int _ _ _) (by rw [this, q3.1])
     ·rename_i ks vs hg'
      rw [hg] at hg'; cases hg'
      obtain ⟨b', z', es, clock, q1, q2, _, q3⟩ := h.obj _ _ hg
      rw [hm'] at q1; cases q1
      have := mp b es clock hrx q2
      exact Post.same h hq (rep_int _ _ _) (by rw [this, q3.1])
     ·exact hq.elim
    ·exact hq.elim
   ·cases h2
  ·cases hm
 ·cases hm

def mMM (b : Builtin) (o : Op) (ys : List Opd) : Bool := match o with
 | .call { callee := .builtin c, args, .. } => decide (c = b) && mOpds args.toList ys
 | _ => false

theorem ints_max : ∀ {r : List AVal} {n k : Int} {vs : List Value}, maxInt n r = some k → vs.length = r.length → (∀ (j : Nat) u c, vs[j]? = some u → r[j]? = some c → ARep w I m s u c) → (vs.foldlM Builtin.max2 (.int .i64 n)).run P w = .ok (.int .i64 k) w := by
 intro r
 induction r with
 | nil => intro n k vs hk hl _; cases vs <;> simp at hl; simp [maxInt] at hk; subst hk; rfl
 | cons a t ih =>
  intro n k vs hk hl hc
  cases vs with
  | nil => simp at hl
  | cons v q =>
   unfold maxInt at hk
   split at hk
   ·rename_i e; cases e
   ·rename_i x t' e
    cases e
    have := inv_int (hc 0 v _ rfl rfl)
    subst this
    simp only [List.foldlM_cons, Builtin.max2, Sem.run_bind, Sem.run_pure, Result.andThen_ok]
    exact ih hk (by simpa using hl) (fun j u c hu hcc => hc (j + 1) u c (by simpa using hu) (by simpa using hcc))
   ·cases hk

theorem ints_min : ∀ {r : List AVal} {n k : Int} {vs : List Value}, minInt n r = some k → vs.length = r.length → (∀ (j : Nat) u c, vs[j]? = some u → r[j]? = some c → ARep w I m s u c) → (vs.foldlM Builtin.min2 (.int .i64 n)).run P w = .ok (.int .i64 k) w := by
 intro r
 induction r with
 | nil => intro n k vs hk hl _; cases vs <;> simp at hl; simp [minInt] at hk; subst hk; rfl
 | cons a t ih =>
  intro n k vs hk hl hc
  cases vs with
  | nil => simp at hl
  | cons v q =>
   unfold minInt at hk
   split at hk
   ·rename_i e; cases e
   ·rename_i x t' e
    cases e
    have := inv_int (hc 0 v _ rfl rfl)
    subst this
    simp only [List.foldlM_cons, Builtin.min2, Sem.run_bind, Sem.run_pure, Result.andThen_ok]
    exact ih hk (by simpa using hl) (fun j u c hu hcc => hc (j + 1) u c (by simpa using hu) (by simpa using hcc))
   ·cases hk

theorem ok_max {o : Oper} {ys : List Opd} (hm : mMM .max o.op ys = true) (h : SRep CM base Im0 w m s) (hρ : OpdOk w (Im base Im0 m s) m s ρ ρa) (hq : (opFn ρa s (.max ys)).All Q) : Post CM base Im0 w m s Q ((execOp ρ o).run P w) := by
 unfold mMM at hm
 split at hm
 ·rename_i c args argTypes hx
  simp only [Bool.and_eq_true, decide_eq_true_eq] at hm
  obtain ⟨rfl, h1⟩ := hm
  obtain ⟨hl, he⟩ := mOpds_spec h1 hρ
  simp only [opFn] at hq
  split at hq
  ·rename_i n r hy
   unfold opt1 at hq
   cases hk : maxInt n r with
   | none => rw [hk] at hq; exact hq.elim
   | some k =>
    rw [hk] at hq
    generalize hvs : args.toList.map ρ = vs at he
    rw [hy] at he
    cases vs with
    | nil =>
     have a1 : args.toList.length = 0 := by have := congrArg List.length hvs; simpa using this
     have a2 : ys.length = r.length + 1 := by have := congrArg List.length hy; simpa using this
     omega
    | cons v q =>
     have hv := inv_int (he 0 v _ rfl rfl)
     subst hv
     have hql : q.length = r.length := by
      have a1 : args.toList.length = q.length + 1 := by have := congrArg List.length hvs; simpa using this
      have a2 : ys.length = r.length + 1 := by have := congrArg List.length hy; simpa using this
      omega
     have := ints_max (P := P) (vs := q) hk hql (fun j u c hu hc => he (j + 1) u c (by simpa using hu) (by simpa using hc))
     refine Post.same h hq (rep_int _ _ _) ?_
     have hm2 : ∀ ty, (Builtin.max_ argTypes ty (args.map ρ)).run P w = .ok (.int .i64 k) w := fun ty => by
      simp only [Builtin.max_, Array.toList_map, hvs]; exact this
     simp [execOp, hx, resolve, invoke, builtin, hm2]
  ·exact hq.elim
 ·cases hm

theorem ok_min {o : Oper} {ys : List Opd} (hm : mMM .min o.op ys = true) (h : SRep CM base Im0 w m s) (hρ : OpdOk w (Im base Im0 m s) m s ρ ρa) (hq : (opFn ρa s (.min ys)).All Q) : Post CM base Im0 w m s Q ((execOp ρ o).run P w) := by
 unfold mMM at hm
 split at hm
 ·rename_i c args argTypes hx
  simp only [Bool.and_eq_true, decide_eq_true_eq] at hm
  obtain ⟨rfl, h1⟩ := hm
  obtain ⟨hl, he⟩ := mOpds_spec h1 hρ
  simp only [opFn] at hq
  split at hq
  ·rename_i n r hy
   unfold opt1 at hq
   cases hk : minInt n r with
   | none => rw [hk] at hq; exact hq.elim
   | some k =>
    rw [hk] at hq
    generalize hvs : args.toList.map ρ = vs at he
    rw [hy] at he
    cases vs with
    | nil =>
     have a1 : args.toList.length = 0 := by have := congrArg List.length hvs; simpa using this
     have a2 : ys.length = r.length + 1 := by have := congrArg List.length hy; simpa using this
     omega
    | cons v q =>
     have hv := inv_int (he 0 v _ rfl rfl)
     subst hv
     have hql : q.length = r.length := by
      have a1 : args.toList.length = q.length + 1 := by have := congrArg List.length hvs; simpa using this
      have a2 : ys.length = r.length + 1 := by have := congrArg List.length hy; simpa using this
      omega
     have := ints_min (P := P) (vs := q) hk hql (fun j u c hu hc => he (j + 1) u c (by simpa using hu) (by simpa using hc))
     refine Post.same h hq (rep_int _ _ _) ?_
     have hm2 : ∀ ty, (Builtin.min_ argTypes ty (args.map ρ)).run P w = .ok (.int .i64 k) w := fun ty => by
      simp only [Builtin.min_, Array.toList_map, hvs]; exact this
     simp [execOp, hx, resolve, invoke, builtin, hm2]
  ·exact hq.elim
 ·cases hm

end
end Fw
end

