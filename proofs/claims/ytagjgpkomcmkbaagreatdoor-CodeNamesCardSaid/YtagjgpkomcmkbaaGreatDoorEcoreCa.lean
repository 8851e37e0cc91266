/- The abstract heap, and what each instruction asks and does: part 3b of a program logic over the model. No condition. -/
import Derived.Test.YtagjgpkomcmkbaaGreatDoorEcoreC
namespace Go.Scr
open Go

structure AAct where
  env : List (Nat × AV)
  defers : List (AV × List AV)
  n : Nat

namespace AAct
def get (a : AAct) (t : Nat) : AV := (a.env.lookup t).getD .undef
def put (a : AAct) (d : Option Nat) (v : AV) : AAct := match d with
  | none => a
  | some d => { a with env := (d, v) :: a.env }
def keep (a : AAct) (l : List Nat) : AAct := { a with env := l.map fun t => (t, a.get t) }
end AAct

/-- Where a range over a function stands: may its next round begin; is one under way; or has one left, and how (none: a return). -/
inductive LSt where
  | ready
  | busy
  | done (j : Option Nat)
  deriving Inhabited

def jumpC : Option Nat → Code
  | none => .ret
  | some id => .exit id

def LSt.rel : LSt → Loop → Prop
  | .ready, r => r.state = .ready ∧ r.pending = none
  | .busy, r => r.state = .busy
  | .done j, r => r.state = .done ∧ r.pending = some (jumpC j)

/-- The text of a range over a function: how many slots, the parameters, the assignment, the body. -/
structure LRec where
  n : Nat
  ps : List Nat
  as : LC
  bd : LC
  deriving Inhabited

inductive AObj where
  | cells (vs : List AV)
  | map (es : List (AV × AV × Nat)) (clock : Nat)
  | siter (s : List UInt8) (pos : Nat)
  | miter (m : Option Nat) (since : Nat) (seen : List Nat) (stepped : Nat)
  | dfr
  | loop (env : List (Nat × AV)) (lr : LRec) (st : LSt)
  deriving Inhabited

structure AH where
  heap : Nat → Option AObj
  tip : Nat → Option Nat

namespace AH
def set (σ : AH) (b : Nat) (o : AObj) : AH := { σ with heap := fun x => if x = b then some o else σ.heap x }
def drop (σ : AH) (b : Nat) : AH := { σ with heap := fun x => if x = b then none else σ.heap x }
def own (σ : AH) (b e : Nat) : AH := { σ with tip := fun x => if x = b then some e else σ.tip x }
def disown (σ : AH) (b : Nat) : AH := { σ with tip := fun x => if x = b then none else σ.tip x }
def fresh (σ : AH) (b : Nat) : Prop := σ.heap b = none ∧ σ.tip b = none
/-- All that the first one says the second one says. -/
def le (σ ρ : AH) : Prop := (∀ b o, σ.heap b = some o → ρ.heap b = some o) ∧ ∀ b e, σ.tip b = some e → ρ.tip b = some e
end AH

/-- What is fixed in a run: the program, how many blocks lay there, the world as it was, what the listed variables hold. -/
structure Ctx where
  P : Program
  B0 : Nat
  w0 : World
  G : Nat → Option AV

def ObjRel (P : Program) (w : World) (I : Imm) (b : Nat) : AObj → Prop
  | .cells vs => ∃ c e f, w.heap[b]? = some (.cells c e f) ∧ vs.length ≤ c.size ∧ (∀ i v, vs[i]? = some v → VRel w I v (c.getD i undef)) ∧
      (∀ i, i < c.size → ¬ (f.1 ≤ i ∧ i < f.2)) ∧ ∀ i, ¬ I b i
  | .map es clock => ∃ es' : Array MapEntry, w.heap[b]? = some (.map es' clock) ∧ es.length = es'.size ∧
      ∀ (i : Nat) (k v : AV) (n : Nat), es[i]? = some (k, v, n) → ∃ x : MapEntry, es'[i]? = some x ∧ VRel w I k x.key ∧ VRel w I v x.val ∧ x.born = n
  | .siter l pos => ∃ s : ByteArray, s.data.toList = l ∧ w.heap[b]? = some (.stringIter s pos)
  | .miter m since seen stepped => w.heap[b]? = some (.mapIter m since seen.toArray stepped)
  | .dfr => w.heap[b]? = some (.deferred (some []))
  | .loop env lr st => ∃ r : Loop, w.heap[b]? = some (.loop r) ∧ r.params = lr.ps.toArray ∧ r.tmps.size = lr.n ∧ (∃ h, lowC P h lr.n r.assign = some lr.as ∧ lowC P h lr.n r.body = some lr.bd) ∧
      plainC r.assign = true ∧ plainC r.body = true ∧ (∀ t ∈ lr.ps, t < lr.n) ∧ (∀ t, VRel w I ((env.lookup t).getD .undef) (r.tmps.getD t undef)) ∧ st.rel r

/-- A row whose cells from 'e' on are nobody's but its last slice's. -/
def TipRel (w : World) (I : Imm) (b e : Nat) : Prop :=
  ∃ c t f, w.heap[b]? = some (.cells c t f) ∧ e ≤ c.size ∧ (∀ i, e ≤ i → i < c.size → ¬ (f.1 ≤ i ∧ i < f.2)) ∧ ∀ i, e ≤ i → ¬ I b i

structure Rel (X : Ctx) (I : Imm) (σ : AH) (w : World) : Prop where
  obj : ∀ b o, σ.heap b = some o → X.B0 ≤ b ∧ σ.tip b = none ∧ ObjRel X.P w I b o
  tips : ∀ b e, σ.tip b = some e → X.B0 ≤ b ∧ TipRel w I b e
  glob : ∀ g v, X.G g = some v → I g 0 ∧ ∃ cv, w.cell? ⟨g, 0, none⟩ = some cv ∧ VRel w I v cv
  immc : ∀ b i, I b i → ∃ v, w.cell? ⟨b, i, none⟩ = some v
  base : X.B0 ≤ w.heap.size
  old : ∀ b, b < X.B0 → w.heap[b]? = X.w0.heap[b]?
  os : w.os = X.w0.os
  tape : w.tape = X.w0.tape
  output : w.output = X.w0.output

/-- What is deferred: a function's call, or (a block's name) that which the rounds of a range over a function deferred. -/
def DRel (w : World) (I : Imm) (f : AV) (xs : List AV) (d : Option Deferred) : Prop :=
  match f with
  | .ptr r _ => ∃ d', d = some d' ∧ d'.target = .collected r
  | f => ∃ (fv : FuncId) (xs' cap first : Array Value), d = some (Deferred.mk (.fn (.func fv) cap) (first ++ xs')) ∧ VRel w I f (Value.func (.func fv) first cap) ∧ VRels w I xs xs'

structure ARel (w : World) (I : Imm) (a : AAct) (A : Act) : Prop where
  tmps : ∀ t, VRel w I (a.get t) (A.tmps.getD t undef)
  size : A.tmps.size = a.n
  len : a.defers.length = A.defers.length
  defers : ∀ (i : Nat) (f : AV) (xs : List AV), a.defers[i]? = some (f, xs) → DRel w I f xs A.defers[i]?

def ev (X : Ctx) (a : AAct) : Opd → AV
  | .t n => a.get n
  | .c v => v
  | .g n => match X.G n with
    | some v => .rptr [v]
    | none => .undef

/- What the quiet instructions answer. -/
def binI (op : BinOp) (k : IntKind) (x y : Int) : Option AV :=
  match op with
  | .add => some (.int k (k.wrap (x + y)))
  | .sub => some (.int k (k.wrap (x - y)))
  | .mul => some (.int k (k.wrap (x * y)))
  | .quo => if y = 0 then none else some (.int k (k.wrap (x.tdiv y)))
  | .rem => if y = 0 then none else some (.int k (x.tmod y))
  | .and => some (.int k (k.wrap (BitVec.ofInt k.bits x &&& BitVec.ofInt k.bits y).toNat))
  | .or => some (.int k (k.wrap (BitVec.ofInt k.bits x ||| BitVec.ofInt k.bits y).toNat))
  | .xor => some (.int k (k.wrap (BitVec.ofInt k.bits x ^^^ BitVec.ofInt k.bits y).toNat))
  | .andNot => some (.int k (k.wrap (BitVec.ofInt k.bits x &&& ~~~ (BitVec.ofInt k.bits y)).toNat))
  | .shl | .shr => none
  | .eql => some (.bool (x == y))
  | .neq => some (.bool (x != y))
  | .lss => some (.bool (x < y))
  | .leq => some (.bool (x ≤ y))
  | .gtr => some (.bool (x > y))
  | .geq => some (.bool (x ≥ y))

def shiftI (op : BinOp) (k : IntKind) (x y : Int) : Option AV :=
  if y < 0 then none else
  match op with
  | .shl => some (.int k (k.wrap (x * 2 ^ min y.toNat k.bits)))
  | .shr => some (.int k (x.fdiv (2 ^ min y.toNat k.bits)))
  | _ => none

def binS (op : BinOp) (x y : List UInt8) : Option AV :=
  match op with
  | .add => if x.length + y.length ≤ 9223372036854775807 then some (.str (x ++ y)) else none
  | .eql => some (.bool (x == y))
  | .neq => some (.bool (!(x == y)))
  | .lss => some (.bool (Op.bytesLess x y))
  | .leq => some (.bool (Op.bytesLess x y || x == y))
  | .gtr => some (.bool (!(Op.bytesLess x y || x == y)))
  | .geq => some (.bool (!Op.bytesLess x y))
  | _ => none

def eqB (op : BinOp) (b : Bool) : Option AV :=
  match op with
  | .eql => some (.bool b)
  | .neq => some (.bool (!b))
  | _ => none

def binA (op : BinOp) : AV → AV → Option AV
  | .int k x, .int k' y => if op = .shl ∨ op = .shr then shiftI op k x y else if k = k' then binI op k x y else none
  | .str x, .str y => binS op x y
  | _, _ => none

def eqbA (op : BinOp) : AV → AV → Option AV
  | .bool x, .bool y => eqB op (x == y)
  | _, _ => none

def eqpA (op : BinOp) : AV → AV → Option AV
  | .nilptr, .nilptr => eqB op true
  | .nilptr, .ptr _ _ => eqB op false
  | .nilptr, .rptr _ => eqB op false
  | .ptr _ _, .nilptr => eqB op false
  | .rptr _, .nilptr => eqB op false
  | _, _ => none

def eqnA (op : BinOp) : AV → AV → Option AV
  | .nil, .nil => eqB op true
  | .nil, .list _ _ _ => eqB op false
  | .nil, .slice _ _ _ _ => eqB op false
  | .list _ _ _, .nil => eqB op false
  | .slice _ _ _ _, .nil => eqB op false
  | _, _ => none

/-- Kinds of what may be held against each other: 0 numbers, 1 texts, 2 bools. -/
def scalarEq (k : Nat) : AV → AV → Option Bool
  | .int i x, .int i' y => if k = 0 ∧ i = i' then some (x == y) else none
  | .str x, .str y => if k = 1 then some (x == y) else none
  | .bool x, .bool y => if k = 2 then some (x == y) else none
  | _, _ => none

def cellsEq : List Nat → List AV → List AV → Option Bool
  | [], [], [] => some true
  | k :: ks, x :: xs, y :: ys => match scalarEq k x y with
    | some true => cellsEq ks xs ys
    | some false => some false
    | none => none
  | _, _, _ => none

/-- Are two keys one? 'ag': they are structs. -/
def keyEq (ag : Bool) (ks : List Nat) (x y : AV) : Option Bool :=
  if ag then (match x, y with
    | .agg xs, .agg ys => cellsEq ks xs ys
    | _, _ => none) else (match ks with
    | [k] => scalarEq k x y
    | _ => none)

def fldA (off : Nat) : AV → Option AV
  | .ptr b o => some (.ptr b (o + off))
  | .rptr cs => some (.rptr (cs.drop off))
  | _ => none

def partA (n : Option Nat) (off : Nat) (xs : List AV) : Option AV :=
  match n with
  | none => xs[off]?
  | some n => if off + n ≤ xs.length then some (.agg ((xs.drop off).take n)) else none

def ixaA (z : Nat) : AV → AV → Option AV
  | .list z' _ xs, .int _ i => if z = z' ∧ 0 ≤ i ∧ i < xs.length then (xs[i.toNat]?).map fun x => .rptr x.cells else none
  | .slice z' b o len, .int _ i => if z = z' ∧ 0 ≤ i ∧ i < len then some (.ptr b (o + i.toNat * z)) else none
  | _, _ => none

def ixpA (n z : Nat) : AV → AV → Option AV
  | .ptr b o, .int _ i => if 0 ≤ i ∧ i < n then some (.ptr b (o + i.toNat * z)) else none
  | .rptr cs, .int _ i => if 0 ≤ i ∧ i < n then some (.rptr (cs.drop (i.toNat * z))) else none
  | _, _ => none

def ixsA : AV → AV → Option AV
  | .str l, .int _ i => if 0 ≤ i then (l[i.toNat]?).map fun b => .int .u8 b.toNat else none
  | _, _ => none

/-- The bounds of a slice expression: those that are not there are 0, and the length. -/
def boundsA (len : Nat) (lo hi : Option AV) : Option (Nat × Nat) :=
  match hi with
  | none => (match lo with
    | none => some (0, len)
    | some (.int _ l) => if 0 ≤ l ∧ l ≤ len then some (l.toNat, len) else none
    | some _ => none)
  | some (.int _ h) => if 0 ≤ h ∧ h ≤ len then (match lo with
    | none => some (0, h.toNat)
    | some (.int _ l) => if 0 ≤ l ∧ l ≤ h then some (l.toNat, h.toNat) else none
    | some _ => none) else none
  | some _ => none

def slcA (z : Nat) (x : AV) (lo hi : Option AV) : Option AV :=
  match x with
  | .nil => match boundsA 0 lo hi with
    | some _ => some .nil
    | none => none
  | .list z' tok xs => if z = z' then (match boundsA xs.length lo hi with
    | some (l, h) => some (.list z (if h = xs.length ∧ (l = 0 ∨ l < h) then tok else none) ((xs.take h).drop l))
    | none => none) else none
  | .slice z' b o len => if z = z' then (match boundsA len lo hi with
    | some (l, h) => some (if l = 0 ∨ l < h then .slice z b (o + l * z) (h - l) else .list z none [])
    | none => none) else none
  | _ => none

def slsA (x : AV) (lo hi : Option AV) : Option AV :=
  match x with
  | .str s => match boundsA s.length lo hi with
    | some (l, h) => some (.str ((s.take h).drop l))
    | none => none
  | _ => none

def lensA : AV → Option AV
  | .str s => some (.int .i64 s.length)
  | _ => none
def lenA : AV → Option AV
  | .nil => some (.int .i64 0)
  | .list _ _ xs => some (.int .i64 xs.length)
  | .slice _ _ _ n => some (.int .i64 n)
  | _ => none

def mx2 : AV → AV → Option AV
  | .int k x, .int k' y => if k = k' then some (.int k (if y > x then y else x)) else none
  | _, _ => none
def mn2 : AV → AV → Option AV
  | .int k x, .int k' y => if k = k' then some (.int k (if y < x then y else x)) else none
  | _, _ => none

def AV.ok : AV → Bool
  | .undef => false
  | _ => true

/-- Parts laid into the cells of a zero value. -/
def fillA : List AV → List (Nat × Nat × AV) → Option (List AV)
  | cs, [] => some cs
  | cs, (off, size, v) :: rest =>
    if v.cells.length = size ∧ off + size ≤ cs.length ∧ v.ok = true then fillA (cs.take off ++ v.cells ++ cs.drop (off + size)) rest else none

def loadA (σ : AH) (n : Option Nat) : AV → Option AV
  | .rptr cs => partA n 0 cs
  | .ptr b o => match σ.heap b with
    | some (.cells vs) => partA n o vs
    | _ => none
  | _ => none

def findA (ag : Bool) (ks : List Nat) (k : AV) : List (AV × AV × Nat) → Option (Option AV)
  | [] => some none
  | (k', v, _) :: es => match keyEq ag ks k k' with
    | some true => some (some v)
    | some false => findA ag ks k es
    | none => none

/-- May it be a key? -/
def keyOk (ag : Bool) (ks : List Nat) (k : AV) : Bool := (keyEq ag ks k k).isSome

def lookupA (σ : AH) (ag : Bool) (ks : List Nat) (zero : AV) (ok : Bool) (k : AV) : AV → Option AV
  | .map none => if !keyOk ag ks k then none else some (if ok then .tuple [zero, .bool false] else zero)
  | .map (some r) => match σ.heap r with
    | some (.map es _) => if !keyOk ag ks k then none else match findA ag ks k es with
      | some (some v) => some (if ok then .tuple [v, .bool true] else v)
      | some none => some (if ok then .tuple [zero, .bool false] else zero)
      | none => none
    | _ => none
  | _ => none

/-- Elements out of cells. -/
def groupA (ag : Bool) (z : Nat) : Nat → List AV → List AV
  | 0, _ => []
  | n + 1, cs => (if ag then .agg (cs.take z) else cs.headD .undef) :: groupA ag z n (cs.drop z)

/-- Is it one cell? -/
def AV.isCell : AV → Bool
  | .agg _ => false
  | _ => true
/-- May cells be parted into elements? -/
def grpOk (ag : Bool) (cs : List AV) : Bool := ag || cs.all AV.isCell

/-- The cells of the elements of a slice that is read. -/
def elemsA (σ : AH) (ag : Bool) (z : Nat) : AV → Option (List AV)
  | .nil => some []
  | .list z' _ xs => if z = z' then some xs else none
  | .slice z' b o n => if z = z' then (match σ.heap b with
    | some (.cells vs) => if o + n * z ≤ vs.length ∧ grpOk ag vs = true then some (groupA ag z n (vs.drop o)) else none
    | _ => none) else none
  | _ => none

/-- May it lie in one cell? -/
def AV.one : AV → Bool
  | .undef | .agg _ | .tuple _ => false
  | _ => true

def storeA (σ : AH) (n : Nat) (v : AV) : AV → Option AH
  | .ptr b o => match σ.heap b with
    | some (.cells vs) => if v.cells.length = n ∧ o + n ≤ vs.length ∧ v.cells.all AV.one = true then some (σ.set b (.cells (vs.take o ++ v.cells ++ vs.drop (o + n)))) else none
    | _ => none
  | _ => none


def nilckA : AV → Option AV
  | .ptr b o => some (.ptr b o)
  | .rptr cs => some (.rptr cs)
  | .func f xs ys => some (.func f xs ys)
  | .yield l => some (.yield l)
  | _ => none

def eqsA (neg : Bool) (ks : List Nat) : AV → AV → Option AV
  | .agg xs, .agg ys => (cellsEq ks xs ys).map fun b => .bool (if neg then !b else b)
  | _, _ => none

def prtA (n : Option Nat) (off : Nat) : AV → Option AV
  | .agg xs => partA n off xs
  | _ => none

def notA : AV → Option AV
  | .bool b => some (.bool (!b))
  | _ => none
def negA : AV → Option AV
  | .int k n => some (.int k (k.wrap (0 - n)))
  | _ => none
def convA (k : IntKind) : AV → Option AV
  | .int _ n => some (.int k (k.wrap n))
  | _ => none
def cvsA : AV → Option AV
  | .str s => some (.str s)
  | _ => none
def extA (i : Nat) : AV → Option AV
  | .tuple xs => xs[i]?
  | _ => none
def lenmA (σ : AH) : AV → Option AV
  | .map none => some (.int .i64 0)
  | .map (some r) => match σ.heap r with
    | some (.map es _) => some (.int .i64 es.length)
    | _ => none
  | _ => none
def foldA (f : AV → AV → Option AV) : List AV → Option AV
  | [] => none
  | x :: xs => xs.foldlM f x

/-- The key and the value at which a walk through a map stands. -/
def entA (σ : AH) : AV → Option AV
  | .ptr b 0 => match σ.heap b with
    | some (.miter (some r) _ seen stepped) => match seen.getLast?, σ.heap r with
      | some stamp, some (.map es clock) => if clock = stepped then (es.find? fun e => e.2.2 == stamp).map fun e => .tuple [e.1, e.2.1] else none
      | _, _ => none
    | _ => none
  | _ => none

/-- What a quiet instruction answers: one that turns nothing in memory. -/
def quietV (e : Opd → AV) (σ : AH) : I1 → Option AV
  | .mov x => some (e x)
  | .pick c x y => match e c with
    | .bool b => some (if b then e x else e y)
    | _ => none
  | .nilck x => nilckA (e x)
  | .bin op x y => binA op (e x) (e y)
  | .eqb op x y => eqbA op (e x) (e y)
  | .eqp op x y => eqpA op (e x) (e y)
  | .eqn op x y => eqnA op (e x) (e y)
  | .eqs neg ks x y => eqsA neg ks (e x) (e y)
  | .not x => notA (e x)
  | .neg x => negA (e x)
  | .conv k x => convA k (e x)
  | .cvs x => cvsA (e x)
  | .mkf f first captured => some (.func f (first.map e) (captured.map e))
  | .fld off x => fldA off (e x)
  | .prt n off x => prtA n off (e x)
  | .ixa z x i => ixaA z (e x) (e i)
  | .ixp n z x i => ixpA n z (e x) (e i)
  | .ixs x i => ixsA (e x) (e i)
  | .slc z x lo hi => slcA z (e x) (lo.map e) (hi.map e)
  | .sls x lo hi => slsA (e x) (lo.map e) (hi.map e)
  | .ext i x => extA i (e x)
  | .len x => lenA (e x)
  | .lenm x => lenmA σ (e x)
  | .lens x => lensA (e x)
  | .mx xs => foldA mx2 (xs.map e)
  | .mn xs => foldA mn2 (xs.map e)
  | .build zero parts => (fillA zero (parts.map fun p => (p.1, p.2.1, e p.2.2))).map .agg
  | .load n x => loadA σ n (e x)
  | .ent x => entA σ (e x)
  | .lookup ag ks zero ok m k => lookupA σ ag ks zero ok (e k) (e m)
  | _ => none

def quietI (X : Ctx) (a : AAct) (σ : AH) (i : I1) : Option AV := quietV (ev X a) σ i

def optK {α : Type} (o : Option α) (k : α → Prop) : Prop :=
  match o with
  | some v => k v
  | none => False

/-- A call of a function: what it needs not to know of the caller. -/
def CallsAny (P : Program) (f : FuncId) (args : Array Value) (w : World) (R : Ending → World → Prop) : Prop :=
  ((callFunc f args).run P w = .ok (.enter f args) w ∧ Calls P f args w R) ∨ (∃ v w', (callFunc f args).run P w = .ok (.value v) w' ∧ R (.returned v) w')

def ECalls (X : Ctx) (f : FuncId) (args : List AV) (σ : AH) (R : AV → AH → Prop) : Prop :=
  ∀ I w cargs, Rel X I σ w → VRels w I args cargs → CallsAny X.P f cargs w fun e w' =>
    ∃ v cv I' σ', e = .returned cv ∧ R v σ' ∧ VRel w' I' v cv ∧ Rel X I' σ' w' ∧ Ext I w I' w'

/-- A value handed over to the rounds of a range over a function. -/
def EYield (X : Ctx) (l : Nat) (args : List AV) (σ : AH) (R : AV → AH → Prop) : Prop :=
  ∀ I w cargs, Rel X I σ w → VRels w I args cargs → ∃ f tmps as bd, (Instr.yield l cargs).run X.P w = .ok (.round l f tmps as bd) w ∧
    RoundIn Fence.wide 0 X.P l f tmps as bd w fun e w' => ∃ v cv I' σ', e = .returned cv ∧ R v σ' ∧ VRel w' I' v cv ∧ Rel X I' σ' w' ∧ Ext I w I' w'

def Enters (P : Program) (f : FuncId) : Prop := ∀ args w, (callFunc f args).run P w = .ok (.enter f args) w

/-- A function whose text is there is called. -/
def ECallF (X : Ctx) (f : AV) (args : List AV) (σ : AH) (R : AV → AH → Prop) : Prop :=
  match f with
  | .func f first captured => Enters X.P f ∧ ECalls X f (first ++ args ++ captured) σ R
  | _ => False

def ECallV (X : Ctx) (f : AV) (args : List AV) (σ : AH) (R : AV → AH → Prop) : Prop :=
  match f with
  | .func f first captured => ECalls X f (first ++ args ++ captured) σ R
  | .yield l => EYield X l args σ R
  | _ => False

/-- New elements in a slice of one's own: by 'mode' a list whose tail is its own (1), or cells that may be written (2). -/
def newRowA (mode : Nat) (ag : Bool) (z n : Nat) (cs : List AV) (σ : AH) (K : AV → AH → Prop) : Prop :=
  match mode with
  | 0 => grpOk ag cs = true ∧ K (.list z none (groupA ag z n cs)) σ
  | 1 => grpOk ag cs = true ∧ ∀ b, σ.fresh b → K (.list z (some (b, n * z)) (groupA ag z n cs)) (σ.own b (n * z))
  | _ => ∀ b, σ.fresh b → K (.slice z b 0 n) (σ.set b (.cells cs))

def appendA (mode : Nat) (z bytes : Nat) (x : AV) (ys : List AV) (σ : AH) (K : AV → AH → Prop) : Prop :=
  match x with
  | .nil => if ys = [] then K .nil σ else ys.length * bytes ≤ 140737488355328 ∧
      (if mode = 2 then ∀ b, σ.fresh b → K (.slice z b 0 ys.length) (σ.set b (.cells (AV.flat ys)))
       else ∀ b, σ.fresh b → K (.list z (some (b, ys.length * z)) ys) (σ.own b (ys.length * z)))
  | .list z' tok xs => z = z' ∧ (match tok with
    | some (B, e) => σ.tip B = some e ∧ (xs.length + ys.length) * bytes ≤ 140737488355328 ∧
        ∀ b e', (b = B ∨ σ.fresh b) → K (.list z (some (b, e')) (xs ++ ys)) ((σ.disown B).own b e')
    | none => False)
  | .slice z' b₀ o n => z = z' ∧ o = 0 ∧ (match σ.heap b₀ with
    | some (.cells vs) => n * z ≤ vs.length ∧ (n + ys.length) * bytes ≤ 140737488355328 ∧
        ∀ b, (b = b₀ ∨ σ.fresh b) → K (.slice z b 0 (n + ys.length)) ((σ.drop b₀).set b (.cells (vs.take (n * z) ++ AV.flat ys)))
    | _ => False)
  | _ => False

def updA (ag : Bool) (ks : List Nat) (k v : AV) (clock : Nat) : List (AV × AV × Nat) → Option (List (AV × AV × Nat) × Nat)
  | [] => some ([(k, v, clock)], clock + 1)
  | (k', v', n) :: es => match keyEq ag ks k k' with
    | some true => some ((k, v, n) :: es, clock)
    | some false => match updA ag ks k v clock es with
      | some (es', c) => some ((k', v', n) :: es', c)
      | none => none
    | none => none

def mapupdA (σ : AH) (ag : Bool) (ks : List Nat) (k v : AV) : AV → Option AH
  | .map (some r) => match σ.heap r with
    | some (.map es clock) => if !keyOk ag ks k then none else match updA ag ks k v clock es with
      | some (es', c) => some (σ.set r (.map es' c))
      | none => none
    | _ => none
  | _ => none

def mksliceA (z bytes : Nat) (zero : List AV) (l c : AV) (σ : AH) (K : AV → AH → Prop) : Prop :=
  match l, c with
  | .int _ l, .int _ c => 0 ≤ l ∧ l ≤ c ∧ c ≤ 9223372036854775807 ∧ c * bytes ≤ 140737488355328 ∧
      ∀ b, σ.fresh b → K (.slice z b 0 l.toNat) (σ.set b (.cells (List.replicate c.toNat zero).flatten))
  | _, _ => False

def idxA (ag : Bool) (ks : List Nat) (k : AV) : List (AV × AV × Nat) → Nat → Option (Option Nat)
  | [], _ => some none
  | (k', _, _) :: es, i => match keyEq ag ks k k' with
    | some true => some (some i)
    | some false => idxA ag ks k es (i + 1)
    | none => none

/-- An entry is laid, if it isn't there: its value, and when it was born. -/
def mentA (σ : AH) (ag : Bool) (ks : List Nat) (zero k : AV) : AV → Option (AV × AH)
  | .map (some r) => match σ.heap r with
    | some (.map es clock) => if !keyOk ag ks k then none else match idxA ag ks k es 0 with
      | some none => some (.tuple [zero, .int .i64 clock], σ.set r (.map (es ++ [(k, zero, clock)]) (clock + 1)))
      | some (some j) => match es[j]? with
        | some (_, v, n) => some (.tuple [v, .int .i64 n], σ.set r (.map (es.set j (k, v, n)) clock))
        | none => none
      | none => none
    | _ => none
  | _ => none
/-- The value of the entry that was born then. -/
def mstoA (σ : AH) (st v : AV) : AV → Option AH
  | .map (some r) => match σ.heap r, st with
    | some (.map es clock), .int _ b => match es.findIdx? fun e => (e.2.2 : Int) == b with
      | some i => match es[i]? with
        | some (k, _, n) => some (σ.set r (.map (es.set i (k, v, n)) clock))
        | none => none
      | none => none
    | _, _ => none
  | _ => none

/-- A walk through a map begins. -/
def rngA (σ : AH) (K : AV → AH → Prop) : AV → Prop
  | .map none => ∀ b, σ.fresh b → K (.ptr b 0) (σ.set b (.miter none 0 [] 0))
  | .map (some r) => match σ.heap r with
    | some (.map _ clock) => ∀ b, σ.fresh b → K (.ptr b 0) (σ.set b (.miter (some r) clock [] clock))
    | _ => False
  | _ => False

/-- A walk through a map goes on, to whatever entry that was not met. -/
def nxtA (σ : AH) (K : AV → AH → Prop) : AV → Prop
  | .ptr b 0 => match σ.heap b with
    | some (.miter none _ _ _) => K (.tuple [.bool false]) σ
    | some (.miter (some r) since seen last) => match σ.heap r with
      | some (.map es clock) => es.all (fun e => decide (e.2.2 < since)) = true ∧ since ≤ last ∧
          (es.all (fun e => seen.contains e.2.2) = true → K (.tuple [.bool false]) σ) ∧
          ∀ e ∈ es, seen.contains e.2.2 = false → K (.tuple [.bool true, e.1, e.2.1]) (σ.set b (.miter (some r) since (seen ++ [e.2.2]) clock))
      | _ => False
    | _ => False
  | _ => False

def frzA (σ : AH) (ag : Bool) (z : Nat) : AV → Option (AV × AH)
  | .nil => some (.nil, σ)
  | .list z' t xs => some (.list z' t xs, σ)
  | .slice z' b o n => if z = z' ∧ o = 0 ∧ (ag = true ∨ z = 1) then (match σ.heap b with
    | some (.cells vs) => if vs.length = n * z ∧ grpOk ag vs = true then some (.list z none (groupA ag z n vs), σ.drop b) else none
    | _ => none) else none
  | _ => none

def isFunc : AV → Bool
  | .func _ _ _ => true
  | _ => false

/-- One instruction that defers nothing, by what its operands are: what must hold for what comes behind it to hold. -/
def stepV (X : Ctx) (e : Opd → AV) (σ : AH) (K : AV → AH → Prop) : I1 → Prop
  | .store n x v => optK (storeA σ n (e v) (e x)) fun σ' => K .undef σ'
  | .alloc zero => ∀ b, σ.fresh b → K (.ptr b 0) (σ.set b (.cells zero))
  | .box x => (e x).ok = true ∧ ∀ b, σ.fresh b → K (.ptr b 0) (σ.set b (.cells (e x).cells))
  | .blds mode ag z n zero parts => optK (fillA (List.replicate n zero).flatten (parts.map fun p => (p.1, p.2.1, e p.2.2))) fun cs => newRowA mode ag z n cs σ K
  | .mkmap => ∀ b, σ.fresh b → K (.map (some b)) (σ.set b (.map [] 0))
  | .mkslice z bytes zero l c => mksliceA z bytes zero (e l) (e c) σ K
  | .append mode ag z bytes x y => optK (elemsA σ ag z (e y)) fun ys => (AV.flat ys).all AV.one = true ∧ appendA mode z bytes (e x) ys σ K
  | .mapupd ag ks m k v => optK (mapupdA σ ag ks (e k) (e v) (e m)) fun σ' => K .undef σ'
  | .ment ag ks zero m k => optK (mentA σ ag ks zero (e k) (e m)) fun r => K r.1 r.2
  | .msto m st v => optK (mstoA σ (e st) (e v) (e m)) fun σ' => K .undef σ'
  | .rng x => rngA σ K (e x)
  | .nxt x => nxtA σ K (e x)
  | .call f xs => ECallV X (e f) (xs.map e) σ K
  | .frz ag z x => optK (frzA σ ag z (e x)) fun r => K r.1 r.2
  | .defer _ _ => False
  | .same _ => False
  | i => optK (quietV e σ i) fun v => K v σ

/-- One instruction: what must hold for what comes behind it to hold. -/
def stepI (X : Ctx) (dst : Option Nat) (a : AAct) (σ : AH) (K : AAct → AH → Prop) : I1 → Prop
  | .defer f xs => isFunc (ev X a f) = true ∧ K (AAct.put { a with defers := (ev X a f, xs.map (ev X a)) :: a.defers } dst .undef) σ
  | i => stepV X (ev X a) σ (fun v σ' => K (a.put dst v) σ') i

/-- Would an instruction that turns nothing answer what it answered? -/
def sameV (X : Ctx) (dst : Option Nat) (a : AAct) (σ : AH) (i : I1) : Prop := stepV X (ev X a) σ (fun v σ' => (∀ d, dst = some d → v = a.get d) ∧ σ' = σ) i

/-- An operation that is not to be done lays an empty tuple: whoever waits for its answer isn't to be done either. -/
def stepG (X : Ctx) (l : L1) (a : AAct) (σ : AH) (K : AAct → AH → Prop) : Prop :=
  match l.guard with
  | none => stepI X l.dst a σ K l.op
  | some (s, want) => match a.get s with
    | .bool b => if b = want then stepI X l.dst a σ K l.op else K (a.put l.dst (.tuple [])) σ
    | .tuple [] => K (a.put l.dst (.tuple [])) σ
    | _ => False

def stepS (X : Ctx) (l : L1) (i : I1) (a : AAct) (σ : AH) (K : AAct → AH → Prop) : Prop :=
  (match l.guard with
    | none => sameV X l.dst a σ i
    | some (s, want) => match a.get s with
      | .bool b => if b = want then sameV X l.dst a σ i else True
      | .tuple [] => True
      | _ => False) ∧ K a σ

def stepL (X : Ctx) (l : L1) (a : AAct) (σ : AH) (K : AAct → AH → Prop) : Prop :=
  match l.op with
  | .same i => stepS X l i a σ K
  | _ => stepG X l a σ K

def wpR (X : Ctx) (K : AAct → AH → Prop) : List L1 → AAct → AH → Prop
  | [], a, σ => K a σ
  | l :: ls, a, σ => stepL X l a σ (wpR X K ls)

def wpT (X : Ctx) (K : AAct → AH → Prop) : GT → AAct → AH → Prop
  | .done, a, σ => K a σ
  | .st l t, a, σ => wpR X (wpT X K t) l a σ
  | .br t u, a, σ => wpT X K t a σ ∧ wpT X K u a σ

abbrev EPost := Exit → AAct → AH → Prop

def EPost.then (K : AAct → AH → Prop) (Q : EPost) : EPost
  | .normal, a, σ => K a σ
  | e, a, σ => Q e a σ

def EPost.inBlock (id : Nat) (Q : EPost) : EPost
  | .exit i, a, σ => if i = id then Q .normal a σ else Q (.exit i) a σ
  | e, a, σ => Q e a σ

/-- What becomes of a range over a function when the function that was ranged over has ended. -/
def rpostA (Q : EPost) (a : AAct) (l : Nat) (σ : AH) : Prop :=
  match σ.heap l with
  | some (.loop _ _ .ready) => Q .normal a (σ.drop l)
  | some (.loop _ _ (.done none)) => Q .ret a (σ.drop l)
  | some (.loop _ _ (.done (some id))) => Q (.exit id) a (σ.drop l)
  | _ => False

def EPost.noGoto (Q : EPost) : EPost
  | .goto _, _, _ => False
  | e, a, σ => Q e a σ

def wpC (X : Ctx) : LC → EPost → AAct → AH → Prop
  | .skip, Q, a, σ => Q .normal a σ
  | .reg l keep, Q, a, σ => wpR X (fun a σ => Q .normal (a.keep keep) σ) l a σ
  | .drw t keep, Q, a, σ => wpT X (fun a σ => Q .normal (a.keep keep) σ) t a σ
  | .seq x y, Q, a, σ => wpC X x (EPost.then (wpC X y Q) Q) a σ
  | .cond c x y, Q, a, σ => match ev X a c with
    | .bool b => if b then wpC X x Q a σ else wpC X y Q a σ
    | _ => False
  | .block id x, Q, a, σ => wpC X x (EPost.inBlock id Q) a σ
  | .loop x, Q, a, σ => ∃ J : Nat → AAct → AH → Prop, (∃ n σ₁, σ₁.le σ ∧ J n a σ₁) ∧
      ∀ n a σ, J n a σ → wpC X x (EPost.then (fun a σ => ∃ m σ₁, m < n ∧ σ₁.le σ ∧ J m a σ₁) Q) a σ
  | .scope x, Q, a, σ => wpC X x (EPost.noGoto Q) a σ
  | .rfun g ps x y, Q, a, σ => ∀ r l, σ.fresh r → σ.fresh l → r ≠ l →
      ECallF X (ev X a g) [.yield l] ((σ.set r .dfr).set l (.loop a.env ⟨a.n, ps, x, y⟩ .ready)) (fun _ σ' => rpostA Q { a with defers := (.ptr r 0, []) :: a.defers } l σ')
  | .exit id, Q, a, σ => Q (.exit id) a σ
  | .ret, Q, a, σ => Q .ret a σ


/-- A round's end. -/
def rpost (l : Nat) (R : AV → AH → Prop) : EPost := fun e _ σ =>
  ∃ env lr st, σ.heap l = some (.loop env lr st) ∧ match e with
  | .normal => R (.bool true) (σ.set l (.loop env lr .ready))
  | .ret => R (.bool false) (σ.set l (.loop env lr (.done none)))
  | .exit id => R (.bool false) (σ.set l (.loop env lr (.done (some id))))
  | _ => False

def putL : List Nat → List AV → AAct → AAct
  | t :: ts, v :: vs, a => putL ts vs (a.put (some t) v)
  | _, _, a => a

/-- A round, from the values that are handed over on. -/
def roundA (X : Ctx) (l : Nat) (env : List (Nat × AV)) (lr : LRec) (args : List AV) (σ : AH) (R : AV → AH → Prop) : Prop :=
  σ.heap l = some (.loop env lr .ready) ∧ args.length = lr.ps.length ∧
    wpC X lr.as (fun e a σ => match e with
      | .normal => ∃ env lr', σ.heap l = some (.loop env lr' .ready) ∧ wpC X lr.bd (rpost l R) a (σ.set l (.loop env lr' .busy))
      | _ => False) (putL lr.ps args ⟨env, [], lr.n⟩) σ

end Go.Scr
