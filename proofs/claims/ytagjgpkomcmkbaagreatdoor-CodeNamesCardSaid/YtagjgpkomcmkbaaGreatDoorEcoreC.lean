/- How the model's operations are lowered to instructions: part 3 of a program logic over the model. No condition. -/
import Derived.Test.YtagjgpkomcmkbaaGreatDoorEcoreB
namespace Go.Scr
open Go

def absS : Value → Option AV
  | .bool b => some (.bool b)
  | .int k n => some (.int k n)
  | .string s => some (.str s.data.toList)
  | .pointer none => some .nilptr
  | .slice none 0 0 => some .nil
  | .map none => some (.map none)
  | .nilFunc => some .nilFunc
  | .nilIface => some .nilIface
  | _ => none
def absL : List Value → Option (List AV)
  | [] => some []
  | v :: vs => match absS v, absL vs with
    | some x, some xs => some (x :: xs)
    | _, _ => none
def absV : Value → Option AV
  | .agg cs => (absL cs.toList).map .agg
  | v => absS v

def lowOpd : Operand → Option Opd
  | .tmp t => some (.t t)
  | .const v => (absV v).map .c
  | .global g => some (.g g)
  | .func f => some (.c (.func f [] []))
def lowOpds : List Operand → Option (List Opd)
  | [] => some []
  | x :: xs => match lowOpd x, lowOpds xs with
    | some y, some ys => some (y :: ys)
    | _, _ => none
def lowOpt : Option Operand → Option (Option Opd)
  | none => some none
  | some x => (lowOpd x).map some

def sizeP (P : Program) (t : TypeId) : Option Nat := (P.info? t).map (·.size)
def bytesP (P : Program) (t : TypeId) : Option Nat := (P.info? t).map (·.bytes)
/-- How many cells a value that is laid side by side has; none: it is one cell. -/
def shapeP (P : Program) (t : TypeId) : Option (Option Nat) :=
  match P.underlying t with
  | some (.struct _) | some (.array _ _) => (sizeP P t).map some
  | some _ => some none
  | none => none
def aggP (P : Program) (t : TypeId) : Option Bool := (shapeP P t).map (·.isSome)
def zeroP (P : Program) (t : TypeId) : Option AV := match P.info? t with
  | some i => match i.zero with
    | some z => absV z
    | none => none
  | none => none

/-- A struct's parts: where each lies, how many cells it has. -/
def placesP (P : Program) : List Field → Option (List (Nat × Nat))
  | [] => some []
  | f :: fs => match sizeP P f.type, placesP P fs with
    | some n, some l => some ((f.offset, n) :: l)
    | _, _ => none
def lowParts (place : Nat → Option (Nat × Nat)) : List (Nat × Operand) → Option (List (Nat × Nat × Opd))
  | [] => some []
  | (i, x) :: l => match place i, lowOpd x, lowParts place l with
    | some (off, n), some y, some r => some ((off, n, y) :: r)
    | _, _, _ => none

/-- What may be held against each other: 0 numbers, 1 texts, 2 bools. -/
def kindP (P : Program) (t : TypeId) : Option Nat :=
  match P.underlying t with
  | some (.int _) => some 0
  | some .string => some 1
  | some .bool => some 2
  | _ => none
/-- A struct of one-cell fields that are numbers, texts, bools, one behind the other: such are held against each other cell by cell. -/
def flatP (P : Program) (o : Nat) : List Field → Option (List Nat)
  | [] => some []
  | f :: fs => if f.name ≠ "_" ∧ f.offset = o then (match kindP P f.type, flatP P (o + 1) fs with
    | some k, some ks => some (k :: ks)
    | _, _ => none) else none
def eqsP (P : Program) (t : TypeId) : Option (List Nat) :=
  match P.underlying t with
  | some (.struct fs) => if P.stoodInHeld t = false ∧ P.eqGuardType P.depth t = false then flatP P 0 fs.toList else none
  | _ => none

def lowBin (P : Program) (op : BinOp) (t : TypeId) (x y : Opd) : Option I1 :=
  match P.underlying t with
  | some (.int _) | some .string => some (.bin op x y)
  | some .bool => some (.eqb op x y)
  | some (.pointer _) => some (.eqp op x y)
  | some (.slice _) => some (.eqn op x y)
  | some (.struct _) => match eqsP P t with
    | some ks => (match op with
      | .eql => some (.eqs false ks x y)
      | .neq => some (.eqs true ks x y)
      | _ => none)
    | none => none
  | _ => none

def keyP (P : Program) (t : TypeId) : Option (Bool × List Nat) :=
  match P.underlying t with
  | some (.struct _) => (eqsP P t).map fun ks => (true, ks)
  | _ => (kindP P t).map fun k => (false, [k])

def lowBuiltin (P : Program) (mode : Nat) (b : Builtin) (ts : List TypeId) (xs : List Opd) : Option I1 :=
  match b, ts, xs with
  | .len, [t], [x] => match P.underlying t with
    | some .string => some (.lens x)
    | some (.slice _) => some (.len x)
    | some (.map _ _) => some (.lenm x)
    | _ => none
  | .append, [t, u], [x, y] => match P.underlying t, P.underlying u with
    | some (.slice e), some (.slice e') => if e = e' then (match aggP P e, sizeP P e, bytesP P e, zeroP P e with
      | some ag, some z, some by', some zero => if 0 < z ∧ 0 < by' ∧ zero.cells.length = z ∧ (ag = true ∨ z = 1) then some (.append mode ag z by' x y) else none
      | _, _, _, _ => none) else none
    | _, _ => none
  | .max, _, xs => some (.mx xs)
  | .min, _, xs => some (.mn xs)
  | _, _, _ => none

def lowCall (P : Program) (mode : Nat) (c : Call) : Option I1 :=
  match lowOpds c.args.toList with
  | some xs => match c.callee with
    | .value f => (lowOpd f).map fun f => .call f xs
    | .builtin b => lowBuiltin P mode b c.argTypes.toList xs
    | .invoke _ _ => none
  | none => none

def lowSlice (P : Program) (t : TypeId) (x : Opd) (lo hi : Option Opd) : Option I1 :=
  match P.underlying t with
  | some .string => some (.sls x lo hi)
  | some (.slice e) => (sizeP P e).map fun z => .slc z x lo hi
  | _ => none

def lowIndexAddr (P : Program) (t : TypeId) (x i : Opd) : Option I1 :=
  match P.underlying t with
  | some (.slice e) => (sizeP P e).map fun z => .ixa z x i
  | some (.array n e) => (sizeP P e).map fun z => .ixp n z x i
  | _ => none

def lowFieldAddr (P : Program) (s : TypeId) (f : Nat) (x : Opd) : Option I1 :=
  match P.underlying s with
  | some (.struct fs) => match fs[f]? with
    | some fd => match sizeP P fd.type with
      | some (_ + 1) => some (.fld fd.offset x)
      | _ => none
    | none => none
  | _ => none

def lowField (P : Program) (s : TypeId) (f : Nat) (x : Opd) : Option I1 :=
  match P.underlying s with
  | some (.struct fs) => match fs[f]? with
    | some fd => (shapeP P fd.type).map fun n => .prt n fd.offset x
    | none => none
  | _ => none

def lowBuild (P : Program) (t : TypeId) (parts : List (Nat × Operand)) : Option I1 :=
  match zeroP P t, P.underlying t with
  | some zero, some (.struct fs) => match placesP P fs.toList with
    | some pl => (lowParts (fun i => pl[i]?) parts).map fun ps => .build zero.cells ps
    | none => none
  | some zero, some (.array _ e) => match sizeP P e with
    | some z => (lowParts (fun i => some (i * z, z)) parts).map fun ps => .build zero.cells ps
    | none => none
  | _, _ => none

def lowBuildSlice (P : Program) (mode : Nat) (t : TypeId) (n : Nat) (parts : List (Nat × Operand)) : Option I1 :=
  match P.underlying t with
  | some (.slice e) => match aggP P e, sizeP P e, zeroP P e with
    | some ag, some z, some zero =>
      if n * z ≤ 16777216 ∧ 0 < z ∧ zero.cells.length = z ∧ (ag = true ∨ z = 1) then (lowParts (fun i => some (i * z, z)) parts).map fun ps => .blds mode ag z n zero.cells ps else none
    | _, _, _ => none
  | _ => none

def lowOp (P : Program) (mode : Nat) (o : Oper) : Option I1 :=
  match o.op with
  | .move x | .assign x => (lowOpd x).map .mov
  | .pick c x y => match lowOpd c, lowOpd x, lowOpd y with
    | some c, some x, some y => some (.pick c x y)
    | _, _, _ => none
  | .nilCheck x => (lowOpd x).map .nilck
  | .binOp op t x y _ => match lowOpd x, lowOpd y with
    | some x, some y => lowBin P op t x y
    | _, _ => none
  | .unOp .not _ x => (lowOpd x).map .not
  | .unOp .neg _ x => (lowOpd x).map .neg
  | .convert s t x => match P.underlying s, P.underlying t with
    | some (.int _), some (.int k) => (lowOpd x).map (.conv k)
    | some .string, some .string => (lowOpd x).map .cvs
    | _, _ => none
  | .makeFunc (.func f) first captured => match lowOpds first.toList, lowOpds captured.toList with
    | some xs, some ys => some (.mkf f xs ys)
    | _, _ => none
  | .fieldAddr s x f => match lowOpd x with
    | some x => lowFieldAddr P s f x
    | none => none
  | .field s x f => match lowOpd x with
    | some x => lowField P s f x
    | none => none
  | .indexAddr t x i => match lowOpd x, lowOpd i with
    | some x, some i => lowIndexAddr P t x i
    | _, _ => none
  | .index t x i => match P.underlying t, lowOpd x, lowOpd i with
    | some .string, some x, some i => some (.ixs x i)
    | _, _, _ => none
  | .slice t x lo hi none => match lowOpd x, lowOpt lo, lowOpt hi with
    | some x, some lo, some hi => lowSlice P t x lo hi
    | _, _, _ => none
  | .extract x i => (lowOpd x).map (.ext i)
  | .build t parts => lowBuild P t parts.toList
  | .load t x => match shapeP P t, lowOpd x with
    | some n, some x => some (.load n x)
    | _, _ => none
  | .lookup t m k ok => match P.underlying t with
    | some (.map kt et) => match zeroP P et, lowOpd m, lowOpd k with
      | some zero, some m, some k => (keyP P kt).map fun r => .lookup r.1 r.2 zero ok m k
      | _, _, _ => none
    | _ => none
  | .store t x v => match sizeP P t, lowOpd x, lowOpd v with
    | some n, some x, some v => some (.store n x v)
    | _, _, _ => none
  | .alloc t => (zeroP P t).map fun z => .alloc z.cells
  | .box _ x => (lowOpd x).map .box
  | .buildSlice t n parts => lowBuildSlice P mode t n parts.toList
  | .makeMap _ none => some .mkmap
  | .makeSlice t l c => match P.underlying t with
    | some (.slice e) => match sizeP P e, bytesP P e, zeroP P e, lowOpd l, lowOpd c with
      | some z, some by', some zero, some l, some c => if 0 < z ∧ zero.cells.length = z then some (.mkslice z by' zero.cells l c) else none
      | _, _, _, _, _ => none
    | _ => none
  | .mapUpdate t m k v | .insert t m k v => match P.underlying t with
    | some (.map kt _) => match lowOpd m, lowOpd k, lowOpd v with
      | some m, some k, some v => (keyP P kt).map fun r => .mapupd r.1 r.2 m k v
      | _, _, _ => none
    | _ => none
  | .call c => lowCall P mode c
  | .defer c => match c.callee, lowOpds c.args.toList with
    | .value f, some xs => (lowOpd f).map fun f => .defer f xs
    | _, _ => none
  | _ => none

/-- Operations of more kinds. -/
def lowX (P : Program) (o : Oper) : Option I1 :=
  match o.op with
  | .range t x => match P.underlying t with
    | some (.map _ _) => (lowOpd x).map .rng
    | _ => none
  | .next x false => (lowOpd x).map .nxt
  | .entry x => (lowOpd x).map .ent
  | .mapEntry t m k => match P.underlying t with
    | some (.map kt et) => match zeroP P et, lowOpd m, lowOpd k with
      | some zero, some m, some k => (keyP P kt).map fun r => .ment r.1 r.2 zero m k
      | _, _, _ => none
    | _ => none
  | .entryStore _ m st v => match lowOpd m, lowOpd st, lowOpd v with
    | some m, some st, some v => some (.msto m st v)
    | _, _, _ => none
  | _ => none
def lowAny (P : Program) (mode : Nat) (o : Oper) : Option I1 :=
  match lowX P o with
  | some i => some i
  | none => lowOp P mode o

def I1.quiet : I1 → Bool
  | .store _ _ _ | .alloc _ | .box _ | .blds _ _ _ _ _ _ | .mkmap | .mkslice _ _ _ _ _ | .append _ _ _ _ _ _ | .mapupd _ _ _ _ _ | .ment _ _ _ _ _ | .msto _ _ _ | .rng _ | .nxt _ | .call _ _ | .defer _ _ | .frz _ _ _ | .same _ => false
  | _ => true

/-- What is told of a function beside its text: of slots that slices are made in, how; of slots, that what is laid in them is frozen; of regions, what is live behind them. -/
structure Hints where
  mode : List (Nat × Nat)
  frz : List (Nat × Bool × Nat)
  keep : List (Nat × List Nat)

def dstOk (n : Nat) : Option Nat → Bool
  | some d => decide (d < n)
  | none => true
def modeOf (h : Hints) : Option Nat → Nat
  | some d => (h.mode.lookup d).getD 0
  | none => 0
def lowGuard (ops : Array Oper) : Option (Nat × Bool) → Option (Option (Nat × Bool))
  | none => some none
  | some (j, want) => match ops[j]? with
    | some oj => match oj.dst with
      | some s => some (some (s, want))
      | none => none
    | none => none
def lowOper (P : Program) (h : Hints) (n : Nat) (ops : Array Oper) (o : Oper) : Option L1 :=
  match lowAny P (modeOf h o.dst) o, lowGuard ops o.guard with
  | some i, some g => if dstOk n o.dst = true then some ⟨o.dst, i, g⟩ else none
  | _, _ => none

def lowOpers (P : Program) (h : Hints) (n : Nat) (ops : Array Oper) : List Oper → Option (List L1)
  | [] => some []
  | o :: l => match lowOper P h n ops o, lowOpers P h n ops l with
    | some i, some is => some (i :: is)
    | _, _ => none

/-- The frozen ones laid behind those that make them. -/
def withFrz (h : Hints) : List L1 → List L1
  | [] => []
  | l :: ls => match l.dst with
    | some d => match h.frz.lookup d with
      | some (ag, z) => l :: ⟨some d, .frz ag z (.t d), none⟩ :: withFrz h ls
      | none => l :: withFrz h ls
    | none => l :: withFrz h ls

/- Regions that draw their order. -/
def Opd.slots : Opd → List Nat
  | .t n => [n]
  | _ => []
def I1.opds : I1 → List Opd
  | .mov x | .nilck x | .not x | .neg x | .conv _ x | .fld _ x | .prt _ _ x | .ext _ x | .len x | .lenm x | .lens x | .cvs x | .load _ x | .ent x | .rng x | .nxt x | .box x | .frz _ _ x => [x]
  | .pick c x y | .msto c x y => [c, x, y]
  | .bin _ x y | .eqb _ x y | .eqp _ x y | .eqn _ x y | .eqs _ _ x y | .ixa _ x y | .ixp _ _ x y | .ixs x y | .store _ x y | .mkslice _ _ _ x y | .append _ _ _ _ x y | .lookup _ _ _ _ x y | .ment _ _ _ x y => [x, y]
  | .mkf _ xs ys => xs ++ ys
  | .slc _ x lo hi | .sls x lo hi => x :: (lo.toList ++ hi.toList)
  | .mx xs | .mn xs => xs
  | .build _ ps | .blds _ _ _ _ _ ps => ps.map fun p => p.2.2
  | .mapupd _ _ m k v => [m, k, v]
  | .call f xs | .defer f xs => f :: xs
  | .alloc _ | .mkmap => []
  | .same i => i.opds
def L1.uses (l : L1) : List Nat := l.op.opds.flatMap Opd.slots ++ (match l.guard with
  | some (s, _) => [s]
  | none => [])
/-- Does it turn nothing that is told of memory? -/
def I1.calm : I1 → Bool
  | .blds 0 _ _ _ _ _ => true
  | i => i.quiet
/-- Does what it answers hang on memory? -/
def I1.reads : I1 → Bool
  | .load _ _ | .ent _ | .lookup _ _ _ _ _ _ | .lenm _ => true
  | _ => false
def frzFree (h : Hints) (l : L1) : Bool := match l.dst with
  | some d => (h.frz.lookup d).isNone
  | none => true
def calmL (h : Hints) (l : L1) : Bool := l.op.calm && frzFree h l

def waits (ops : Array Oper) (j i : Nat) : Bool := match ops[j]? with
  | some o => o.after.any fun e => Region.binds .any e && e.on == i
  | none => false

/-- Those that must come ahead of these, in so many steps. -/
def anc (ops : Array Oper) : Nat → List Nat → List Nat
  | 0, _ => []
  | f + 1, l => match (List.range ops.size).filter fun k => l.any fun j => waits ops j k with
    | [] => []
    | m => m ++ anc ops f m

/-- Behind number j: those that were taken ahead, but need not come ahead of it, and hang on memory, answer what they answered. -/
def sames (ls : List L1) (before : List Nat) (held : List Nat) : List L1 :=
  held.filterMap fun i => if before.contains i then none else match ls[i]? with
    | some l => if l.op.reads then some ⟨l.dst, .same l.op, l.guard⟩ else none
    | none => none

def grdBr (f : Nat → GT) : List Nat → GT
  | [] => .done
  | [j] => f j
  | j :: js => .br (f j) (grdBr f js)

def grd (h : Hints) (ops : Array Oper) (ls : List L1) : Nat → Array Bool → List Nat → GT
  | 0, _, _ => .done
  | f + 1, listed, held =>
    match (Region.ready .any ops listed).find? (fun i => match ls[i]? with | some l => calmL h l | none => false) with
    | some j => .st ((ls[j]?).toList) (grd h ops ls f (listed.setIfInBounds j true) (j :: held))
    | none => grdBr (fun j => .st (withFrz h (ls[j]?).toList ++ sames ls (anc ops ops.size [j]) held) (grd h ops ls f (listed.setIfInBounds j true) held)) (Region.ready .any ops listed)

/-- Does each place have one that lays it, and does who looks at it wait for that one? -/
def grdOk (ops : Array Oper) (ls : List L1) : Bool :=
  (List.range ls.length).all fun i => (List.range ls.length).all fun k => match ls[i]?, ls[k]? with
    | some l, some m => (match m.dst with
      | none => true
      | some d => (i == k || l.dst != some d) && (!l.uses.contains d || (i != k && waits ops i k)))
    | _, _ => true

/-- Does a piece of code defer nothing, and go through no function's values? So may a round's text be. -/
def plainC : Code → Bool
  | .region _ ops _ => ops.toList.all fun o => match o.op with
    | .defer _ => false
    | _ => true
  | .seq a b | .cond _ a b => plainC a && plainC b
  | .block _ a | .loop a | .scope a => plainC a
  | .rangeFunc _ _ _ _ => false
  | _ => true

def lowC (P : Program) (h : Hints) (n : Nat) : Code → Option LC
  | .skip => some .skip
  | .region id ops draw => match lowOpers P h n ops ops.toList with
    | some l => if draw then (if grdOk ops l then some (.drw (grd h ops l ops.size (Array.replicate ops.size false) []) ((h.keep.lookup id).getD [])) else none)
        else some (.reg (withFrz h l) ((h.keep.lookup id).getD []))
    | none => none
  | .seq a b => match lowC P h n a, lowC P h n b with
    | some x, some y => some (.seq x y)
    | _, _ => none
  | .cond c a b => match lowOpd c, lowC P h n a, lowC P h n b with
    | some c, some x, some y => some (.cond c x y)
    | _, _, _ => none
  | .block id a => (lowC P h n a).map (.block id)
  | .loop a => (lowC P h n a).map .loop
  | .rangeFunc g ps a b => match lowOpd g, lowC P h n a, lowC P h n b with
    | some g, some x, some y => if plainC a && plainC b && ps.toList.all (fun t => decide (t < n)) then some (.rfun g ps.toList x y) else none
    | _, _, _ => none
  | .scope a => (lowC P h n a).map .scope
  | .label _ => some .skip
  | .exit id => some (.exit id)
  | .ret => some .ret
  | _ => none

end Go.Scr
