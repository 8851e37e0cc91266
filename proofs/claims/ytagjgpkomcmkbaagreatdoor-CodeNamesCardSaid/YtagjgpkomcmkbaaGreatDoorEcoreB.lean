/- The instructions that a function's operations are lowered to: part 2 of a program logic over the model. No condition. -/
import Derived.Test.YtagjgpkomcmkbaaGreatDoorEcoreA
namespace Go.Scr
open Go

/-- Operands. -/
inductive Opd where
  | t (n : Nat)
  | c (v : AV)
  | g (n : Nat)
  deriving Inhabited

inductive I1 where
  | mov (x : Opd)
  | pick (c x y : Opd)
  | nilck (x : Opd)
  | bin (op : BinOp) (x y : Opd)
  | eqs (neg : Bool) (ks : List Nat) (x y : Opd)
  | not (x : Opd)
  | neg (x : Opd)
  | conv (k : IntKind) (x : Opd)
  | mkf (f : FuncId) (first captured : List Opd)
  | fld (off : Nat) (x : Opd)
  | prt (n : Option Nat) (off : Nat) (x : Opd)
  | ixa (z : Nat) (x i : Opd)
  | ixp (n z : Nat) (x i : Opd)
  | ixs (x i : Opd)
  | slc (z : Nat) (x : Opd) (lo hi : Option Opd)
  | sls (x : Opd) (lo hi : Option Opd)
  | ext (i : Nat) (x : Opd)
  | len (x : Opd)
  | lenm (x : Opd)
  | lens (x : Opd)
  | cvs (x : Opd)
  | eqb (op : BinOp) (x y : Opd)
  | eqp (op : BinOp) (x y : Opd)
  | eqn (op : BinOp) (x y : Opd)
  | mx (xs : List Opd)
  | mn (xs : List Opd)
  | build (zero : List AV) (parts : List (Nat × Nat × Opd))
  | load (n : Option Nat) (x : Opd)
  | ent (x : Opd)
  | lookup (ag : Bool) (ks : List Nat) (zero : AV) (ok : Bool) (m k : Opd)
  -- what turns memory
  | store (n : Nat) (x v : Opd)
  | alloc (zero : List AV)
  | box (x : Opd)
  | blds (mode : Nat) (ag : Bool) (z n : Nat) (zero : List AV) (parts : List (Nat × Nat × Opd))
  | mkmap
  | mkslice (z bytes : Nat) (zero : List AV) (l c : Opd)
  | append (mode : Nat) (ag : Bool) (z bytes : Nat) (x y : Opd)
  | mapupd (ag : Bool) (ks : List Nat) (m k v : Opd)
  | ment (ag : Bool) (ks : List Nat) (zero : AV) (m k : Opd)
  | msto (m st v : Opd)
  | rng (x : Opd)
  | nxt (x : Opd)
  | call (f : Opd) (xs : List Opd)
  | defer (f : Opd) (xs : List Opd)
  -- what stands for no operation
  | frz (ag : Bool) (z : Nat) (x : Opd)
  | same (i : I1)
  deriving Inhabited

structure L1 where
  dst : Option Nat
  op : I1
  guard : Option (Nat × Bool)
  deriving Inhabited

/-- The orders in which a region's operations may come up, but for those that turn nothing. -/
inductive GT where
  | done
  | st (l : List L1) (t : GT)
  | br (t u : GT)
  deriving Inhabited

inductive LC where
  | skip
  | reg (l : List L1) (keep : List Nat)
  | drw (t : GT) (keep : List Nat)
  | seq (a b : LC)
  | cond (c : Opd) (a b : LC)
  | block (id : Nat) (a : LC)
  | loop (a : LC)
  | scope (a : LC)
  | rfun (g : Opd) (ps : List Nat) (as bd : LC)
  | exit (id : Nat)
  | ret
  deriving Inhabited

end Go.Scr
