/- The abstract values and the relation between them and the model's values: part 1 of a program logic over the model. No condition. -/
import Derived.Tactics
import Derived.StillTail
import Derived.Defers
import Derived.Scope
import Derived.DefersIn
import Derived.OrdersIn
import Derived.TacticsIn
import Derived.RangeFuncRecord
import Derived.RangeFuncLeaves
import Derived.Laws.AppendOwn
import Derived.Laws.Rows
import Derived.KernelRfl
namespace Go.Scr
open Go

/-- Abstract values: a slice that is never written is the list of its elements; 'tok': the block, and the place right behind its last cell, if what lies behind is its own. -/
inductive AV where
  | undef
  | bool (b : Bool)
  | int (k : IntKind) (n : Int)
  | str (s : List UInt8)
  | ptr (b o : Nat)
  | nilptr
  | rptr (cs : List AV)
  | nil
  | list (z : Nat) (tok : Option (Nat × Nat)) (xs : List AV)
  | slice (z b o len : Nat)
  | map (r : Option Nat)
  | func (f : FuncId) (first captured : List AV)
  | nilFunc
  | yield (l : Nat)
  | iface (t : TypeId) (v : AV)
  | nilIface
  | agg (xs : List AV)
  | tuple (xs : List AV)
  deriving Inhabited

namespace AV
def cells : AV → List AV
  | .agg xs => xs
  | v => [v]
def flat (xs : List AV) : List AV := xs.flatMap cells
end AV

/-- Cells that are never written any more: which. -/
abbrev Imm := Nat → Nat → Prop

inductive VRel (w : World) (I : Imm) : AV → Value → Prop
  | undef (v : Value) : VRel w I .undef v
  | bool (b : Bool) : VRel w I (.bool b) (.bool b)
  | int (k : IntKind) (n : Int) : VRel w I (.int k n) (.int k n)
  | str (l : List UInt8) (s : ByteArray) (h : s.data.toList = l) : VRel w I (.str l) (.string s)
  | ptr (b o : Nat) : VRel w I (.ptr b o) (.pointer (some ⟨b, o, none⟩))
  | nilptr : VRel w I .nilptr (.pointer none)
  | rptr (cs : List AV) (B off : Nat) (cv : Nat → Value)
      (hv : ∀ i c, cs[i]? = some c → VRel w I c (cv i))
      (hc : ∀ i, i < cs.length → I B (off + i) ∧ w.cell? ⟨B, off + i, none⟩ = some (cv i)) :
      VRel w I (.rptr cs) (.pointer (some ⟨B, off, none⟩))
  | nil : VRel w I .nil (.slice none 0 0)
  | list (z : Nat) (tok : Option (Nat × Nat)) (xs : List AV) (B off cap : Nat) (cv : Nat → Value)
      (hz : ∀ x ∈ xs, x.cells.length = z)
      (hv : ∀ i c, (AV.flat xs)[i]? = some c → VRel w I c (cv i))
      (hc : ∀ i, i < xs.length * z → I B (off + i) ∧ w.cell? ⟨B, off + i, none⟩ = some (cv i))
      (hcap : xs.length ≤ cap)
      (ht : ∀ t, tok = some t → t = (B, off + xs.length * z) ∧ ∃ e n, w.shape? B = some (e, n) ∧ off + cap * z ≤ n) :
      VRel w I (.list z tok xs) (.slice (some ⟨B, off, none⟩) xs.length cap)
  | slice (z b off len cap : Nat) (hcap : len ≤ cap) (hs : ∃ e n, w.shape? b = some (e, n) ∧ off + cap * z ≤ n) :
      VRel w I (.slice z b off len) (.slice (some ⟨b, off, none⟩) len cap)
  | map (r : Option Nat) : VRel w I (.map r) (.map r)
  | func (f : FuncId) (xs ys : List AV) (vs us : Array Value) (hx : xs.length = vs.size) (hy : ys.length = us.size)
      (hxv : ∀ i c, xs[i]? = some c → VRel w I c (vs.getD i undef)) (hyv : ∀ i c, ys[i]? = some c → VRel w I c (us.getD i undef)) :
      VRel w I (.func f xs ys) (.func (.func f) vs us)
  | nilFunc : VRel w I .nilFunc .nilFunc
  | yield (l : Nat) : VRel w I (.yield l) (.func (.yield l) #[] #[])
  | iface (t : TypeId) (a : AV) (v : Value) (h : VRel w I a v) : VRel w I (.iface t a) (.iface t v)
  | nilIface : VRel w I .nilIface .nilIface
  | agg (xs : List AV) (vs : Array Value) (hx : xs.length = vs.size) (hv : ∀ i c, xs[i]? = some c → VRel w I c (vs.getD i undef)) :
      VRel w I (.agg xs) (.agg vs)
  | tuple (xs : List AV) (vs : Array Value) (hx : xs.length = vs.size) (hv : ∀ i c, xs[i]? = some c → VRel w I c (vs.getD i undef)) :
      VRel w I (.tuple xs) (.tuple vs)

/-- What stays from one world to a later one: the cells that are never written, and how many cells each row has. -/
structure Ext (I : Imm) (w : World) (I' : Imm) (w' : World) : Prop where
  imm : ∀ b i, I b i → I' b i ∧ w'.cell? ⟨b, i, none⟩ = w.cell? ⟨b, i, none⟩
  shape : ∀ b s, w.shape? b = some s → w'.shape? b = some s

theorem Ext.refl (I : Imm) (w : World) : Ext I w I w := ⟨fun _ _ h => ⟨h, rfl⟩, fun _ _ h => h⟩
theorem Ext.trans {I I' I'' : Imm} {w w' w'' : World} (h : Ext I w I' w') (h' : Ext I' w' I'' w'') : Ext I w I'' w'' :=
  ⟨fun b i hi => by
      obtain ⟨a, e⟩ := h.imm b i hi
      obtain ⟨a', e'⟩ := h'.imm b i a
      exact ⟨a', e'.trans e⟩,
    fun b s hs => h'.shape b s (h.shape b s hs)⟩

theorem VRel.ext {I I' : Imm} {w w' : World} (x : Ext I w I' w') {a : AV} {v : Value} (h : VRel w I a v) : VRel w' I' a v := by
  induction h with
  | undef v => exact .undef v
  | bool b => exact .bool b
  | int k n => exact .int k n
  | str l s h => exact .str l s h
  | ptr b o => exact .ptr b o
  | nilptr => exact .nilptr
  | rptr cs B off cv hv hc ih => exact .rptr cs B off cv ih fun i hi => ⟨(x.imm _ _ (hc i hi).1).1, (x.imm _ _ (hc i hi).1).2.trans (hc i hi).2⟩
  | nil => exact .nil
  | list z tok xs B off cap cv hz hv hc hcap ht ih =>
    refine .list z tok xs B off cap cv hz ih (fun i hi => ⟨(x.imm _ _ (hc i hi).1).1, (x.imm _ _ (hc i hi).1).2.trans (hc i hi).2⟩) hcap fun t e => ?_
    obtain ⟨h1, e', n, h2, h3⟩ := ht t e
    exact ⟨h1, e', n, x.shape _ _ h2, h3⟩
  | slice z b off len cap hcap hs =>
    obtain ⟨e, n, h1, h2⟩ := hs
    exact .slice z b off len cap hcap ⟨e, n, x.shape _ _ h1, h2⟩
  | map r => exact .map r
  | func f xs ys vs us hx hy hxv hyv ih1 ih2 => exact .func f xs ys vs us hx hy ih1 ih2
  | nilFunc => exact .nilFunc
  | yield l => exact .yield l
  | iface t a v h ih => exact .iface t a v ih
  | nilIface => exact .nilIface
  | agg xs vs hx hv ih => exact .agg xs vs hx ih
  | tuple xs vs hx hv ih => exact .tuple xs vs hx ih

/-- The first one says less of a value than the second one: it may have forgotten whose the cells behind a list are. -/
inductive AV.le : AV → AV → Prop
  | refl (v : AV) : AV.le v v
  | undef (v : AV) : AV.le .undef v
  | list (z : Nat) (t : Option (Nat × Nat)) (xs ys : List AV) (hl : xs.length = ys.length) (hc : (AV.flat xs).length = (AV.flat ys).length) (hz : ∀ x ∈ xs, x.cells.length = z)
      (h : ∀ (i : Nat) (x y : AV), (AV.flat xs)[i]? = some x → (AV.flat ys)[i]? = some y → AV.le x y) : AV.le (.list z none xs) (.list z t ys)
  | agg (xs ys : List AV) (hl : xs.length = ys.length) (h : ∀ (i : Nat) (x y : AV), xs[i]? = some x → ys[i]? = some y → AV.le x y) : AV.le (.agg xs) (.agg ys)
  | tuple (xs ys : List AV) (hl : xs.length = ys.length) (h : ∀ (i : Nat) (x y : AV), xs[i]? = some x → ys[i]? = some y → AV.le x y) : AV.le (.tuple xs) (.tuple ys)

theorem VRel.le {w : World} {I : Imm} {a b : AV} (h : AV.le a b) : ∀ {v : Value}, VRel w I b v → VRel w I a v := by
  induction h with
  | refl v => exact fun h => h
  | undef v => exact fun _ => .undef _
  | list z t xs ys hl hc hz h ih =>
    intro v hv
    cases hv with
    | list _ _ _ B off cap cv hz' hv' hc' hcap ht =>
      rw [← hl]
      refine .list z none xs B off cap cv hz (fun i c hi => ?_) (fun i hi => hc' i (by rw [← hl]; exact hi)) (by rw [hl]; exact hcap) fun t ht => by simp at ht
      have hlt : i < (AV.flat ys).length := by rw [← hc]; exact (List.getElem?_eq_some_iff.1 hi).1
      exact ih i c _ hi (List.getElem?_eq_getElem hlt) (hv' i _ (List.getElem?_eq_getElem hlt))
  | agg xs ys hl h ih =>
    intro v hv
    cases hv with
    | agg _ vs hx hv =>
      refine .agg xs vs (hl.trans hx) fun i c hi => ?_
      have hlt : i < ys.length := by rw [← hl]; exact (List.getElem?_eq_some_iff.1 hi).1
      exact ih i c _ hi (List.getElem?_eq_getElem hlt) (hv i _ (List.getElem?_eq_getElem hlt))
  | tuple xs ys hl h ih =>
    intro v hv
    cases hv with
    | tuple _ vs hx hv =>
      refine .tuple xs vs (hl.trans hx) fun i c hi => ?_
      have hlt : i < ys.length := by rw [← hl]; exact (List.getElem?_eq_some_iff.1 hi).1
      exact ih i c _ hi (List.getElem?_eq_getElem hlt) (hv i _ (List.getElem?_eq_getElem hlt))

/-- Lists of values, side by side. -/
def VRels (w : World) (I : Imm) (xs : List AV) (vs : Array Value) : Prop :=
  xs.length = vs.size ∧ ∀ i c, xs[i]? = some c → VRel w I c (vs.getD i undef)

theorem VRels.ext {I I' : Imm} {w w' : World} (x : Ext I w I' w') {xs : List AV} {vs : Array Value} (h : VRels w I xs vs) : VRels w' I' xs vs :=
  ⟨h.1, fun i c hc => (h.2 i c hc).ext x⟩

/-- The cells of a value, side by side. -/
theorem VRel.cells {w : World} {I : Imm} {a : AV} {v : Value} (h : VRel w I a v) (hu : a ≠ .undef) : VRels w I a.cells v.cells := by
  have one : ∀ {x : AV} {y : Value}, VRel w I x y → x.cells = [x] → y.cells = #[y] → VRels w I x.cells y.cells := fun {x y} hxy hx hy => by
    rw [hx, hy]
    refine ⟨rfl, fun i c hc => ?_⟩
    rcases i with _ | i
    · simp only [List.getElem?_cons_zero, Option.some.injEq] at hc
      subst hc
      simpa using hxy
    · simp at hc
  cases h with
  | undef => exact absurd rfl hu
  | agg xs vs hx hv => exact ⟨hx, hv⟩
  | bool b => exact one (.bool b) rfl rfl
  | int k n => exact one (.int k n) rfl rfl
  | str l s h => exact one (.str l s h) rfl rfl
  | ptr b o => exact one (.ptr b o) rfl rfl
  | nilptr => exact one .nilptr rfl rfl
  | rptr cs B off cv hv hc => exact one (.rptr cs B off cv hv hc) rfl rfl
  | nil => exact one .nil rfl rfl
  | list z tok xs B off cap cv hz hv hc hcap ht => exact one (.list z tok xs B off cap cv hz hv hc hcap ht) rfl rfl
  | slice z b off len cap hcap hs => exact one (.slice z b off len cap hcap hs) rfl rfl
  | map r => exact one (.map r) rfl rfl
  | func f xs ys vs us hx hy hxv hyv => exact one (.func f xs ys vs us hx hy hxv hyv) rfl rfl
  | nilFunc => exact one .nilFunc rfl rfl
  | yield l => exact one (.yield l) rfl rfl
  | iface t a v h => exact one (.iface t a v h) rfl rfl
  | nilIface => exact one .nilIface rfl rfl
  | tuple xs vs hx hv => exact one (.tuple xs vs hx hv) rfl rfl

end Go.Scr
