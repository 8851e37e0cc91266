/- Each quiet instruction answers what the model's operation answers: part 6 of a program logic over the model: numbers, texts, tests. No condition but that the operation was lowered to it. -/
import Derived.Test.YtagjgpkomcmkbaaGreatDoorEcoreE
namespace Go.Scr
open Go

section
variable {P : Program} {w : World} {I : Imm}

theorem run_eqGuard {op : BinOp} {t : TypeId} {x y : Operand} {a b : Value} (h1 : ¬ (a = .nilIface ∧ b = .nilIface)) (h2 : ∀ xs ys, ¬ (a = .agg xs ∧ b = .agg ys)) :
    (eqGuard op t x y a b).run P w = .ok () w := by
  unfold eqGuard
  cases op <;> first
    | rfl
    | (simp only [Bool.not_true, Bool.false_eq_true, if_false]
       split
       · exact absurd ⟨rfl, rfl⟩ h1
       · exact absurd ⟨rfl, rfl⟩ (h2 _ _)
       · rfl)

theorem run_binInt {op : BinOp} {t : TypeId} {k k' : IntKind} {x y : Int} {v : AV} (h : binA op (.int k x) (.int k' y) = some v) :
    ∃ u, (binOp op t (.int k x) (.int k' y)).run P w = .ok u w ∧ VRel w I v u := by
  simp only [binA] at h
  split at h
  · rename_i hs
    unfold shiftI at h
    split at h
    · simp at h
    · rename_i hy
      rcases hs with rfl | rfl
      · simp only [Option.some.injEq] at h; subst h
        exact ⟨_, by simp [binOp, Op.shift, hy], .int _ _⟩
      · simp only [Option.some.injEq] at h; subst h
        exact ⟨_, by simp [binOp, Op.shift, hy], .int _ _⟩
  · rename_i hs
    split at h
    · rename_i hk
      subst hk
      unfold binI at h
      split at h
      · simp only [Option.some.injEq] at h; subst h; exact ⟨_, by simp [binOp, Op.intArith], .int _ _⟩
      · simp only [Option.some.injEq] at h; subst h; exact ⟨_, by simp [binOp, Op.intArith], .int _ _⟩
      · simp only [Option.some.injEq] at h; subst h; exact ⟨_, by simp [binOp, Op.intArith], .int _ _⟩
      · split at h
        · simp at h
        · rename_i hy
          simp only [Option.some.injEq] at h; subst h; exact ⟨_, by simp [binOp, Op.intDiv, hy], .int _ _⟩
      · split at h
        · simp at h
        · rename_i hy
          simp only [Option.some.injEq] at h; subst h; exact ⟨_, by simp [binOp, Op.intDiv, hy], .int _ _⟩
      · simp only [Option.some.injEq] at h; subst h; exact ⟨_, by simp [binOp, Op.intBits], .int _ _⟩
      · simp only [Option.some.injEq] at h; subst h; exact ⟨_, by simp [binOp, Op.intBits], .int _ _⟩
      · simp only [Option.some.injEq] at h; subst h; exact ⟨_, by simp [binOp, Op.intBits], .int _ _⟩
      · simp only [Option.some.injEq] at h; subst h; exact ⟨_, by simp [binOp, Op.intBits], .int _ _⟩
      · simp at h
      · simp at h
      · simp only [Option.some.injEq] at h; subst h; exact ⟨_, by simp [binOp, Op.intCmp], .bool _⟩
      · simp only [Option.some.injEq] at h; subst h; exact ⟨_, by simp [binOp, Op.intCmp], .bool _⟩
      · simp only [Option.some.injEq] at h; subst h; exact ⟨_, by simp [binOp, Op.intCmp], .bool _⟩
      · simp only [Option.some.injEq] at h; subst h; exact ⟨_, by simp [binOp, Op.intCmp], .bool _⟩
      · simp only [Option.some.injEq] at h; subst h; exact ⟨_, by simp [binOp, Op.intCmp], .bool _⟩
      · simp only [Option.some.injEq] at h; subst h; exact ⟨_, by simp [binOp, Op.intCmp], .bool _⟩
    · simp at h

theorem run_binStr {op : BinOp} {t : TypeId} {x y : ByteArray} {v : AV} (h : binS op x.data.toList y.data.toList = some v) :
    ∃ u, (binOp op t (.string x) (.string y)).run P w = .ok u w ∧ VRel w I v u := by
  unfold binS at h
  have e : ∀ s : ByteArray, s.toList = s.data.toList := ByteArray.toList_eq
  split at h
  · split at h
    · rename_i hlen
      simp only [Option.some.injEq] at h; subst h
      refine ⟨.string (x ++ y), ?_, .str _ _ (by simp)⟩
      have hx : x.size = x.data.toList.length := rfl
      have hy : y.size = y.data.toList.length := rfl
      have : ¬ ((x.size + y.size : Nat) : Int) > IntKind.i64.max := by
        have hm : IntKind.i64.max = 9223372036854775807 := by decide
        rw [hx, hy, hm]
        omega
      simp only [binOp, Op.stringOp, if_neg this, Sem.run_pure]
    · simp at h
  · simp only [Option.some.injEq] at h; subst h; exact ⟨_, by simp [binOp, Op.stringOp, e], .bool _⟩
  · simp only [Option.some.injEq] at h; subst h; exact ⟨_, by simp [binOp, Op.stringOp, e], .bool _⟩
  · simp only [Option.some.injEq] at h; subst h; exact ⟨_, by simp [binOp, Op.stringOp, e], .bool _⟩
  · simp only [Option.some.injEq] at h; subst h; exact ⟨_, by simp [binOp, Op.stringOp, e], .bool _⟩
  · simp only [Option.some.injEq] at h; subst h; exact ⟨_, by simp [binOp, Op.stringOp, e], .bool _⟩
  · simp only [Option.some.injEq] at h; subst h; exact ⟨_, by simp [binOp, Op.stringOp, e], .bool _⟩
  · simp at h

theorem equal_succ (t : TypeId) (x y : Value) : Op.equal t x y = Op.equalIn (9999 + 1) t x y := rfl

theorem equalIn_ptr (d : Nat) {t e : TypeId} (ht : P.underlying t = some (.pointer e)) (p q : Option Addr) (h : p = none ∨ q = none) :
    (Op.equalIn (d + 1) t (.pointer p) (.pointer q)).run P w = .ok (p.isNone && q.isNone) w := by
  rcases h with rfl | rfl
  · simp [Op.equalIn, run_underlying ht]
  · cases p <;> simp [Op.equalIn, run_underlying ht]
theorem equalIn_slice (d : Nat) {t e : TypeId} (ht : P.underlying t = some (.slice e)) (p q : Option Addr) (m m' n n' : Nat) (h : p = none ∨ q = none) :
    (Op.equalIn (d + 1) t (.slice p m m') (.slice q n n')).run P w = .ok (p.isNone && q.isNone) w := by
  rcases h with rfl | rfl
  · simp [Op.equalIn, run_underlying ht]
  · cases p <;> simp [Op.equalIn, run_underlying ht]
theorem equalIn_bool (d : Nat) {t : TypeId} (ht : P.underlying t = some .bool) (a b : Bool) : (Op.equalIn (d + 1) t (.bool a) (.bool b)).run P w = .ok (a == b) w := by
  simp [Op.equalIn, run_underlying ht]

theorem eqB_of {op : BinOp} {b : Bool} {v : AV} (h : eqB op b = some v) {t : TypeId} {x y : Value} (he : (Op.equal t x y).run P w = .ok b w)
    (hx : binOp .eql t x y = (do pure (.bool (← Op.equal t x y)))) (hy : binOp .neq t x y = (do pure (.bool (!(← Op.equal t x y))))) :
    ∃ u, (binOp op t x y).run P w = .ok u w ∧ VRel w I v u := by
  unfold eqB at h
  split at h
  · simp only [Option.some.injEq] at h; subst h
    exact ⟨_, by simp [hx, he], .bool _⟩
  · simp only [Option.some.injEq] at h; subst h
    exact ⟨_, by simp [hy, he], .bool _⟩
  · simp at h

theorem run_bin {op : BinOp} {t : TypeId} {x y : Operand} {a b : AV} {ca cb : Value} {v : AV} (ha : VRel w I a ca) (hb : VRel w I b cb) (h : binA op a b = some v) :
    ∃ u, (do eqGuard op t x y ca cb; binOp op t ca cb : Sem Value).run P w = .ok u w ∧ VRel w I v u := by
  cases a with
  | int k x =>
    cases b with
    | int k' y =>
      obtain rfl := ha.int_inv
      obtain rfl := hb.int_inv
      obtain ⟨u, h1, h2⟩ := run_binInt (P := P) (w := w) (I := I) (t := t) h
      exact ⟨u, by rw [Sem.run_bind, run_eqGuard (by simp) (by simp)]; exact h1, h2⟩
    | _ => simp [binA] at h
  | str x =>
    cases b with
    | str y =>
      obtain ⟨s, rfl, rfl⟩ := ha.str_inv
      obtain ⟨s', rfl, rfl⟩ := hb.str_inv
      obtain ⟨u, h1, h2⟩ := run_binStr (P := P) (w := w) (I := I) (t := t) (by simpa [binA] using h)
      exact ⟨u, by rw [Sem.run_bind, run_eqGuard (by simp) (by simp)]; exact h1, h2⟩
    | _ => simp [binA] at h
  | _ => simp [binA] at h

theorem run_eqb {op : BinOp} {t : TypeId} {x y : Operand} {a b : AV} {ca cb : Value} {v : AV} (ht : P.underlying t = some .bool) (ha : VRel w I a ca) (hb : VRel w I b cb) (h : eqbA op a b = some v) :
    ∃ u, (do eqGuard op t x y ca cb; binOp op t ca cb : Sem Value).run P w = .ok u w ∧ VRel w I v u := by
  cases a with
  | bool x =>
    cases b with
    | bool y =>
      obtain rfl := ha.bool_inv
      obtain rfl := hb.bool_inv
      obtain ⟨u, h1, h2⟩ := eqB_of (P := P) (w := w) (I := I) (by simpa [eqbA] using h) (t := t) (x := .bool x) (y := .bool y) (equalIn_bool 9999 ht x y) rfl rfl
      exact ⟨u, by rw [Sem.run_bind, run_eqGuard (by simp) (by simp)]; exact h1, h2⟩
    | _ => simp [eqbA] at h
  | _ => simp [eqbA] at h

theorem run_eqp {op : BinOp} {t e : TypeId} {x y : Operand} {a b : AV} {ca cb : Value} {v : AV} (ht : P.underlying t = some (.pointer e)) (ha : VRel w I a ca) (hb : VRel w I b cb) (h : eqpA op a b = some v) :
    ∃ u, (do eqGuard op t x y ca cb; binOp op t ca cb : Sem Value).run P w = .ok u w ∧ VRel w I v u := by
  have fin : ∀ {ca cb : Value} {r : Bool} (p q : Option Addr), ca = .pointer p → cb = .pointer q → (Op.equal t ca cb).run P w = .ok r w → eqB op r = some v →
      ∃ u, (do eqGuard op t x y ca cb; binOp op t ca cb : Sem Value).run P w = .ok u w ∧ VRel w I v u := fun {ca cb r} p q h1 h2 he hv => by
    subst h1
    subst h2
    obtain ⟨u, h1, h2⟩ := eqB_of (P := P) (w := w) (I := I) hv (t := t) (x := .pointer p) (y := .pointer q) he rfl rfl
    exact ⟨u, by rw [Sem.run_bind, run_eqGuard (by simp) (by simp)]; exact h1, h2⟩
  cases a with
  | nilptr =>
    obtain rfl := ha.nilptr_inv
    cases b with
    | nilptr =>
      obtain rfl := hb.nilptr_inv
      exact fin _ _ rfl rfl (equalIn_ptr 9999 ht _ _ (by simp)) (by simpa [eqpA] using h)
    | ptr b o =>
      obtain rfl := hb.ptr_inv
      exact fin _ _ rfl rfl (equalIn_ptr 9999 ht _ _ (by simp)) (by simpa [eqpA] using h)
    | rptr cs =>
      obtain ⟨B, off, cv, rfl, _, _⟩ := hb.rptr_inv
      exact fin _ _ rfl rfl (equalIn_ptr 9999 ht _ _ (by simp)) (by simpa [eqpA] using h)
    | _ => simp [eqpA] at h
  | ptr b₀ o₀ =>
    obtain rfl := ha.ptr_inv
    cases b with
    | nilptr =>
      obtain rfl := hb.nilptr_inv
      exact fin _ _ rfl rfl (equalIn_ptr 9999 ht _ _ (by simp)) (by simpa [eqpA] using h)
    | _ => simp [eqpA] at h
  | rptr cs =>
    obtain ⟨B, off, cv, rfl, _, _⟩ := ha.rptr_inv
    cases b with
    | nilptr =>
      obtain rfl := hb.nilptr_inv
      exact fin _ _ rfl rfl (equalIn_ptr 9999 ht _ _ (by simp)) (by simpa [eqpA] using h)
    | _ => simp [eqpA] at h
  | _ => simp [eqpA] at h

theorem run_eqn {op : BinOp} {t e : TypeId} {x y : Operand} {a b : AV} {ca cb : Value} {v : AV} (ht : P.underlying t = some (.slice e)) (ha : VRel w I a ca) (hb : VRel w I b cb) (h : eqnA op a b = some v) :
    ∃ u, (do eqGuard op t x y ca cb; binOp op t ca cb : Sem Value).run P w = .ok u w ∧ VRel w I v u := by
  have fin : ∀ {ca cb : Value} {r : Bool} (p q : Option Addr) (m n m' n' : Nat), ca = .slice p m m' → cb = .slice q n n' → (Op.equal t ca cb).run P w = .ok r w → eqB op r = some v →
      ∃ u, (do eqGuard op t x y ca cb; binOp op t ca cb : Sem Value).run P w = .ok u w ∧ VRel w I v u := fun {ca cb r} p q m n m' n' h1 h2 he hv => by
    subst h1
    subst h2
    obtain ⟨u, h1, h2⟩ := eqB_of (P := P) (w := w) (I := I) hv (t := t) (x := .slice p m m') (y := .slice q n n') he rfl rfl
    exact ⟨u, by rw [Sem.run_bind, run_eqGuard (by simp) (by simp)]; exact h1, h2⟩
  cases a with
  | nil =>
    obtain rfl := ha.nil_inv
    cases b with
    | nil =>
      obtain rfl := hb.nil_inv
      exact fin _ _ _ _ _ _ rfl rfl (equalIn_slice 9999 ht _ _ _ _ _ _ (by simp)) (by simpa [eqnA] using h)
    | list z tok xs =>
      obtain ⟨B, off, cap, cv, rfl, _⟩ := hb.list_inv
      exact fin _ _ _ _ _ _ rfl rfl (equalIn_slice 9999 ht _ _ _ _ _ _ (by simp)) (by simpa [eqnA] using h)
    | slice z b o len =>
      obtain ⟨cap, rfl, _⟩ := hb.slice_inv
      exact fin _ _ _ _ _ _ rfl rfl (equalIn_slice 9999 ht _ _ _ _ _ _ (by simp)) (by simpa [eqnA] using h)
    | _ => simp [eqnA] at h
  | list z tok xs =>
    obtain ⟨B, off, cap, cv, rfl, _⟩ := ha.list_inv
    cases b with
    | nil =>
      obtain rfl := hb.nil_inv
      exact fin _ _ _ _ _ _ rfl rfl (equalIn_slice 9999 ht _ _ _ _ _ _ (by simp)) (by simpa [eqnA] using h)
    | _ => simp [eqnA] at h
  | slice z b₀ o₀ len₀ =>
    obtain ⟨cap, rfl, _⟩ := ha.slice_inv
    cases b with
    | nil =>
      obtain rfl := hb.nil_inv
      exact fin _ _ _ _ _ _ rfl rfl (equalIn_slice 9999 ht _ _ _ _ _ _ (by simp)) (by simpa [eqnA] using h)
    | _ => simp [eqnA] at h
  | _ => simp [eqnA] at h

theorem run_indexStr {t : TypeId} {x y v : AV} {cx cy : Value} (ht : P.underlying t = some .string) (hx : VRel w I x cx) (hy : VRel w I y cy) (h : ixsA x y = some v) :
    ∃ u, (Instr.index t cx cy).run P w = .ok u w ∧ VRel w I v u := by
  unfold ixsA at h
  split at h
  · obtain ⟨s, rfl, rfl⟩ := hx.str_inv
    obtain rfl := hy.int_inv
    split at h
    · rename_i l k i h0
      simp only [Option.map_eq_some_iff] at h
      obtain ⟨b, hb, rfl⟩ := h
      have hlt : i.toNat < s.size := (List.getElem?_eq_some_iff.1 hb).1
      have hg : s[i.toNat]? = some b := by
        rw [ByteArray.getElem?_lt' s _ hlt]
        have := (List.getElem?_eq_some_iff.1 hb).2
        simp only [Option.some.injEq]
        rw [← this]
        simp [ByteArray.getElem_eq_getElem_data]
      exact ⟨_, by simp [Instr.index, asIntOf, run_underlying ht, h0, hg], .int _ _⟩
    · simp at h
  · simp at h

end
end Go.Scr
