/- What turns memory keeps the relation: part 12 of a program logic over the model: rows and new blocks. No condition. -/
import Derived.Test.YtagjgpkomcmkbaaGreatDoorEcoreK
namespace Go.Scr
open Go

def rowOf (w : World) (b : Nat) (c : Array Value) (e : TypeId) (f : Nat × Nat) : World := { w with heap := w.heap.setIfInBounds b (.cells c e f) }

theorem rowOf_same {w : World} {b : Nat} {o : Obj} (h : w.heap[b]? = some o) (c : Array Value) (e : TypeId) (f : Nat × Nat) : (rowOf w b c e f).heap[b]? = some (.cells c e f) := by
  have hlt := (Array.getElem?_eq_some_iff.1 h).1
  simp [rowOf, hlt]
theorem rowOf_other {w : World} {b b' : Nat} (h : b' ≠ b) (c : Array Value) (e : TypeId) (f : Nat × Nat) : (rowOf w b c e f).heap[b']? = w.heap[b']? := by
  simp [rowOf, Array.getElem?_setIfInBounds_ne (Ne.symm h)]
theorem rowOf_rowOf (w : World) (b : Nat) (c c' : Array Value) (e e' : TypeId) (f f' : Nat × Nat) : rowOf (rowOf w b c e f) b c' e' f' = rowOf w b c' e' f' := by
  simp [rowOf]
theorem setCell_rowOf {w : World} {b j : Nat} {c : Array Value} {e : TypeId} {f : Nat × Nat} (h : w.heap[b]? = some (.cells c e f)) (v : Value) : w.setCell ⟨b, j, none⟩ v = rowOf w b (c.setIfInBounds j v) e f := by
  have hlt := (Array.getElem?_eq_some_iff.1 h).1
  unfold World.setCell rowOf
  congr 1
  apply Array.ext_getElem?
  intro i
  simp only [Array.getElem?_modify, Array.getElem?_setIfInBounds]
  split
  · rename_i hi
    subst hi
    have hget := (Array.getElem?_eq_some_iff.1 h).2
    simp [hlt, hget]
  · rfl
theorem rowOf_self {w : World} {b : Nat} {c : Array Value} {e : TypeId} {f : Nat × Nat} (h : w.heap[b]? = some (.cells c e f)) : rowOf w b c e f = w := by
  have hlt := (Array.getElem?_eq_some_iff.1 h).1
  have : w.heap.setIfInBounds b (.cells c e f) = w.heap := by
    apply Array.ext_getElem?
    intro i
    simp only [Array.getElem?_setIfInBounds]
    split
    · rename_i hi
      subst hi
      have hget := (Array.getElem?_eq_some_iff.1 h).2
      simp [hlt, hget]
    · rfl
  unfold rowOf
  rw [this]

theorem run_storeRow (P : Program) (b o : Nat) (e : TypeId) (f : Nat × Nat) : ∀ (vs : List Value) (i : Nat) (c : Array Value) (w : World), w.heap[b]? = some (.cells c e f) → o + i + vs.length ≤ c.size →
    (∀ j, o + i ≤ j → j < o + i + vs.length → ¬ (f.1 ≤ j ∧ j < f.2)) → (∀ v ∈ vs, v.oneCell' = true) →
    (storeCells ⟨b, o, none⟩ vs i).run P w = .ok () (rowOf w b (c.toList.take (o + i) ++ vs ++ c.toList.drop (o + i + vs.length)).toArray e f)
  | [], i, c, w, h, hfit, _, _ => by
    simp only [storeCells, Sem.run_pure, List.append_nil, List.length_nil, Nat.add_zero, List.take_append_drop]
    rw [show c.toList.toArray = c by simp, rowOf_self h]
  | v :: vs, i, c, w, h, hfit, hfr, h1 => by
    simp only [List.length_cons] at hfit hfr
    have hv := h1 v (by simp)
    have hcell : w.cell? ⟨b, o + i, none⟩ = some (c[o + i]'(by omega)) := by
      rw [cell_of_row w b (o + i) c e f h]
      exact Array.getElem?_eq_getElem (by omega)
    have hfz : w.frozen? ⟨b, o + i, none⟩ = false := by
      simp only [World.frozen?, h]
      have := hfr (o + i) (by omega) (by omega)
      simp only [Bool.and_eq_false_iff, decide_eq_false_iff_not]
      omega
    simp only [storeCells, Sem.run_bind, Addr.add_none, run_store P w _ v .plain hv, hcell, hfz, Bool.false_eq_true, if_false, Result.andThen_ok]
    rw [setCell_rowOf h, run_storeRow P b o e f vs (i + 1) (c.setIfInBounds (o + i) v) _ (rowOf_same h _ _ _) (by simp; omega) (fun j hj1 hj2 => hfr j (by omega) (by omega)) (fun v hv => h1 v (by simp [hv])), rowOf_rowOf]
    congr 2
    apply Array.ext'
    simp only [Array.toList_setIfInBounds, List.length_cons]
    rw [show o + (i + 1) = o + i + 1 by omega, List.take_set, List.drop_set_of_lt (by omega)]
    have hlt : o + i < c.toList.length := by simp; omega
    have hl : (c.toList.take (o + i)).length = o + i := by rw [List.length_take]; omega
    rw [List.take_succ_eq_append_getElem hlt, List.set_append, if_neg (by omega), hl, Nat.sub_self]
    simp [Nat.add_assoc, Nat.add_comm 1]

theorem AAct.get_put (a : AAct) (d t : Nat) (v : AV) : (a.put (some d) v).get t = if t = d then v else a.get t := by
  simp only [AAct.get, AAct.put, List.lookup_cons]
  by_cases h : t = d
  · subst h; simp
  · have : (t == d) = false := by simpa using h
    simp [this, h]

section
variable {X : Ctx} {I : Imm} {σ : AH} {w : World} {a : AAct} {A : Act}

theorem DRel.ext {I' : Imm} {w' : World} (x : Ext I w I' w') {f : AV} {xs : List AV} {d : Option Deferred} (h : DRel w I f xs d) : DRel w' I' f xs d := by
  unfold DRel at *
  split at h
  · exact h
  · obtain ⟨fv, xs', cap, first, h1, h2, h3⟩ := h
    exact ⟨fv, xs', cap, first, h1, h2.ext x, h3.ext x⟩

theorem ARel.ext {I' : Imm} {w' : World} (x : Ext I w I' w') (h : ARel w I a A) : ARel w' I' a A :=
  ⟨fun t => (h.tmps t).ext x, h.size, h.len, fun i f xs hi => (h.defers i f xs hi).ext x⟩

theorem ARel.put (h : ARel w I a A) {dst : Option Nat} (hd : ∀ d, dst = some d → d < a.n) {v : AV} {cv : Value} (hv : VRel w I v cv) : ARel w I (a.put dst v) (A.put dst cv) := by
  cases dst with
  | none => exact h
  | some d =>
    have hd' := hd d rfl
    refine ⟨fun t => ?_, by simpa [Act.put, AAct.put] using h.size, by simpa [Act.put, AAct.put] using h.len, fun i f xs hi => by simpa [Act.put, AAct.put] using h.defers i f xs (by simpa [AAct.put] using hi)⟩
    rw [AAct.get_put]
    have hlt : d < A.tmps.size := by rw [h.size]; exact hd'
    split
    · rename_i ht
      subst ht
      simpa [Act.put, Array.getD_eq_getD_getElem?, hlt] using hv
    · rename_i ht
      have := h.tmps t
      simpa [Act.put, Array.getD_eq_getD_getElem?, Array.getElem?_setIfInBounds_ne (Ne.symm ht)] using this

theorem ObjRel.ext {P : Program} {I' : Imm} {w' : World} (x : Ext I w I' w') {b : Nat} {o : AObj} (h : ObjRel P w I b o) (hb : w'.heap[b]? = w.heap[b]?) (hI : ∀ i, I' b i → I b i) : ObjRel P w' I' b o := by
  cases o with
  | cells vs =>
    obtain ⟨c, e, f, h1, h2, h3, h4, h5⟩ := h
    exact ⟨c, e, f, hb.trans h1, h2, fun i v hv => (h3 i v hv).ext x, h4, fun i hi => h5 i (hI i hi)⟩
  | map es clock =>
    obtain ⟨es', h1, h2, h3⟩ := h
    refine ⟨es', hb.trans h1, h2, fun i k v n hi => ?_⟩
    obtain ⟨y, h4, h5, h6, h7⟩ := h3 i k v n hi
    exact ⟨y, h4, h5.ext x, h6.ext x, h7⟩
  | siter l pos =>
    obtain ⟨s, h1, h2⟩ := h
    exact ⟨s, h1, hb.trans h2⟩
  | miter m since seen stepped => exact hb.trans h
  | dfr => exact hb.trans h
  | loop env lr st =>
    obtain ⟨r, h1, h2, h3, h4, h5, h6, h7, h8, h9⟩ := h
    exact ⟨r, hb.trans h1, h2, h3, h4, h5, h6, h7, fun t => (h8 t).ext x, h9⟩

theorem TipRel.ext {I' : Imm} {w' : World} {b e : Nat} (h : TipRel w I b e) (hb : w'.heap[b]? = w.heap[b]?) (hI : ∀ i, I' b i → I b i) : TipRel w' I' b e := by
  obtain ⟨c, t, f, h1, h2, h3, h4⟩ := h
  exact ⟨c, t, f, hb.trans h1, h2, h3, fun i hi hi' => h4 i hi (hI i hi')⟩

/-- One step of the memory. -/
theorem Rel.next {σ' : AH} {I' : Imm} {w' : World} (h : Rel X I σ w) (x : Ext I w I' w')
    (hobj : ∀ b o, σ'.heap b = some o → (σ.heap b = some o ∧ w'.heap[b]? = w.heap[b]? ∧ (∀ i, I' b i → I b i) ∧ σ'.tip b = σ.tip b) ∨ (X.B0 ≤ b ∧ σ'.tip b = none ∧ ObjRel X.P w' I' b o))
    (htip : ∀ b e, σ'.tip b = some e → (σ.tip b = some e ∧ w'.heap[b]? = w.heap[b]? ∧ (∀ i, I' b i → I b i)) ∨ (X.B0 ≤ b ∧ TipRel w' I' b e))
    (himm : ∀ b i, I' b i → I b i ∨ ∃ v, w'.cell? ⟨b, i, none⟩ = some v)
    (hsize : w.heap.size ≤ w'.heap.size) (hold : ∀ b, b < X.B0 → w'.heap[b]? = w.heap[b]?) (hos : w'.os = w.os) (htape : w'.tape = w.tape) (hout : w'.output = w.output) : Rel X I' σ' w' where
  obj b o hb := by
    rcases hobj b o hb with ⟨h1, h2, h3, h4⟩ | h1
    · obtain ⟨p1, p2, p3⟩ := h.obj b o h1
      exact ⟨p1, h4.trans p2, p3.ext x h2 h3⟩
    · exact h1
  tips b e hb := by
    rcases htip b e hb with ⟨h1, h2, h3⟩ | h1
    · obtain ⟨p1, p2⟩ := h.tips b e h1
      exact ⟨p1, p2.ext h2 h3⟩
    · exact h1
  glob g v hg := by
    obtain ⟨h1, cv, h2, h3⟩ := h.glob g v hg
    exact ⟨(x.imm _ _ h1).1, cv, (x.imm _ _ h1).2.trans h2, h3.ext x⟩
  immc b i hi := by
    rcases himm b i hi with h1 | h1
    · obtain ⟨v, hv⟩ := h.immc b i h1
      exact ⟨v, (x.imm _ _ h1).2.trans hv⟩
    · exact h1
  base := Nat.le_trans h.base hsize
  old b hb := (hold b hb).trans (h.old b hb)
  os := hos.trans h.os
  tape := htape.trans h.tape
  output := hout.trans h.output

theorem Rel.lt_heap (h : Rel X I σ w) {b : Nat} {o : AObj} (hb : σ.heap b = some o) : b < w.heap.size := by
  have := (h.obj b o hb).2.2
  cases o with
  | cells vs => obtain ⟨c, e, f, h1, _⟩ := this; exact (Array.getElem?_eq_some_iff.1 h1).1
  | map es clock => obtain ⟨es', h1, _⟩ := this; exact (Array.getElem?_eq_some_iff.1 h1).1
  | siter l pos => obtain ⟨s, _, h1⟩ := this; exact (Array.getElem?_eq_some_iff.1 h1).1
  | miter m since seen stepped => exact (Array.getElem?_eq_some_iff.1 (show w.heap[b]? = some _ from this)).1
  | dfr => exact (Array.getElem?_eq_some_iff.1 (show w.heap[b]? = some _ from this)).1
  | loop env lr st => obtain ⟨r, h1, _⟩ := this; exact (Array.getElem?_eq_some_iff.1 h1).1
theorem Rel.lt_tip (h : Rel X I σ w) {b e : Nat} (hb : σ.tip b = some e) : b < w.heap.size := by
  obtain ⟨c, t, f, h1, _⟩ := (h.tips b e hb).2
  exact (Array.getElem?_eq_some_iff.1 h1).1
theorem Rel.lt_imm (h : Rel X I σ w) {b i : Nat} (hb : I b i) : b < w.heap.size := by
  obtain ⟨v, hv⟩ := h.immc b i hb
  exact World.block_lt_of_cell? (w := w) (a := ⟨b, i, none⟩) hv

/-- The next block's number is new. -/
theorem Rel.fresh (h : Rel X I σ w) : σ.fresh w.heap.size := by
  refine ⟨?_, ?_⟩
  · cases hb : σ.heap w.heap.size with
    | none => rfl
    | some o => exact absurd (h.lt_heap hb) (Nat.lt_irrefl _)
  · cases hb : σ.tip w.heap.size with
    | none => rfl
    | some e => exact absurd (h.lt_tip hb) (Nat.lt_irrefl _)

theorem shape_alloc_old (w : World) (o : Obj) {b : Nat} {s : TypeId × Nat} (h : w.shape? b = some s) : (w.alloc o).shape? b = some s := by
  have hlt : b < w.heap.size := by
    unfold World.shape? at h
    split at h
    · rename_i hb; exact (Array.getElem?_eq_some_iff.1 hb).1
    · simp at h
  unfold World.shape? at h ⊢
  rw [heap_alloc_old w o b hlt]
  exact h

theorem Ext.alloc (h : Rel X I σ w) (o : Obj) : Ext I w I (w.alloc o) :=
  ⟨fun b i hi => ⟨hi, by
      have := h.lt_imm hi
      simp only [World.cell?, heap_alloc_old w o b this]⟩, fun _ _ hs => shape_alloc_old w o hs⟩

/-- A new block that is written: its abstract object. -/
theorem Rel.new (h : Rel X I σ w) (o : Obj) (ao : AObj) (hao : ObjRel X.P (w.alloc o) I w.heap.size ao) : Rel X I (σ.set w.heap.size ao) (w.alloc o) := by
  have hf := h.fresh
  refine h.next (Ext.alloc h o) (fun b o' hb => ?_) (fun b e hb => .inl ⟨hb, heap_alloc_old w o b (h.lt_tip hb), fun _ hi => hi⟩) (fun _ _ hi => .inl hi) (show w.heap.size ≤ (w.heap.push o).size by simp) (fun b hb => heap_alloc_old w o b (Nat.lt_of_lt_of_le hb h.base)) rfl rfl rfl
  simp only [AH.set] at hb
  split at hb
  · rename_i hbs
    subst hbs
    simp only [Option.some.injEq] at hb
    subst hb
    exact .inr ⟨h.base, hf.2, hao⟩
  · exact .inl ⟨hb, heap_alloc_old w o b (h.lt_heap hb), fun _ hi => hi, rfl⟩

/-- A new row whose cells are those: as cells that may be written. -/
theorem Rel.newCells (h : Rel X I σ w) {c : Array Value} {e : TypeId} {vs : List AV} (hl : vs.length ≤ c.size) (hv : ∀ i v, vs[i]? = some v → VRel w I v (c.getD i undef)) :
    Rel X I (σ.set w.heap.size (.cells vs)) (w.alloc (.cells c e)) := by
  refine h.new _ _ ⟨c, e, (0, 0), heap_alloc_new w _, hl, fun i v hi => (hv i v hi).ext (Ext.alloc h _), fun i _ hi => by simp at hi, fun i hi => ?_⟩
  exact absurd (h.lt_imm hi) (Nat.lt_irrefl _)

/-- A block is forgotten. -/
theorem Rel.drop (h : Rel X I σ w) (b : Nat) : Rel X I (σ.drop b) w :=
  h.next (Ext.refl _ _) (fun b' o hb => .inl (by
    simp only [AH.drop] at hb
    split at hb
    · simp at hb
    · exact ⟨hb, rfl, fun _ hi => hi, rfl⟩)) (fun b' e hb => .inl ⟨hb, rfl, fun _ hi => hi⟩) (fun _ _ hi => .inl hi) (Nat.le_refl _) (fun _ _ => rfl) rfl rfl rfl

end
end Go.Scr
