/- Each quiet instruction answers what the model's operation answers: part 5 of a program logic over the model: the operations one by one. No condition but that the operation was lowered to it. -/
import Derived.Test.YtagjgpkomcmkbaaGreatDoorEcoreD
namespace Go.Scr
open Go

section
variable {P : Program} {w : World} {I : Imm}

theorem run_isAgg {t : TypeId} {n : Option Nat} (h : shapeP P t = some n) : (isAgg t).run P w = .ok n.isSome w := by
  unfold shapeP at h
  unfold isAgg
  split at h
  · rename_i fs hu
    simp only [Option.map_eq_some_iff] at h
    obtain ⟨m, _, rfl⟩ := h
    simp [run_underlying hu]
  · rename_i l e hu
    simp only [Option.map_eq_some_iff] at h
    obtain ⟨m, _, rfl⟩ := h
    simp [run_underlying hu]
  · rename_i d hs ha hu
    simp only [Option.some.injEq] at h
    subst h
    simp only [Sem.run_bind, run_underlying hu, Result.andThen_ok, Option.isSome_none]
    rfl
  · simp at h

theorem run_sizeOf {t : TypeId} {n : Nat} (h : sizeP P t = some n) : (sizeOf t).run P w = .ok n w := by
  simp only [sizeP, Option.map_eq_some_iff] at h
  obtain ⟨i, hi, rfl⟩ := h
  simp [sizeOf, typeInfo, hi]

theorem shapeP_size {t : TypeId} {n : Nat} (h : shapeP P t = some (some n)) : sizeP P t = some n := by
  unfold shapeP at h
  split at h
  · simpa using h
  · simpa using h
  · simp at h
  · simp at h

/-- Cells that lie side by side are read as they are. -/
theorem run_loadVar {t : TypeId} {n : Option Nat} (hs : shapeP P t = some n) {B base off : Nat} {xs : List AV} {cv : Nat → Value}
    (h : ∀ i c, xs[i]? = some c → w.cell? ⟨B, base + i, none⟩ = some (cv i) ∧ VRel w I c (cv i)) {v : AV} (hq : partA n off xs = some v) :
    ∃ u, (loadVar t ⟨B, base + off, none⟩).run P w = .ok u w ∧ VRel w I v u := by
  cases n with
  | none =>
    simp only [partA] at hq
    obtain ⟨h1, h2⟩ := h off v hq
    refine ⟨cv off, ?_, h2⟩
    simp [loadVar, run_isAgg hs, h1]
  | some n =>
    simp only [partA] at hq
    split at hq
    · rename_i hn
      simp only [Option.some.injEq] at hq
      subst hq
      have hl := run_loadCells (P := P) w ⟨B, base + off, none⟩ n (fun j => cv (off + j)) (fun j hj => by
        have hlt : off + j < xs.length := by omega
        have := (h (off + j) _ (List.getElem?_eq_getElem hlt)).1
        rw [Addr.add_none]
        simpa [Nat.add_assoc] using this)
      refine ⟨.agg ((List.range n).map fun j => cv (off + j)).toArray, ?_, ?_⟩
      · simp only [loadVar, Sem.run_bind, run_isAgg hs, Result.andThen_ok, Option.isSome_some, if_true, run_sizeOf (shapeP_size hs), hl, Sem.run_pure]
      · refine .agg _ _ (by simp; omega) fun i c hc => ?_
        rw [List.getElem?_take] at hc
        split at hc
        · rename_i hi
          rw [List.getElem?_drop] at hc
          have := (h (off + i) c hc).2
          simpa [Array.getD_eq_getD_getElem?, hi] using this
        · simp at hc
    · simp at hq

theorem ObjRel.cell {P : Program} {b : Nat} {vs : List AV} (h : ObjRel P w I b (.cells vs)) : ∃ cv : Nat → Value, ∀ i c, vs[i]? = some c → w.cell? ⟨b, i, none⟩ = some (cv i) ∧ VRel w I c (cv i) := by
  obtain ⟨c, e, f, h1, h2, h3, _, _⟩ := h
  refine ⟨fun i => c.getD i undef, fun i x hx => ⟨?_, h3 i x hx⟩⟩
  have hi : i < c.size := by have := (List.getElem?_eq_some_iff.1 hx).1; omega
  rw [cell_of_row w b i c e f h1]
  simp [Array.getD_eq_getD_getElem?, hi]

theorem run_loadAt {X : Ctx} {σ : AH} (hr : Rel X I σ w) {t : TypeId} {n : Option Nat} (hs : shapeP P t = some n) {x v : AV} {cx : Value} (hx : VRel w I x cx)
    (hq : loadA σ n x = some v) : ∃ u, (Instr.loadAt t cx).run P w = .ok u w ∧ VRel w I v u := by
  unfold loadA at hq
  split at hq
  · obtain ⟨B, off, cv, rfl, h1, h2⟩ := hx.rptr_inv
    obtain ⟨u, hu, hv⟩ := run_loadVar (P := P) (w := w) (I := I) hs (B := B) (base := off) (off := 0) (cv := cv) (fun i c hc => ⟨(h2 i (List.getElem?_eq_some_iff.1 hc).1).2, h1 i c hc⟩) hq
    exact ⟨u, by simpa [Instr.loadAt, Instr.sureAddr] using hu, hv⟩
  · rename_i b o
    obtain rfl := hx.ptr_inv
    split at hq
    · rename_i vs hb
      obtain ⟨cv, hcv⟩ := (hr.obj _ _ hb).2.2.cell
      obtain ⟨u, hu, hv⟩ := run_loadVar (P := P) (w := w) (I := I) hs (B := b) (base := 0) (off := o) (cv := cv) (fun i c hc => by simpa using hcv i c hc) hq
      exact ⟨u, by simpa [Instr.loadAt, Instr.sureAddr] using hu, hv⟩
    · simp at hq
  · simp at hq

theorem run_fieldAt {s : TypeId} {f : Nat} {x : Opd} {i : I1} {X : Ctx} {a : AAct} {σ : AH} (hl : lowFieldAddr P s f x = some i) {v : AV} {cx : Value}
    (hx : VRel w I (ev X a x) cx) (hq : quietI X a σ i = some v) : ∃ u, (Instr.fieldAt s cx f).run P w = .ok u w ∧ VRel w I v u := by
  unfold lowFieldAddr at hl
  split at hl
  · rename_i fs hu
    split at hl
    · rename_i fd hf
      split at hl
      · rename_i m hm
        simp only [Option.some.injEq] at hl
        subst hl
        simp only [quietI, quietV] at hq
        have hrun : ∀ b o, (Instr.fieldAt s (.pointer (some ⟨b, o, none⟩)) f).run P w = .ok (.pointer (some ⟨b, o + fd.offset, none⟩)) w := fun b o => by
          simp [Instr.fieldAt, run_underlying hu, hf, Instr.sureAddr, fieldPlace, run_sizeOf hm, Addr.add_none]
        unfold fldA at hq
        split at hq
        · rename_i b o he
          rw [he] at hx
          obtain rfl := hx.ptr_inv
          simp only [Option.some.injEq] at hq
          subst hq
          exact ⟨_, hrun _ _, .ptr _ _⟩
        · rename_i cs he
          rw [he] at hx
          obtain ⟨B, off, cv, rfl, h1, h2⟩ := hx.rptr_inv
          simp only [Option.some.injEq] at hq
          subst hq
          refine ⟨_, hrun _ _, .rptr _ _ _ (fun i => cv (fd.offset + i)) (fun i c hc => h1 _ _ (by simpa [List.getElem?_drop] using hc)) fun i hi => ?_⟩
          have := h2 (fd.offset + i) (by simp at hi; omega)
          simpa [Nat.add_assoc] using this
        · simp at hq
      · simp at hl
    · simp at hl
  · simp at hl

/-- An element's cells among those of all. -/
theorem flat_at {z : Nat} : ∀ {xs : List AV}, (∀ x ∈ xs, x.cells.length = z) → ∀ (i j : Nat) (x : AV), xs[i]? = some x → j < z → (AV.flat xs)[i * z + j]? = x.cells[j]?
  | [], _, i, j, x, h, _ => by simp at h
  | y :: ys, hz, 0, j, x, h, hj => by
    simp only [List.getElem?_cons_zero, Option.some.injEq] at h
    subst h
    have := hz y (by simp)
    simp [AV.flat, List.getElem?_append, this, hj]
  | y :: ys, hz, i + 1, j, x, h, hj => by
    have h0 := hz y (by simp)
    have ih := flat_at (z := z) (xs := ys) (fun x hx => hz x (by simp [hx])) i j x (by simpa using h) hj
    simp only [AV.flat, List.flatMap_cons]
    rw [List.getElem?_append_right (by rw [h0, Nat.add_mul]; omega), h0]
    rw [show (i + 1) * z + j - z = i * z + j by rw [Nat.add_mul]; omega]
    exact ih

theorem length_flat {z : Nat} : ∀ {xs : List AV}, (∀ x ∈ xs, x.cells.length = z) → (AV.flat xs).length = xs.length * z
  | [], _ => by simp [AV.flat]
  | y :: ys, hz => by
    have h0 := hz y (by simp)
    have ih := length_flat (z := z) (xs := ys) (fun x hx => hz x (by simp [hx]))
    simp only [AV.flat, List.flatMap_cons, List.length_append, List.length_cons, h0] at ih ⊢
    rw [ih, Nat.add_mul]
    omega

theorem run_indexAt {t : TypeId} {x y : Opd} {i : I1} {X : Ctx} {a : AAct} {σ : AH} (hl : lowIndexAddr P t x y = some i) {v : AV} {cx cy : Value}
    (hx : VRel w I (ev X a x) cx) (hy : VRel w I (ev X a y) cy) (hq : quietI X a σ i = some v) : ∃ u, (Instr.indexAt t cx cy).run P w = .ok u w ∧ VRel w I v u := by
  unfold lowIndexAddr at hl
  split at hl
  · rename_i e hu
    simp only [Option.map_eq_some_iff] at hl
    obtain ⟨z, hz, rfl⟩ := hl
    simp only [quietI, quietV] at hq
    unfold ixaA at hq
    split at hq
    · rename_i z' tok xs k n he1 he2
      rw [he1] at hx
      rw [he2] at hy
      obtain rfl := hy.int_inv
      obtain ⟨B, off, cap, cv, rfl, g1, g2, g3, g4, g5⟩ := hx.list_inv
      split at hq
      · rename_i hb
        obtain ⟨rfl, hb0, hb1⟩ := hb
        simp only [Option.map_eq_some_iff] at hq
        obtain ⟨el, hel, rfl⟩ := hq
        refine ⟨.pointer (some ⟨B, off + n.toNat * z, none⟩), ?_, ?_⟩
        · simp [Instr.indexAt, asIntOf, run_underlying hu, hb0, hb1, run_sizeOf hz, Addr.add_none]
        · have hm := g1 el (List.mem_of_getElem? hel)
          have hlt : n.toNat < xs.length := (List.getElem?_eq_some_iff.1 hel).1
          have hle : n.toNat * z + z ≤ xs.length * z := by rw [← Nat.succ_mul]; exact Nat.mul_le_mul_right z hlt
          refine .rptr _ _ _ (fun j => cv (n.toNat * z + j)) (fun j c hc => ?_) fun j hj => ?_
          · have hj : j < z := by have := (List.getElem?_eq_some_iff.1 hc).1; omega
            exact g2 _ _ (by rw [flat_at g1 _ _ _ hel hj]; exact hc)
          · have := g3 (n.toNat * z + j) (by omega)
            simpa [Nat.add_assoc] using this
      · simp at hq
    · rename_i z' b o len k n he1 he2
      rw [he1] at hx
      rw [he2] at hy
      obtain rfl := hy.int_inv
      obtain ⟨cap, rfl, _, _⟩ := hx.slice_inv
      split at hq
      · rename_i hb
        obtain ⟨rfl, hb0, hb1⟩ := hb
        simp only [Option.some.injEq] at hq
        subst hq
        refine ⟨_, ?_, .ptr _ _⟩
        simp [Instr.indexAt, asIntOf, run_underlying hu, hb0, hb1, run_sizeOf hz, Addr.add_none]
      · simp at hq
    · simp at hq
  · rename_i n e hu
    simp only [Option.map_eq_some_iff] at hl
    obtain ⟨z, hz, rfl⟩ := hl
    simp only [quietI, quietV] at hq
    have hrun : ∀ B o k (m : Int), 0 ≤ m → m < n → (Instr.indexAt t (.pointer (some ⟨B, o, none⟩)) (.int k m)).run P w = .ok (.pointer (some ⟨B, o + m.toNat * z, none⟩)) w := fun B o k m h0 h1 => by
      simp [Instr.indexAt, asIntOf, run_underlying hu, Instr.sureAddr, h0, h1, run_sizeOf hz, Addr.add_none]
    unfold ixpA at hq
    split at hq
    · rename_i b o k m he1 he2
      rw [he1] at hx
      rw [he2] at hy
      obtain rfl := hy.int_inv
      obtain rfl := hx.ptr_inv
      split at hq
      · rename_i hb
        simp only [Option.some.injEq] at hq
        subst hq
        exact ⟨_, hrun _ _ _ _ hb.1 hb.2, .ptr _ _⟩
      · simp at hq
    · rename_i cs k m he1 he2
      rw [he1] at hx
      rw [he2] at hy
      obtain rfl := hy.int_inv
      obtain ⟨B, off, cv, rfl, h1, h2⟩ := hx.rptr_inv
      split at hq
      · rename_i hb
        simp only [Option.some.injEq] at hq
        subst hq
        refine ⟨_, hrun _ _ _ _ hb.1 hb.2, .rptr _ _ _ (fun j => cv (m.toNat * z + j)) (fun j c hc => h1 _ _ (by simpa [List.getElem?_drop] using hc)) fun j hj => ?_⟩
        have := h2 (m.toNat * z + j) (by simp at hj; omega)
        simpa [Nat.add_assoc] using this
      · simp at hq
    · simp at hq
  · simp at hl

end
end Go.Scr
