/- What turns memory keeps the relation: part 15 of a program logic over the model: append. No condition but that the operation was lowered to the instruction. -/
import Derived.Test.YtagjgpkomcmkbaaGreatDoorEcoreN
namespace Go.Scr
open Go

section
variable {X : Ctx} {I : Imm} {σ : AH} {w : World} {a : AAct} {A : Act}

/-- The cells of the elements of a slice that is read. -/
theorem run_elems (hr : Rel X I σ w) {ag : Bool} {z : Nat} (hagz : ag = true ∨ z = 1) {y : AV} {ys : List AV} (h : elemsA σ ag z y = some ys) {cy : Value} (hy : VRel w I y cy) :
    ∃ news : Array Value, (∀ (P : Program) (w' : World), (∀ p, w'.cell? p = w.cell? p) → (Builtin.lenOf cy).run P w' = .ok ys.length w' ∧ (Builtin.firstCells z ys.length cy).run P w' = .ok news w') ∧
      VRels w I (AV.flat ys) news ∧ ∀ x ∈ ys, x.cells.length = z := by
  have load : ∀ (b o n : Nat) (cv : Nat → Value) (P : Program) (w' : World), (∀ p, w'.cell? p = w.cell? p) → (∀ j, j < n → w.cell? ⟨b, o + j, none⟩ = some (cv j)) →
      (loadCells ⟨b, o, none⟩ n).run P w' = .ok ((List.range n).map cv).toArray w' := fun b o n cv P w' hw hc =>
    run_loadCells w' ⟨b, o, none⟩ n cv fun j hj => by rw [Addr.add_none, hw]; exact hc j hj
  unfold elemsA at h
  split at h
  · simp only [Option.some.injEq] at h
    subst h
    obtain rfl := hy.nil_inv
    exact ⟨#[], fun P w' hw => ⟨by simp [Builtin.lenOf], by simp [Builtin.firstCells]⟩, ⟨rfl, fun i c hc => by simp [AV.flat] at hc⟩, by simp⟩
  · rename_i z' tok xs
    split at h
    · rename_i hz
      subst hz
      simp only [Option.some.injEq] at h
      subst h
      obtain ⟨B, off, cap, cv, rfl, g1, g2, g3, g4, g5⟩ := hy.list_inv
      refine ⟨((List.range (xs.length * z)).map cv).toArray, fun P w' hw => ⟨by simp [Builtin.lenOf], ?_⟩, ⟨by rw [length_flat g1]; simp, fun i c hc => ?_⟩, g1⟩
      · simp only [Builtin.firstCells]
        exact load B off _ cv P w' hw fun j hj => (g3 j hj).2
      · have hlt : i < xs.length * z := by rw [← length_flat g1]; exact (List.getElem?_eq_some_iff.1 hc).1
        have := g2 i c hc
        simpa [Array.getD_eq_getD_getElem?, hlt] using this
    · simp at h
  · rename_i z' b o n
    split at h
    · rename_i hz
      subst hz
      split at h
      · rename_i vs hb
        split at h
        · rename_i hc
          obtain ⟨hle, hg⟩ := hc
          simp only [Option.some.injEq] at h
          subst h
          obtain ⟨cap, rfl, _⟩ := hy.slice_inv
          obtain ⟨cv, hcv⟩ := (hr.obj b _ hb).2.2.cell
          have hg' : grpOk ag (vs.drop o) = true := by
            unfold grpOk at hg ⊢
            rw [Bool.or_eq_true] at hg ⊢
            rcases hg with h | h
            · exact .inl h
            · exact .inr (List.all_eq_true.2 fun x hx => List.all_eq_true.1 h x (List.mem_of_mem_drop hx))
          obtain ⟨g1, g2, g3⟩ := flat_group hagz n (vs.drop o) (by simp; omega) hg'
          refine ⟨((List.range (n * z)).map fun j => cv (o + j)).toArray, fun P w' hw => ⟨by simp [Builtin.lenOf, g2], ?_⟩, ⟨by rw [length_flat g3, g2]; simp, fun i c hc => ?_⟩, g3⟩
          · simp only [Builtin.firstCells, g2]
            exact load b o _ _ P w' hw fun j hj => (hcv (o + j) _ (List.getElem?_eq_getElem (by omega))).1
          · rw [g1, List.getElem?_take] at hc
            split at hc
            · rename_i hi
              rw [List.getElem?_drop] at hc
              have := (hcv (o + i) c hc).2
              simpa [Array.getD_eq_getD_getElem?, hi] using this
            · simp at hc
        · simp at h
      · simp at h
    · simp at h
  · simp at h

theorem run_append_fit {P : Program} {t u ty e : TypeId} {z : Nat} (ht : P.underlying t = some (.slice e)) (hu : P.underlying u = some (.slice e)) (hz : sizeP P e = some z) {base : Option Addr} {sLen sCap m : Nat} {cy : Value}
    {news : Array Value} (hl : (Builtin.lenOf cy).run P w = .ok m w) (hf : (Builtin.firstCells z m cy).run P w = .ok news w) (hfit : sLen + m ≤ sCap) {w' : World}
    (hst : match base with | some p => (storeCells (p.add (sLen * z)) news.toList).run P w = .ok () w' | none => w' = w) :
    (Builtin.append_ #[t, u] ty #[.slice base sLen sCap, cy]).run P w = .ok (.slice base (sLen + m) sCap) w' := by
  cases base with
  | none =>
    simp only at hst
    subst hst
    simp [Builtin.append_, run_underlying ht, run_underlying hu, run_sizeOf hz, hl, hfit, hf]
  | some p =>
    simp only at hst
    simp [Builtin.append_, run_underlying ht, run_underlying hu, run_sizeOf hz, hl, hfit, hf, hst]

theorem run_append_new {P : Program} {t u ty e : TypeId} {z bytes : Nat} {zero : AV} (ht : P.underlying t = some (.slice e)) (hu : P.underlying u = some (.slice e)) (hz : sizeP P e = some z) (hby : bytesP P e = some bytes) (hbp : 0 < bytes)
    {base : Option Addr} {sLen sCap m : Nat} {cy : Value} {old news : Array Value} (hl : (Builtin.lenOf cy).run P w = .ok m w) (hf : (Builtin.firstCells z m cy).run P w.drew = .ok news w.drew)
    (hold : (Builtin.firstCells z sLen (.slice base sLen sCap)).run P w.drew = .ok old w.drew) (hzero : zeroP P e = some zero) (hg : sCap < sLen + m) (hb : (sLen + m) * bytes ≤ 140737488355328) :
    ∃ rest : Array Value, ∃ cap : Nat, sLen + m ≤ cap ∧ (zero.cells.length = z → rest.size = (cap - (sLen + m)) * z) ∧
      (Builtin.append_ #[t, u] ty #[.slice base sLen sCap, cy]).run P w = .ok (.slice (some ⟨w.heap.size, 0, none⟩) (sLen + m) cap) (w.drew.alloc (.cells (old ++ news ++ rest) e)) := by
  obtain ⟨i, hi, hib⟩ := run_bytes hby
  obtain ⟨zv, q1, q2⟩ := run_zeroValue hzero w.drew (fun _ _ => False)
  refine ⟨Builtin.zeroCells zv.cells (grownCap w (sLen + m) sCap e - (sLen + m)), grownCap w (sLen + m) sCap e, grownCap_ge _ _ _ _, fun hzl => ?_, ?_⟩
  · rw [size_zeroCells, ← (q2.cells (zeroP_ok hzero)).1, hzl]
  · have hn : ¬ (sLen + m ≤ sCap) := by omega
    have hle : sLen + m ≤ 140737488355328 := Nat.le_trans (Nat.le_mul_of_pos_right _ hbp) hb
    have h63 : ¬ (9223372036854775807 < ((sLen : Int) + (m : Int))) := by omega
    have h48 : ¬ (281474976710656 < Builtin.nextslicecap (sLen + m) sCap * bytes) := by have := growslice_fits hg hb; omega
    have hb0 : ¬ bytes = 0 := by omega
    simp [Builtin.append_, run_underlying ht, run_underlying hu, run_sizeOf hz, hl, hn, typeInfo, hi, hib, h63, h48, Question.forced, hold, hf, q1, newRow, grownCap]

theorem World.cell?_drew' (w : World) (p : Addr) : w.drew.cell? p = w.cell? p := rfl

theorem Ext.drew (I : Imm) (w : World) : Ext I w I w.drew := ⟨fun _ _ h => ⟨h, rfl⟩, fun _ _ h => h⟩
theorem Rel.drew (h : Rel X I σ w) : Rel X I σ w.drew :=
  h.next (Ext.drew _ _) (fun _ _ ho => .inl ⟨ho, rfl, fun _ hi => hi, rfl⟩) (fun _ _ ht => .inl ⟨ht, rfl, fun _ hi => hi⟩) (fun _ _ hi => .inl hi) (Nat.le_refl _) (fun _ _ => rfl) rfl rfl rfl
theorem Rel.disown (h : Rel X I σ w) (B : Nat) : Rel X I (σ.disown B) w :=
  h.next (Ext.refl _ _) (fun b o ho => by
    have ho' : σ.heap b = some o := ho
    by_cases hb : b = B
    · subst hb
      obtain ⟨p1, p2, p3⟩ := h.obj b o ho'
      exact .inr ⟨p1, by simp [AH.disown], p3⟩
    · exact .inl ⟨ho', rfl, fun _ hi => hi, by simp [AH.disown, hb]⟩) (fun b e ht => by
    simp only [AH.disown] at ht
    split at ht
    · simp at ht
    · exact .inl ⟨ht, rfl, fun _ hi => hi⟩) (fun _ _ hi => .inl hi) (Nat.le_refl _) (fun _ _ => rfl) rfl rfl rfl

end
end Go.Scr
