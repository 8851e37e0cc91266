/- What turns memory keeps the relation: part 16 of a program logic over the model: append, and stores into maps. No condition but that the operation was lowered to the instruction. -/
import Derived.Test.YtagjgpkomcmkbaaGreatDoorEcoreO
namespace Go.Scr
open Go

section
variable {X : Ctx} {I : Imm} {σ : AH} {w : World} {a : AAct} {A : Act}

theorem ones_of {xs : List AV} {vs : Array Value} (h : VRels w I xs vs) (h1 : xs.all AV.one = true) : ∀ u ∈ vs.toList, u.oneCell' = true := fun u hu => by
  obtain ⟨i, hi⟩ := List.getElem?_of_mem hu
  have hlt : i < xs.length := by rw [h.1]; have := (List.getElem?_eq_some_iff.1 hi).1; simpa using this
  have hxi := h.2 i _ (List.getElem?_eq_getElem hlt)
  have : vs.getD i undef = u := by
    rw [Array.getD_eq_getD_getElem?]
    have : vs[i]? = some u := by simpa using hi
    rw [this]; rfl
  rw [this] at hxi
  exact hxi.oneCell (List.all_eq_true.1 h1 _ (List.getElem_mem hlt))

theorem AH.set_drop (σ : AH) (b : Nat) (o : AObj) : (σ.drop b).set b o = σ.set b o := by
  unfold AH.set AH.drop
  congr 1
  funext x
  by_cases h : x = b <;> simp [h]

theorem VRels.toPRel {xs : List AV} {c rest : Array Value} (h : VRels w I xs c) : PRel w I xs (c ++ rest) :=
  ⟨by rw [h.1]; simp, fun i v hv => by
    have hlt : i < c.size := by rw [← h.1]; exact (List.getElem?_eq_some_iff.1 hv).1
    have := h.2 i v hv
    rw [Array.getD_eq_getD_getElem?] at this ⊢
    rwa [Array.getElem?_append_left hlt]⟩

theorem VRels.append {xs ys : List AV} {c d : Array Value} (h : VRels w I xs c) (h' : VRels w I ys d) : VRels w I (xs ++ ys) (c ++ d) :=
  ⟨by simp [h.1, h'.1], fun i v hv => by
    rw [List.getElem?_append] at hv
    rw [Array.getD_eq_getD_getElem?, Array.getElem?_append]
    split at hv
    · rename_i hi
      rw [if_pos (by rw [← h.1]; exact hi)]
      have := h.2 i v hv
      rwa [Array.getD_eq_getD_getElem?] at this
    · rename_i hi
      rw [if_neg (by rw [← h.1]; exact hi), ← h.1]
      have := h'.2 _ v hv
      rwa [Array.getD_eq_getD_getElem?] at this⟩

theorem flat_append (xs ys : List AV) : AV.flat (xs ++ ys) = AV.flat xs ++ AV.flat ys := by simp [AV.flat]

theorem did_append (hr : Rel X I σ w) (ha : ARel w I a A) {dst : Option Nat} (hd : ∀ d, dst = some d → d < a.n) {mode : Nat} {ag : Bool} {z bytes : Nat} {zero : AV} {t u ty e : TypeId} (ht : X.P.underlying t = some (.slice e))
    (hu : X.P.underlying u = some (.slice e)) (hz : sizeP X.P e = some z) (hby : bytesP X.P e = some bytes) (hzero : zeroP X.P e = some zero) (hbp : 0 < bytes) (hzl : zero.cells.length = z) (hagz : ag = true ∨ z = 1)
    {x y : AV} {cx cy : Value} (hx : VRel w I x cx) (hy : VRel w I y cy) {ys : List AV} (hel : elemsA σ ag z y = some ys) (hone : (AV.flat ys).all AV.one = true) {K : AAct → AH → Prop}
    (hs : appendA mode z bytes x ys σ fun v σ' => K (a.put dst v) σ') : Did X I w A dst K ((do pure (Next.value (← Builtin.append_ #[t, u] ty #[cx, cy])) : Sem Next).run X.P w) := by
  obtain ⟨news, hn, hnv, hyz⟩ := run_elems hr hagz hel hy
  obtain ⟨hl, hf⟩ := hn X.P w fun _ => rfl
  obtain ⟨hl', hf'⟩ := hn X.P w.drew fun _ => rfl
  have hnlen : news.size = ys.length * z := by rw [← hnv.1, length_flat hyz]
  have fin : ∀ {cv : Value} {w' : World} (v : AV) (I' : Imm) (σ' : AH), (Builtin.append_ #[t, u] ty #[cx, cy]).run X.P w = .ok cv w' → K (a.put dst v) σ' → Rel X I' σ' w' → Ext I w I' w' → VRel w' I' v cv →
      Did X I w A dst K ((do pure (Next.value (← Builtin.append_ #[t, u] ty #[cx, cy])) : Sem Next).run X.P w) := fun {cv w'} v I' σ' k0 k1 k2 k3 k4 =>
    ⟨cv, w', I', _, _, .inl (by simp only [Sem.run_bind, k0, Result.andThen_ok, Sem.run_pure]), k1, k2, (ha.ext k3).put hd k4, k3⟩
  -- a new row of one's own, as a list
  have newL : ∀ {base : Option Addr} {n cap₀ : Nat} {xs : List AV} {old : Array Value} (σ₁ : AH), Rel X I σ₁ w → cx = .slice base n cap₀ → cap₀ < n + ys.length → xs.length = n → (∀ x ∈ xs, x.cells.length = z) → VRels w I (AV.flat xs) old →
      (Builtin.firstCells z n (.slice base n cap₀)).run X.P w.drew = .ok old w.drew → (n + ys.length) * bytes ≤ 140737488355328 →
      (∀ b, σ₁.fresh b → K (a.put dst (.list z (some (b, (n + ys.length) * z)) (xs ++ ys))) (σ₁.own b ((n + ys.length) * z))) →
      Did X I w A dst K ((do pure (Next.value (← Builtin.append_ #[t, u] ty #[cx, cy])) : Sem Next).run X.P w) := by
    intro base n cap₀ xs old σ₁ hr₁ hcx hg hxl hxz hxv hold hb hk
    obtain ⟨rest, cap, h1, h2, h3⟩ := run_append_new (ty := ty) ht hu hz hby hbp hl hf' hold hzero hg hb
    have hcs : VRels w I (AV.flat (xs ++ ys)) (old ++ news) := by rw [flat_append]; exact hxv.append hnv
    have hall : ∀ x ∈ xs ++ ys, x.cells.length = z := fun x hx => by
      rcases List.mem_append.1 hx with h | h
      · exact hxz x h
      · exact hyz x h
    have hlen : (AV.flat (xs ++ ys)).length = (n + ys.length) * z := by rw [length_flat hall, List.length_append, hxl]
    have hp := hcs.toPRel (rest := rest)
    obtain ⟨I', r1, x1, i1⟩ := hr₁.drew.newList (c := old ++ news ++ rest) (e := e) hp.1 true
    have xx : Ext I w I' (w.drew.alloc (.cells (old ++ news ++ rest) e)) := (Ext.drew I w).trans x1
    rw [hlen] at r1
    refine fin _ I' _ (by rw [hcx]; exact h3) (hk w.heap.size hr₁.fresh) r1 xx ?_
    have hp' : ∀ i v, (AV.flat (xs ++ ys))[i]? = some v → VRel w.drew I v ((old ++ news ++ rest).getD i undef) := fun i v hv => (hp.2 i v hv).ext (Ext.drew _ _)
    have hsz : cap * z ≤ (old ++ news ++ rest).size := by
      have e1 : (old ++ news).size = (n + ys.length) * z := by rw [← hcs.1, hlen]
      rw [Array.size_append, e1, h2 hzl, ← Nat.add_mul]
      exact Nat.mul_le_mul_right z (by omega)
    exact newList_rel (w := w.drew) (z := z) (n := n + ys.length) hp.1 hp' x1 i1 hall rfl (by simp [hxl]) h1 hsz true
  -- and as cells that may be written
  have newM : ∀ {base : Option Addr} {n cap₀ : Nat} {xs : List AV} {old : Array Value} (σ₁ : AH), Rel X I σ₁ w → cx = .slice base n cap₀ → cap₀ < n + ys.length → xs.length = n * z → VRels w I xs old →
      (Builtin.firstCells z n (.slice base n cap₀)).run X.P w.drew = .ok old w.drew → (n + ys.length) * bytes ≤ 140737488355328 →
      (∀ b, σ₁.fresh b → K (a.put dst (.slice z b 0 (n + ys.length))) (σ₁.set b (.cells (xs ++ AV.flat ys)))) →
      Did X I w A dst K ((do pure (Next.value (← Builtin.append_ #[t, u] ty #[cx, cy])) : Sem Next).run X.P w) := by
    intro base n cap₀ xs old σ₁ hr₁ hcx hg hxl hxv hold hb hk
    obtain ⟨rest, cap, h1, h2, h3⟩ := run_append_new (ty := ty) ht hu hz hby hbp hl hf' hold hzero hg hb
    have hcs : VRels w I (xs ++ AV.flat ys) (old ++ news) := hxv.append hnv
    have hlen : (xs ++ AV.flat ys).length = (n + ys.length) * z := by rw [List.length_append, hxl, length_flat hyz, Nat.add_mul]
    have hp := hcs.toPRel (rest := rest)
    have r1 := hr₁.drew.newCells (c := old ++ news ++ rest) (e := e) hp.1 (fun i v hv => (hp.2 i v hv).ext (Ext.drew _ _))
    have x1 : Ext I w I (w.drew.alloc (.cells (old ++ news ++ rest) e)) := (Ext.drew I w).trans (Ext.alloc hr₁.drew _)
    refine fin _ I _ (by rw [hcx]; exact h3) (hk w.heap.size hr₁.fresh) r1 x1 (.slice _ _ _ _ _ h1 ⟨e, (old ++ news ++ rest).size, shape_alloc_new w.drew _ _, ?_⟩)
    have e1 : (old ++ news).size = (n + ys.length) * z := by rw [← hcs.1, hlen]
    rw [Array.size_append, e1, h2 hzl, ← Nat.add_mul, Nat.zero_add]
    exact Nat.mul_le_mul_right z (by omega)
  unfold appendA at hs
  split at hs
  · -- nil
    obtain rfl := hx.nil_inv
    split at hs
    · rename_i hys
      subst hys
      exact fin .nil I σ (run_append_fit (w' := w) ht hu hz hl hf (Nat.le_refl _) rfl) hs hr (Ext.refl _ _) .nil
    · rename_i hys
      obtain ⟨hb, hk⟩ := hs
      have hyl : 0 < ys.length := List.length_pos_iff.2 hys
      have hold : (Builtin.firstCells z 0 (.slice none 0 0)).run X.P w.drew = .ok #[] w.drew := by simp [Builtin.firstCells]
      split at hk
      · exact newM (xs := []) (old := #[]) σ hr rfl (by omega) (by simp) ⟨rfl, fun i c hc => by simp at hc⟩ hold (by rw [Nat.zero_add]; exact hb) (by simpa using hk)
      · exact newL (xs := []) (old := #[]) σ hr rfl (by omega) rfl (by simp) ⟨rfl, fun i c hc => by simp [AV.flat] at hc⟩ hold (by rw [Nat.zero_add]; exact hb) (by simpa using hk)
  · -- a list whose tail is its own
    rename_i z' tok xs
    obtain ⟨rfl, hs⟩ := hs
    split at hs
    · rename_i tk B e₀
      obtain ⟨htip, hb, hk⟩ := hs
      obtain ⟨B', off, cap, cv, rfl, g1, g2, g3, g4, g5⟩ := hx.list_inv
      obtain ⟨hBe, e', sz, hsh, hfit⟩ := g5 _ rfl
      simp only [Prod.mk.injEq] at hBe
      obtain ⟨rfl, rfl⟩ := hBe
      obtain ⟨hB0, c, tt, f, c1, c2, c3, c4⟩ := hr.tips _ _ htip
      have hcsz : off + cap * z ≤ c.size := by
        simp only [World.shape?, c1, Option.some.injEq, Prod.mk.injEq] at hsh
        omega
      by_cases hfitc : xs.length + ys.length ≤ cap
      · -- in place
        have hmul : (xs.length + ys.length) * z ≤ cap * z := Nat.mul_le_mul_right z hfitc
        rw [Nat.add_mul] at hmul
        have hst := run_storeRow X.P B (off + xs.length * z) tt f news.toList 0 c w c1 (by simp; omega) (fun j hj1 hj2 => c3 j (by omega) (by simp at hj2; omega)) (ones_of hnv hone)
        simp only [Nat.add_zero, Array.length_toList] at hst
        have hrun := run_append_fit (ty := ty) ht hu hz (base := some ⟨B, off, none⟩) hl hf hfitc (w' := _) (by simp only [Addr.add_none]; exact hst)
        generalize hc' : (c.toList.take (off + xs.length * z) ++ news.toList ++ c.toList.drop (off + xs.length * z + news.size)).toArray = c' at hst hrun
        have hsize : c'.size = c.size := by rw [← hc']; simp; omega
        have hlo : ∀ i, i < off + xs.length * z → c'[i]? = c[i]? := fun i hi => by
          rw [← hc', List.getElem?_toArray, List.append_assoc, List.getElem?_append_left (by simp; omega), List.getElem?_take, if_pos hi]
          simp
        have hmid : ∀ i, i < news.size → c'[off + xs.length * z + i]? = news[i]? := fun i hi => by
          have hl2 : (c.toList.take (off + xs.length * z)).length = off + xs.length * z := by rw [List.length_take]; simp; omega
          rw [← hc', List.getElem?_toArray, List.append_assoc, List.getElem?_append_right (by rw [hl2]; omega), hl2, Nat.add_sub_cancel_left, List.getElem?_append_left (by simpa using hi)]
          simp
        let I' : Imm := fun b i => I b i ∨ (b = B ∧ off + xs.length * z ≤ i ∧ i < off + (xs.length + ys.length) * z)
        have x1 : Ext I w I' (rowOf w B c' tt f) :=
          ⟨fun b i hi => ⟨.inl hi, by
            by_cases hbB : b = B
            · subst hbB
              rw [cell_of_row _ _ _ _ _ _ c1, cell_of_row _ _ _ _ _ _ (rowOf_same c1 _ _ _)]
              exact hlo i (Nat.lt_of_not_le fun hle => c4 i hle hi)
            · simp only [World.cell?, rowOf_other hbB]⟩, fun _ _ h => shape_rowOf c1 hsize h⟩
        have hmulz : (xs.length + ys.length) * z = xs.length * z + ys.length * z := Nat.add_mul _ _ _
        have hheapB : σ.heap B = none := by
          cases ho : σ.heap B with
          | none => rfl
          | some o => have := (hr.obj _ _ ho).2.1; rw [htip] at this; simp at this
        have r1 : Rel X I' ((σ.disown B).own B (off + (xs.length + ys.length) * z)) (rowOf w B c' tt f) := by
          refine hr.next x1 (fun b o ho => ?_) (fun b e₁ he => ?_) (fun b i hi => ?_) (by simp [rowOf]) (fun b hb => rowOf_other (by omega) _ _ _) rfl rfl rfl
          · have ho' : σ.heap b = some o := ho
            have hbB : b ≠ B := fun h => by rw [h, hheapB] at ho'; simp at ho'
            refine .inl ⟨ho', rowOf_other hbB _ _ _, fun i hi => ?_, by simp [AH.own, AH.disown, hbB]⟩
            rcases hi with hi | ⟨hi, _⟩
            · exact hi
            · exact absurd hi hbB
          · by_cases hbB : b = B
            · subst hbB
              simp only [AH.own, if_true, Option.some.injEq] at he
              subst he
              refine .inr ⟨hB0, c', tt, f, rowOf_same c1 _ _ _, by omega, fun i hi hi' => c3 i (by omega) (by omega), fun i hi hI => ?_⟩
              rcases hI with hI | ⟨_, _, hI⟩
              · exact c4 i (by omega) hI
              · omega
            · have he' : σ.tip b = some e₁ := by simpa [AH.own, AH.disown, hbB] using he
              refine .inl ⟨he', rowOf_other hbB _ _ _, fun i hi => ?_⟩
              rcases hi with hi | ⟨hi, _⟩
              · exact hi
              · exact absurd hi hbB
          · rcases hi with hi | ⟨rfl, h1, h2⟩
            · exact .inl hi
            · refine .inr ⟨c'[i]'(by omega), ?_⟩
              rw [cell_of_row _ _ _ _ _ _ (rowOf_same c1 _ _ _)]
              exact Array.getElem?_eq_getElem (by omega)
        refine fin _ I' _ hrun (hk B (off + (xs.length + ys.length) * z) (.inl rfl)) r1 x1 ?_
        have hall : ∀ x ∈ xs ++ ys, x.cells.length = z := fun x hx => by
          rcases List.mem_append.1 hx with h | h
          · exact g1 x h
          · exact hyz x h
        rw [← List.length_append]
        refine .list _ _ _ _ _ _ (fun i => c'.getD (off + i) undef) hall (fun i v hv => ?_) (fun i hi => ?_) (by rw [List.length_append]; exact hfitc) fun t ht => ?_
        · rw [flat_append, List.getElem?_append] at hv
          split at hv
          · rename_i hi
            rw [length_flat g1] at hi
            have hcell := (g3 i hi).2
            rw [cell_of_row _ _ _ _ _ _ c1] at hcell
            have : c'.getD (off + i) undef = cv i := by rw [Array.getD_eq_getD_getElem?, hlo _ (by omega), hcell]; rfl
            rw [this]
            exact (g2 i v hv).ext x1
          · rename_i hi
            rw [length_flat g1] at hi hv
            have hlt : i - xs.length * z < news.size := by rw [hnlen, ← length_flat hyz]; exact (List.getElem?_eq_some_iff.1 hv).1
            have := hnv.2 _ v hv
            have e1 : c'.getD (off + i) undef = news.getD (i - xs.length * z) undef := by
              rw [Array.getD_eq_getD_getElem?, Array.getD_eq_getD_getElem?, ← hmid _ hlt, show off + xs.length * z + (i - xs.length * z) = off + i by omega]
            rw [e1]
            exact this.ext x1
        · rw [List.length_append] at hi
          refine ⟨?_, ?_⟩
          · by_cases hi2 : i < xs.length * z
            · exact .inl (g3 i hi2).1
            · exact .inr ⟨rfl, by omega, by omega⟩
          · rw [cell_of_row _ _ _ _ _ _ (rowOf_same c1 _ _ _), Array.getD_eq_getD_getElem?, Array.getElem?_eq_getElem (by omega)]
            rfl
        · simp only [Option.some.injEq] at ht
          subst ht
          exact ⟨by rw [List.length_append], tt, c'.size, by simp [World.shape?, rowOf_same c1], by omega⟩
      · -- a new row
        have hold : (Builtin.firstCells z xs.length (.slice (some ⟨B, off, none⟩) xs.length cap)).run X.P w.drew = .ok ((List.range (xs.length * z)).map cv).toArray w.drew := by
          simp only [Builtin.firstCells]
          exact run_loadCells w.drew ⟨B, off, none⟩ _ cv fun j hj => by rw [Addr.add_none]; exact (g3 j hj).2
        refine newL (xs := xs) (σ.disown B) (hr.disown B) rfl (by omega) rfl g1 ⟨by rw [length_flat g1]; simp, fun i c hc => ?_⟩ hold hb (fun b hfb => hk b _ ?_)
        · have hlt : i < xs.length * z := by rw [← length_flat g1]; exact (List.getElem?_eq_some_iff.1 hc).1
          have := g2 i c hc
          simpa [Array.getD_eq_getD_getElem?, hlt] using this
        · by_cases hbB : b = B
          · exact .inl hbB
          · refine .inr ⟨hfb.1, ?_⟩
            have := hfb.2
            simpa [AH.disown, hbB] using this
    · exact hs.elim
  · -- cells that may be written
    rename_i z' b₀ o n
    obtain ⟨rfl, rfl, hs⟩ := hs
    split at hs
    · rename_i vs hvs
      obtain ⟨hle, hb, hk⟩ := hs
      obtain ⟨cap, rfl, hcap, e', sz, hsh, hfit⟩ := hx.slice_inv
      obtain ⟨c, tt, f, c1, c2, c3, c4⟩ := (hr.obj _ _ hvs).2.2.cells_inv
      have hcsz : cap * z ≤ c.size := by
        simp only [World.shape?, c1, Option.some.injEq, Prod.mk.injEq] at hsh
        omega
      by_cases hfitc : n + ys.length ≤ cap
      · have hmul : (n + ys.length) * z ≤ cap * z := Nat.mul_le_mul_right z hfitc
        rw [Nat.add_mul] at hmul
        have hst := run_storeRow X.P b₀ (0 + n * z) tt f news.toList 0 c w c1 (by simp; omega) (fun j hj1 hj2 => c3 j (by simp at hj2; omega)) (ones_of hnv hone)
        simp only [Nat.add_zero, Array.length_toList] at hst
        have hrun := run_append_fit (ty := ty) ht hu hz (base := some ⟨b₀, 0, none⟩) hl hf hfitc (w' := _) (by simp only [Addr.add_none]; exact hst)
        have hp := c2.splice hnv (n * z) hle [] (fun i v hv => by simp at hv) (by rw [← hnlen] at hmul; rw [hnv.1]; simp; omega)
        rw [List.append_nil] at hp
        simp only [Nat.zero_add] at hrun
        obtain ⟨r1, x1⟩ := hr.rowSet hvs c1 (c' := (c.toList.take (n * z) ++ news.toList ++ c.toList.drop (n * z + news.size)).toArray) (by simp; omega) hp
        refine fin _ I _ hrun (hk b₀ (.inl rfl)) (by rw [AH.set_drop]; exact r1) x1 (.slice _ _ _ _ _ hfitc ⟨e', sz, x1.shape _ _ hsh, by omega⟩)
      · obtain ⟨cv, hcv⟩ := (hr.obj _ _ hvs).2.2.cell
        have hold : (Builtin.firstCells z n (.slice (some ⟨b₀, 0, none⟩) n cap)).run X.P w.drew = .ok ((List.range (n * z)).map cv).toArray w.drew := by
          simp only [Builtin.firstCells]
          exact run_loadCells w.drew ⟨b₀, 0, none⟩ _ cv fun j hj => by
            rw [Addr.add_none, Nat.zero_add]
            exact (hcv j _ (List.getElem?_eq_getElem (by omega))).1
        refine newM (xs := vs.take (n * z)) (σ.drop b₀) (hr.drop b₀) rfl (by omega) (by simp; omega) ⟨by simp; omega, fun i c hc => ?_⟩ hold hb (fun b hfb => hk b ?_)
        · rw [List.getElem?_take] at hc
          split at hc
          · rename_i hi
            have := (hcv i c hc).2
            simpa [Array.getD_eq_getD_getElem?, hi] using this
          · simp at hc
        · by_cases hbB : b = b₀
          · exact .inl hbB
          · refine .inr ⟨?_, hfb.2⟩
            have := hfb.1
            simpa [AH.drop, hbB] using this
    · exact hs.elim
  · exact hs.elim

end
end Go.Scr
