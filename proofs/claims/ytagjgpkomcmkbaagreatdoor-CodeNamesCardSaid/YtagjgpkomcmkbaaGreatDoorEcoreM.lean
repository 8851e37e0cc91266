/- What turns memory keeps the relation: part 13 of a program logic over the model: stores, new variables, new rows. No condition but that the operation was lowered to the instruction. -/
import Derived.Test.YtagjgpkomcmkbaaGreatDoorEcoreL
namespace Go.Scr
open Go

section
variable {X : Ctx} {I : Imm} {σ : AH} {w : World} {a : AAct} {A : Act}

/-- What an operation that turns memory comes to. -/
def Did (X : Ctx) (I : Imm) (w : World) (A : Act) (dst : Option Nat) (K : AAct → AH → Prop) (r : Result Next) : Prop :=
  ∃ v w' I' a' σ', (r = .ok (.value v) w' ∨ (r = .ok .skip w' ∧ v = undef)) ∧ K a' σ' ∧ Rel X I' σ' w' ∧ ARel w' I' a' (A.put dst v) ∧ Ext I w I' w'

theorem VRel.oneCell {x : AV} {v : Value} (h : VRel w I x v) (ho : x.one = true) : v.oneCell' = true := by
  cases h <;> simp_all [AV.one, Value.oneCell']

/-- The first cells of a row. -/
def PRel (w : World) (I : Imm) (xs : List AV) (c : Array Value) : Prop := xs.length ≤ c.size ∧ ∀ i v, xs[i]? = some v → VRel w I v (c.getD i undef)

theorem PRel.splice {cs : List AV} {ccs : Array Value} (h : PRel w I cs ccs) {xs : List AV} {vs : Array Value} (hx : VRels w I xs vs) (off : Nat) (hle : off ≤ cs.length) (tl : List AV)
    (htl : ∀ i v, tl[i]? = some v → VRel w I v (ccs.getD (off + xs.length + i) undef)) (hlen : off + xs.length + tl.length ≤ ccs.size) :
    PRel w I (cs.take off ++ xs ++ tl) (ccs.toList.take off ++ vs.toList ++ ccs.toList.drop (off + vs.size)).toArray := by
  obtain ⟨h1, h2⟩ := h
  obtain ⟨h3, h4⟩ := hx
  refine ⟨by simp; omega, fun i c hc => ?_⟩
  rw [Array.getD_eq_getD_getElem?, List.getElem?_toArray]
  rw [List.append_assoc, List.getElem?_append] at hc ⊢
  simp only [List.length_take, Array.length_toList] at hc ⊢
  rw [Nat.min_eq_left (by omega)] at hc
  rw [Nat.min_eq_left (by omega)]
  split
  · rename_i hi
    rw [if_pos hi, List.getElem?_take, if_pos hi] at hc
    rw [List.getElem?_take, if_pos hi]
    simpa [Array.getD_eq_getD_getElem?] using h2 i c hc
  · rename_i hi
    rw [if_neg hi] at hc
    rw [List.getElem?_append] at hc ⊢
    simp only [Array.length_toList]
    split
    · rename_i hj
      rw [if_pos (by omega)] at hc
      simpa [Array.getD_eq_getD_getElem?] using h4 _ c hc
    · rename_i hj
      rw [if_neg (by omega)] at hc
      rw [List.getElem?_drop]
      have := htl _ c hc
      rw [Array.getD_eq_getD_getElem?] at this
      rw [show off + vs.size + (i - off - vs.size) = off + xs.length + (i - off - xs.length) by omega]
      simpa using this

theorem shape_rowOf {b : Nat} {c c' : Array Value} {e : TypeId} {f : Nat × Nat} (hb : w.heap[b]? = some (.cells c e f)) (hs : c'.size = c.size) {b' : Nat} {s : TypeId × Nat} (h : w.shape? b' = some s) :
    (rowOf w b c' e f).shape? b' = some s := by
  by_cases hbb : b' = b
  · subst hbb
    simp only [World.shape?, hb] at h
    simp only [World.shape?, rowOf_same hb, hs]
    exact h
  · simp only [World.shape?, rowOf_other hbb] at h ⊢
    exact h

theorem Ext.rowOf {b : Nat} {c c' : Array Value} {e : TypeId} {f : Nat × Nat} (hb : w.heap[b]? = some (.cells c e f)) (hs : c'.size = c.size) (hI : ∀ i, I b i → c'[i]? = c[i]?) : Ext I w I (rowOf w b c' e f) :=
  ⟨fun b' i hi => ⟨hi, by
      by_cases hbb : b' = b
      · subst hbb
        rw [cell_of_row _ _ _ _ _ _ hb, cell_of_row _ _ _ _ _ _ (rowOf_same hb _ _ _)]
        exact hI i hi
      · simp only [World.cell?, rowOf_other hbb]⟩, fun _ _ h => shape_rowOf hb hs h⟩

theorem ObjRel.cells_inv {P : Program} {b : Nat} {vs : List AV} (h : ObjRel P w I b (.cells vs)) : ∃ c e f, w.heap[b]? = some (.cells c e f) ∧ PRel w I vs c ∧ (∀ i, i < c.size → ¬ (f.1 ≤ i ∧ i < f.2)) ∧ ∀ i, ¬ I b i := by
  obtain ⟨c, e, f, h1, h2, h3, h4, h5⟩ := h
  exact ⟨c, e, f, h1, ⟨h2, h3⟩, h4, h5⟩

/-- A row of one's own has other cells. -/
theorem Rel.rowSet (hr : Rel X I σ w) {b : Nat} {vs vs' : List AV} (hb : σ.heap b = some (.cells vs)) {c c' : Array Value} {e : TypeId} {f : Nat × Nat} (hc : w.heap[b]? = some (.cells c e f)) (hs : c'.size = c.size)
    (hp : PRel w I vs' c') : Rel X I (σ.set b (.cells vs')) (rowOf w b c' e f) ∧ Ext I w I (rowOf w b c' e f) := by
  obtain ⟨hB, htip, hobj⟩ := hr.obj b _ hb
  obtain ⟨c₀, e₀, f₀, h1, h2, h3, h4⟩ := hobj.cells_inv
  rw [hc] at h1
  simp only [Option.some.injEq, Obj.cells.injEq] at h1
  obtain ⟨rfl, rfl, rfl⟩ := h1
  have x : Ext I w I (Go.Scr.rowOf w b c' e f) := Ext.rowOf hc hs fun i hi => absurd hi (h4 i)
  refine ⟨hr.next x (fun b' o ho => ?_) (fun b' e' ht => ?_) (fun _ _ hi => .inl hi) (by simp [Go.Scr.rowOf]) (fun b' hb' => rowOf_other (by omega) _ _ _) rfl rfl rfl, x⟩
  · simp only [AH.set] at ho
    split at ho
    · rename_i hbb
      subst hbb
      simp only [Option.some.injEq] at ho
      subst ho
      exact .inr ⟨hB, htip, c', e, f, rowOf_same hc _ _ _, hp.1, fun i v hv => (hp.2 i v hv).ext x, fun i hi => h3 i (by omega), h4⟩
    · rename_i hbb
      exact .inl ⟨ho, rowOf_other hbb _ _ _, fun _ hi => hi, rfl⟩
  · have hne : b' ≠ b := fun h => by
      subst h
      simp only [AH.set] at ht
      rw [htip] at ht
      simp at ht
    exact .inl ⟨ht, rowOf_other hne _ _ _, fun _ hi => hi⟩

theorem did_store (hr : Rel X I σ w) (ha : ARel w I a A) {dst : Option Nat} (hd : ∀ d, dst = some d → d < a.n) {t : TypeId} {n : Nat} (hn : sizeP X.P t = some n) {x v : AV} {cx cv : Value} (hx : VRel w I x cx) (hv : VRel w I v cv)
    {K : AAct → AH → Prop} {σ' : AH} (hs : storeA σ n v x = some σ') (hk : K (a.put dst .undef) σ') : Did X I w A dst K ((do Instr.storeAt t cx cv; pure Next.skip : Sem Next).run X.P w) := by
  unfold storeA at hs
  split at hs
  · rename_i b o
    obtain rfl := hx.ptr_inv
    split at hs
    · rename_i vs hb
      split at hs
      · rename_i hc
        obtain ⟨hlen, hle, hone⟩ := hc
        simp only [Option.some.injEq] at hs
        subst hs
        obtain ⟨c, e, f, h1, h2, h3, h4⟩ := (hr.obj b _ hb).2.2.cells_inv
        by_cases hvu : v = .undef
        · subst hvu
          simp [AV.cells, AV.one] at hone
        · have hcells := hv.cells hvu
          have hcl : cv.cells.size = n := by rw [← hcells.1]; exact hlen
          have hones : ∀ u ∈ cv.cells.toList, u.oneCell' = true := fun u hu => by
            obtain ⟨i, hi⟩ := List.getElem?_of_mem hu
            have hlt : i < v.cells.length := by rw [hcells.1]; have := (List.getElem?_eq_some_iff.1 hi).1; simpa using this
            have hxi := hcells.2 i _ (List.getElem?_eq_getElem hlt)
            have : cv.cells.getD i undef = u := by
              rw [Array.getD_eq_getD_getElem?]
              have : cv.cells[i]? = some u := by simpa using hi
              rw [this]; rfl
            rw [this] at hxi
            exact hxi.oneCell (List.all_eq_true.1 hone _ (List.getElem_mem hlt))
          have hst := run_storeRow X.P b o e f cv.cells.toList 0 c w h1 (by have := h2.1; simp; omega) (fun j hj1 hj2 => h3 j (by have := h2.1; simp at hj2; omega)) hones
          obtain ⟨r1, x1⟩ := hr.rowSet hb h1 (c' := (c.toList.take o ++ cv.cells.toList ++ c.toList.drop (o + cv.cells.size)).toArray) (by have := h2.1; simp; omega)
            (h2.splice hcells o (by omega) (vs.drop (o + n)) (fun i u hu => by
              rw [List.getElem?_drop] at hu
              have := h2.2 _ u hu
              rwa [hlen]) (by have := h2.1; simp; omega))
          refine ⟨undef, _, I, a.put dst .undef, _, .inr ⟨?_, rfl⟩, hk, r1, (ha.ext x1).put hd (.undef _), x1⟩
          simp only [Sem.run_bind, Instr.storeAt, Instr.sureAddr, Sem.run_pure, Result.andThen_ok, storeVar, run_sizeOf hn, hcl, ne_eq, not_true_eq_false, if_false]
          simp only [Nat.add_zero, Array.length_toList] at hst
          rw [hst, hcl]
          rfl
      · simp at hs
    · simp at hs
  · simp at hs

theorem VRel.new_ptr (b : Nat) : VRel w I (.ptr b 0) (.pointer (some ⟨b, 0, none⟩)) := .ptr b 0

theorem zeroP_ok {P : Program} {t : TypeId} {z : AV} (h : zeroP P t = some z) : z ≠ .undef := fun e => by
  unfold zeroP at h
  split at h
  · split at h
    · rw [e] at h; unfold absV at h; split at h
      · simp at h
      · unfold absS at h; split at h <;> simp at h
    · simp at h
  · simp at h

theorem did_alloc (hr : Rel X I σ w) (ha : ARel w I a A) {dst : Option Nat} (hd : ∀ d, dst = some d → d < a.n) {t : TypeId} {z : AV} (hz : zeroP X.P t = some z) {K : AAct → AH → Prop}
    (hk : ∀ b, σ.fresh b → K (a.put dst (.ptr b 0)) (σ.set b (.cells z.cells))) : Did X I w A dst K ((do pure (Next.value (← Instr.alloc t true (.tuple #[]))) : Sem Next).run X.P w) := by
  obtain ⟨u, h1, h2⟩ := run_zeroValue hz w I
  have hc := h2.cells (zeroP_ok hz)
  refine ⟨.pointer (some ⟨w.heap.size, 0, none⟩), w.alloc (.cells u.cells t), I, _, _, .inl ?_, hk _ hr.fresh, hr.newCells (Nat.le_of_eq hc.1) hc.2, (ha.ext (Ext.alloc hr _)).put hd (.ptr _ _), Ext.alloc hr _⟩
  simp only [Sem.run_bind, Instr.alloc, h1, Result.andThen_ok, newVar, newRow, run_newObj, Sem.run_pure]
  rfl

theorem did_box (hr : Rel X I σ w) (ha : ARel w I a A) {dst : Option Nat} (hd : ∀ d, dst = some d → d < a.n) {t : TypeId} {v : AV} {cv : Value} (hv : VRel w I v cv) (hok : v.ok = true) {K : AAct → AH → Prop}
    (hk : ∀ b, σ.fresh b → K (a.put dst (.ptr b 0)) (σ.set b (.cells v.cells))) : Did X I w A dst K ((do pure (Next.value (← Instr.box t cv)) : Sem Next).run X.P w) := by
  have hc := hv.cells (fun e => by rw [e] at hok; simp [AV.ok] at hok)
  refine ⟨.pointer (some ⟨w.heap.size, 0, none⟩), w.alloc (.cells cv.cells t), I, _, _, .inl ?_, hk _ hr.fresh, hr.newCells (Nat.le_of_eq hc.1) hc.2, (ha.ext (Ext.alloc hr _)).put hd (.ptr _ _), Ext.alloc hr _⟩
  simp only [Sem.run_bind, Instr.box, Result.andThen_ok, newVar, newRow, run_newObj, Sem.run_pure]
  rfl

theorem did_mkmap (hr : Rel X I σ w) (ha : ARel w I a A) {dst : Option Nat} (hd : ∀ d, dst = some d → d < a.n) {t : TypeId} {K : AAct → AH → Prop}
    (hk : ∀ b, σ.fresh b → K (a.put dst (.map (some b))) (σ.set b (.map [] 0))) : Did X I w A dst K ((do pure (Next.value (← Instr.makeMap t none)) : Sem Next).run X.P w) := by
  refine ⟨.map (some w.heap.size), w.alloc (.map #[] 0), I, _, _, .inl ?_, hk _ hr.fresh, hr.new _ _ ⟨#[], heap_alloc_new w _, rfl, fun i k v n hi => by simp at hi⟩, (ha.ext (Ext.alloc hr _)).put hd (.map _), Ext.alloc hr _⟩
  simp only [Sem.run_bind, Instr.makeMap, run_newObj, Result.andThen_ok, Sem.run_pure]
  rfl

theorem flat_group {ag : Bool} {z : Nat} (hz : ag = true ∨ z = 1) : ∀ (n : Nat) (cs : List AV), n * z ≤ cs.length → grpOk ag cs = true →
    AV.flat (groupA ag z n cs) = cs.take (n * z) ∧ (groupA ag z n cs).length = n ∧ ∀ x ∈ groupA ag z n cs, x.cells.length = z
  | 0, cs, _, _ => by simp [groupA, AV.flat]
  | n + 1, cs, hl, hg => by
    rw [Nat.add_mul] at hl
    have hg' : grpOk ag (cs.drop z) = true := by
      unfold grpOk at hg ⊢
      rw [Bool.or_eq_true] at hg ⊢
      rcases hg with h | h
      · exact .inl h
      · exact .inr (List.all_eq_true.2 fun x hx => List.all_eq_true.1 h x (List.mem_of_mem_drop hx))
    obtain ⟨h1, h2, h3⟩ := flat_group hz n (cs.drop z) (by simp; omega) hg'
    have hhead : ∀ e : AV, e = (if ag then .agg (cs.take z) else cs.headD .undef) → e.cells = cs.take z := fun e he => by
      subst he
      cases ag with
      | true => rfl
      | false =>
        rcases hz with h | h
        · simp at h
        · subst h
          cases cs with
          | nil => simp at hl
          | cons x xs =>
            have hx : x.isCell = true := by
              simp only [grpOk, Bool.false_or] at hg
              exact List.all_eq_true.1 hg x (by simp)
            cases x <;> simp_all [AV.cells, AV.isCell]
    refine ⟨?_, by simp [groupA, h2], fun x hx => ?_⟩
    · simp only [groupA, AV.flat, List.flatMap_cons] at h1 ⊢
      rw [h1, hhead _ rfl, Nat.add_mul, Nat.one_mul, Nat.add_comm, List.take_add]
    · simp only [groupA, List.mem_cons] at hx
      rcases hx with rfl | hx
      · rw [hhead _ rfl, List.length_take]
        omega
      · exact h3 x hx

/-- A new row whose cells are never written any more, but behind the last. -/
theorem Rel.newList (h : Rel X I σ w) {c : Array Value} {e : TypeId} {cs : List AV} (hl : cs.length ≤ c.size) (tr : Bool) :
    ∃ I', Rel X I' (if tr then σ.own w.heap.size cs.length else σ) (w.alloc (.cells c e)) ∧ Ext I w I' (w.alloc (.cells c e)) ∧ ∀ i, i < cs.length → I' w.heap.size i := by
  let I' : Imm := fun b i => I b i ∨ (b = w.heap.size ∧ i < cs.length)
  have hnew : ∀ i, (w.alloc (.cells c e)).cell? ⟨w.heap.size, i, none⟩ = c[i]? := fun i => cell_of_row _ _ _ _ _ _ (heap_alloc_new w _)
  have x : Ext I w I' (w.alloc (.cells c e)) :=
    ⟨fun b i hi => ⟨.inl hi, by simp only [World.cell?, heap_alloc_old w _ b (h.lt_imm hi)]⟩, fun _ _ hs => shape_alloc_old w _ hs⟩
  have hback : ∀ b, b < w.heap.size → ∀ i, I' b i → I b i := fun b hb i hi => by
    rcases hi with hi | ⟨hi, _⟩
    · exact hi
    · omega
  refine ⟨I', ?_, x, fun i hi => .inr ⟨rfl, hi⟩⟩
  have hf := h.fresh
  refine h.next x (fun b o ho => ?_) (fun b e' ht => ?_) (fun b i hi => ?_) (show w.heap.size ≤ (w.heap.push _).size by simp) (fun b hb => heap_alloc_old w _ b (Nat.lt_of_lt_of_le hb h.base)) rfl rfl rfl
  · have ho' : σ.heap b = some o := by cases tr <;> simpa [AH.own] using ho
    have hlt := h.lt_heap ho'
    refine .inl ⟨ho', heap_alloc_old w _ b hlt, hback b hlt, ?_⟩
    cases tr
    · rfl
    · simp only [if_true, AH.own]
      rw [if_neg (by omega)]
  · cases tr with
    | false =>
      have hlt := h.lt_tip ht
      exact .inl ⟨ht, heap_alloc_old w _ b hlt, hback b hlt⟩
    | true =>
      simp only [if_true, AH.own] at ht
      split at ht
      · rename_i hb
        subst hb
        simp only [Option.some.injEq] at ht
        subst ht
        refine .inr ⟨h.base, c, e, (0, 0), heap_alloc_new w _, hl, fun i _ _ hi => by simp at hi, fun i hi hI => ?_⟩
        rcases hI with hI | ⟨_, hI⟩
        · exact absurd (h.lt_imm hI) (Nat.lt_irrefl _)
        · omega
      · have hlt := h.lt_tip ht
        exact .inl ⟨ht, heap_alloc_old w _ b hlt, hback b hlt⟩
  · rcases hi with hi | ⟨rfl, hi⟩
    · exact .inl hi
    · refine .inr ⟨c[i]'(by omega), ?_⟩
      rw [hnew]
      exact Array.getElem?_eq_getElem (by omega)

end
end Go.Scr
