/- What turns memory keeps the relation: part 17 of a program logic over the model: stores into maps, and all that turns memory. No condition but that the operation was lowered to the instruction. -/
import Derived.Test.YtagjgpkomcmkbaaGreatDoorEcoreP
namespace Go.Scr
open Go

section
variable {X : Ctx} {I : Imm} {σ : AH} {w : World} {a : AAct} {A : Act}

theorem sameBits_scalar {n k : Nat} {x y : AV} {cx cy : Value} (hx : VRel w I x cx) (hy : VRel w I y cy) (h : scalarEq k x y = some true) : Instr.sameBits n cy cx = true := by
  unfold scalarEq at h
  split at h
  · split at h
    · rename_i hc
      obtain ⟨_, rfl⟩ := hc
      obtain rfl := hx.int_inv
      obtain rfl := hy.int_inv
      simp only [Option.some.injEq, beq_iff_eq] at h
      subst h
      simp [Instr.sameBits]
    · simp at h
  · split at h
    · obtain ⟨s, rfl, rfl⟩ := hx.str_inv
      obtain ⟨s', rfl, rfl⟩ := hy.str_inv
      simp only [Option.some.injEq, beq_iff_eq] at h
      simp only [Instr.sameBits]
      rw [beq_toListBytes, ByteArray.toList_eq, ByteArray.toList_eq, h]
      simp
    · simp at h
  · split at h
    · obtain rfl := hx.bool_inv
      obtain rfl := hy.bool_inv
      simp only [Option.some.injEq, beq_iff_eq] at h
      subst h
      simp [Instr.sameBits]
    · simp at h
  · simp at h

theorem sameBits_cells {n : Nat} : ∀ {ks : List Nat} {xs ys : List AV} {vs us : List Value}, xs.length = vs.length → ys.length = us.length → (∀ i c, xs[i]? = some c → VRel w I c (vs.getD i undef)) →
    (∀ i c, ys[i]? = some c → VRel w I c (us.getD i undef)) → cellsEq ks xs ys = some true → us.length = vs.length ∧ (us.zip vs).all (fun (x, y) => Instr.sameBits n x y) = true
  | [], xs, ys, vs, us, h1, h2, _, _, h => by
    unfold cellsEq at h
    split at h
    · have e1 : vs = [] := List.eq_nil_of_length_eq_zero h1.symm
      have e2 : us = [] := List.eq_nil_of_length_eq_zero h2.symm
      subst e1
      subst e2
      simp
    · rename_i hh _ _; cases hh
    · simp at h
  | k :: ks, xs, ys, vs, us, h1, h2, hx, hy, h => by
    cases xs with
    | nil => simp [cellsEq] at h
    | cons x xs =>
      cases ys with
      | nil => simp [cellsEq] at h
      | cons y ys =>
        cases vs with
        | nil => simp at h1
        | cons v vs =>
          cases us with
          | nil => simp at h2
          | cons u us =>
            simp only [cellsEq] at h
            cases hq : scalarEq k x y with
            | none => rw [hq] at h; simp at h
            | some b =>
              rw [hq] at h
              cases b with
              | false => simp at h
              | true =>
                have hx0 := hx 0 x rfl
                have hy0 := hy 0 y rfl
                simp only [List.getD_cons_zero] at hx0 hy0
                obtain ⟨p1, p2⟩ := sameBits_cells (n := n) (by simpa using h1) (by simpa using h2) (fun i c hc => by simpa using hx (i + 1) c (by simpa using hc)) (fun i c hc => by simpa using hy (i + 1) c (by simpa using hc)) h
                refine ⟨by simp [p1], ?_⟩
                simp only [List.zip_cons_cons, List.all_cons, Bool.and_eq_true]
                exact ⟨sameBits_scalar hx0 hy0 hq, p2⟩

theorem sameBits_key {ag : Bool} {ks : List Nat} {x y : AV} {cx cy : Value} (hx : VRel w I x cx) (hy : VRel w I y cy) (h : keyEq ag ks x y = some true) : Instr.sameBits 10000 cy cx = true := by
  unfold keyEq at h
  split at h
  · split at h
    · obtain ⟨vs, rfl, h1, h2⟩ := hx.agg_inv
      obtain ⟨us, rfl, h3, h4⟩ := hy.agg_inv
      obtain ⟨p1, p2⟩ := sameBits_cells (n := 9999) (vs := vs.toList) (us := us.toList) (by simpa using h1) (by simpa using h3) (fun i c hc => by simpa using h2 i c hc) (fun i c hc => by simpa using h4 i c hc) h
      show Instr.sameBits (9999 + 1) (.agg us) (.agg vs) = true
      simp only [Instr.sameBits, Bool.and_eq_true, beq_iff_eq]
      exact ⟨by simpa using p1, p2⟩
    · simp at h
  · split at h
    · exact sameBits_scalar hx hy h
    · simp at h

/-- What an entry's new value does to the entries. -/
theorem updA_spec {ag : Bool} {ks : List Nat} {k v : AV} {clock : Nat} : ∀ {es : List (AV × AV × Nat)} {r : List (AV × AV × Nat) × Nat} (i : Nat), updA ag ks k v clock es = some r →
    ∃ o, idxA ag ks k es i = some o ∧ (match o with
      | none => r = (es ++ [(k, v, clock)], clock + 1)
      | some j => i ≤ j ∧ ∃ k' v' n, es[j - i]? = some (k', v', n) ∧ keyEq ag ks k k' = some true ∧ r = (es.set (j - i) (k, v, n), clock))
  | [], r, i, h => by
    simp only [updA, Option.some.injEq] at h
    exact ⟨none, by simp [idxA], by simp [h.symm]⟩
  | (k', v', n) :: es, r, i, h => by
    simp only [updA] at h
    cases hq : keyEq ag ks k k' with
    | none => rw [hq] at h; simp at h
    | some b =>
      rw [hq] at h
      cases b with
      | true =>
        simp only [Option.some.injEq] at h
        exact ⟨some i, by simp [idxA, hq], Nat.le_refl _, k', v', n, by simp, hq, by simp [h.symm]⟩
      | false =>
        simp only at h
        cases hu : updA ag ks k v clock es with
        | none => rw [hu] at h; simp at h
        | some r' =>
          rw [hu] at h
          simp only [Option.some.injEq] at h
          obtain ⟨o, h1, h2⟩ := updA_spec (i + 1) hu
          refine ⟨o, by simp [idxA, hq, h1], ?_⟩
          cases o with
          | none =>
            simp only at h2 ⊢
            rw [← h, h2]
            simp
          | some j =>
            obtain ⟨g1, k'', v'', n', g2, g3, g4⟩ := h2
            refine ⟨by omega, k'', v'', n', ?_, g3, ?_⟩
            · rw [show j - i = (j - (i + 1)) + 1 by omega, List.getElem?_cons_succ]
              exact g2
            · rw [← h, g4, show j - i = (j - (i + 1)) + 1 by omega]
              simp

theorem Rel.mapSet (hr : Rel X I σ w) {b : Nat} {es es₁ : List (AV × AV × Nat)} {clock clock₁ : Nat} (hb : σ.heap b = some (.map es clock)) {es' : Array MapEntry}
    (he : ERel w I es₁ es'.toList) : Rel X I (σ.set b (.map es₁ clock₁)) { w with heap := w.heap.setIfInBounds b (.map es' clock₁) } ∧ Ext I w I { w with heap := w.heap.setIfInBounds b (.map es' clock₁) } := by
  obtain ⟨hB, htip, hobj⟩ := hr.obj b _ hb
  obtain ⟨es₀, h1, _⟩ := hobj.map_inv
  have hlt := (Array.getElem?_eq_some_iff.1 h1).1
  have same : ({ w with heap := w.heap.setIfInBounds b (.map es' clock₁) } : World).heap[b]? = some (.map es' clock₁) := by simp [hlt]
  have other : ∀ b', b' ≠ b → ({ w with heap := w.heap.setIfInBounds b (.map es' clock₁) } : World).heap[b']? = w.heap[b']? := fun b' h => by
    simp [Array.getElem?_setIfInBounds_ne (Ne.symm h)]
  have noI : ∀ i, ¬ I b i := fun i hi => by
    obtain ⟨v, hv⟩ := hr.immc b i hi
    simp [World.cell?, h1] at hv
  have x : Ext I w I { w with heap := w.heap.setIfInBounds b (.map es' clock₁) } :=
    ⟨fun b' i hi => ⟨hi, by
      have hbb : b' ≠ b := fun h => noI i (h ▸ hi)
      simp only [World.cell?, other b' hbb]⟩, fun b' s hs => by
      by_cases hbb : b' = b
      · subst hbb
        simp [World.shape?, h1] at hs
      · simp only [World.shape?, other b' hbb] at hs ⊢
        exact hs⟩
  refine ⟨hr.next x (fun b' o ho => ?_) (fun b' e ht => ?_) (fun _ _ hi => .inl hi) (by simp) (fun b' hb' => other b' (by omega)) rfl rfl rfl, x⟩
  · simp only [AH.set] at ho
    split at ho
    · rename_i hbb
      subst hbb
      simp only [Option.some.injEq] at ho
      subst ho
      refine .inr ⟨hB, htip, es', same, by simpa using he.1, fun i k v n hi => ?_⟩
      obtain ⟨y, p1, p2, p3, p4⟩ := he.2 i k v n hi
      exact ⟨y, by simpa using p1, p2.ext x, p3.ext x, p4⟩
    · rename_i hbb
      exact .inl ⟨ho, other b' hbb, fun _ hi => hi, rfl⟩
  · have hne : b' ≠ b := fun h => by
      subst h
      simp only [AH.set] at ht
      rw [htip] at ht
      simp at ht
    exact .inl ⟨ht, other b' hne, fun _ hi => hi⟩

theorem did_mapupd (hr : Rel X I σ w) (ha : ARel w I a A) {dst : Option Nat} (hd : ∀ d, dst = some d → d < a.n) {mt kt et : TypeId} (hu : X.P.underlying mt = some (.map kt et)) {r : Bool × List Nat} (hk : keyP X.P kt = some r)
    {m k v : AV} {cm ck cv : Value} (hm : VRel w I m cm) (hkv : VRel w I k ck) (hv : VRel w I v cv) {K : AAct → AH → Prop} {σ' : AH} (hs : mapupdA σ r.1 r.2 k v m = some σ') (hK : K (a.put dst .undef) σ') :
    Did X I w A dst K ((do Instr.mapUpdate mt cm ck cv; pure Next.skip : Sem Next).run X.P w) := by
  unfold mapupdA at hs
  split at hs
  · rename_i b
    obtain rfl := hm.map_inv
    split at hs
    · rename_i es clock hb
      split at hs
      · simp at hs
      · rename_i hok
        obtain ⟨es', g1, g2⟩ := (hr.obj _ _ hb).2.2.map_inv
        have hck := run_checkKey (P := X.P) (w := w) (e := false) 9998 hk hkv (by simpa using hok)
        have hset : ∀ o : Obj, (setObj b o).run X.P w = .ok () { w with heap := w.heap.setIfInBounds b o } := fun o => by simp [setObj, Sem.run, g1]
        split at hs
        · rename_i es₁ c₁ hup
          simp only [Option.some.injEq] at hs
          subst hs
          obtain ⟨o, i1, i2⟩ := updA_spec 0 hup
          obtain ⟨hf, hlt⟩ := run_findKey (P := X.P) hk hkv g2 i1
          cases o with
          | none =>
            simp only at i2
            obtain ⟨rfl, rfl⟩ := Prod.mk.inj i2
            have he : ERel w I (es ++ [(k, v, clock)]) (es'.push { key := ck, val := cv, born := clock }).toList := by
              refine ⟨by simp [g2.1], fun i k' v' n hi => ?_⟩
              rw [List.getElem?_append] at hi
              split at hi
              · rename_i hil
                obtain ⟨y, p1, p2⟩ := g2.2 i k' v' n hi
                refine ⟨y, ?_, p2⟩
                rw [Array.toList_push, List.getElem?_append_left (by rw [← g2.1]; exact hil)]
                exact p1
              · rename_i hil
                obtain ⟨rfl, hi'⟩ : i = es.length ∧ (k, v, clock) = (k', v', n) := by
                  cases hd : i - es.length with
                  | zero => rw [hd] at hi; simp at hi; exact ⟨by omega, by simp [hi]⟩
                  | succ q => rw [hd] at hi; simp at hi
                simp only [Prod.mk.injEq] at hi'
                obtain ⟨rfl, rfl, rfl⟩ := hi'
                refine ⟨{ key := ck, val := cv, born := clock }, ?_, hkv, hv, rfl⟩
                rw [Array.toList_push, g2.1]
                simp
            obtain ⟨r1, x1⟩ := hr.mapSet (clock₁ := clock + 1) hb he
            refine ⟨undef, _, I, a.put dst .undef, _, .inr ⟨?_, rfl⟩, hK, r1, (ha.ext x1).put hd (.undef _), x1⟩
            simp only [Option.map_none] at hf
            simp only [Instr.mapUpdate, Sem.run_bind, run_underlying hu, Result.andThen_ok, run_getObj_map g1, hck, hf, hset, Sem.run_pure]
          | some j =>
            obtain ⟨_, k', v', n, j1, j2, j3⟩ := i2
            obtain ⟨rfl, e2⟩ := Prod.mk.inj j3
            rw [e2] at hK
            simp only [Nat.sub_zero] at j1 hK
            obtain ⟨y, p1, p2, p3, p4⟩ := g2.2 _ _ _ _ j1
            have p1' : es'[j]? = some y := by simpa using p1
            have he : ERel w I (es.set j (k, v, n)) (es'.modify j fun e => { e with key := ck, val := cv }).toList := by
              refine ⟨by simp [g2.1], fun i k₁ v₁ n₁ hi => ?_⟩
              rw [List.getElem?_set] at hi
              have hmod : ∀ i, (es'.modify j fun e => { e with key := ck, val := cv }).toList[i]? = if j = i then (es'[i]?).map (fun e => { e with key := ck, val := cv }) else es'[i]? := fun i => by
                rw [Array.getElem?_toList, Array.getElem?_modify]
              rw [hmod]
              split at hi
              · rename_i hji
                subst hji
                rw [if_pos rfl, p1']
                split at hi
                · simp only [Option.some.injEq, Prod.mk.injEq] at hi
                  obtain ⟨rfl, rfl, rfl⟩ := hi
                  exact ⟨_, rfl, hkv, hv, p4⟩
                · simp at hi
              · rename_i hji
                rw [if_neg hji]
                obtain ⟨y', q1, q2⟩ := g2.2 i k₁ v₁ n₁ hi
                exact ⟨y', by simpa using q1, q2⟩
            obtain ⟨r1, x1⟩ := hr.mapSet (clock₁ := clock) hb he
            refine ⟨undef, _, I, a.put dst .undef, _, .inr ⟨?_, rfl⟩, hK, r1, (ha.ext x1).put hd (.undef _), x1⟩
            have hbits := sameBits_key hkv p2 j2
            simp only [Option.map_some] at hf
            have hkeep : (Instr.keyThatStays y.key ck).run X.P w = .ok ck w := by simp [Instr.keyThatStays, hbits]
            simp only [Instr.mapUpdate, Sem.run_bind, run_underlying hu, Result.andThen_ok, run_getObj_map g1, hck, hf, p1', Option.map_some, Option.getD_some, hkeep, hset, Sem.run_pure]
        · simp at hs
    · simp at hs
  · simp at hs

/-- EACH INSTRUCTION THAT IS NO CALL DOES WHAT THE OPERATION DOES. -/
theorem step_sound (hr : Rel X I σ w) (ha : ARel w I a A) {o : Oper} (hd : ∀ d, o.dst = some d → d < a.n) {mode : Nat} {i : I1} (hl : lowOp X.P mode o = some i) (hc : ∀ f xs, i ≠ .call f xs) (hdf : ∀ f xs, i ≠ .defer f xs)
    {K : AAct → AH → Prop} (hs : stepI X o.dst a σ K i) : Did X I w A o.dst K ((execOp A.eval o).run X.P w) := by
  by_cases hq : i.quiet = true
  · -- quiet
    have hs' : optK (quietI X a σ i) (fun v => K (a.put o.dst v) σ) := by
      cases i <;> first | exact hs | (simp [I1.quiet] at hq)
    unfold optK at hs'
    split at hs'
    · rename_i v hv
      obtain ⟨u, h1, h2⟩ := quiet_sound hr ha hl hv
      exact ⟨u, w, I, _, σ, .inl h1, hs', hr, ha.put hd h2, Ext.refl _ _⟩
    · exact hs'.elim
  · obtain ⟨dst, op, ty, pos, after, guard⟩ := o
    unfold lowOp at hl
    simp only at hl hs hd ⊢
    split at hl
    · simp only [Option.map_eq_some_iff] at hl; obtain ⟨y, hy, rfl⟩ := hl; simp [I1.quiet] at hq
    · simp only [Option.map_eq_some_iff] at hl; obtain ⟨y, hy, rfl⟩ := hl; simp [I1.quiet] at hq
    · split at hl
      · simp only [Option.some.injEq] at hl; subst hl; simp [I1.quiet] at hq
      · simp at hl
    · simp only [Option.map_eq_some_iff] at hl; obtain ⟨y, hy, rfl⟩ := hl; simp [I1.quiet] at hq
    · -- binOp
      exfalso
      split at hl
      · unfold lowBin at hl
        split at hl
        · simp only [Option.some.injEq] at hl; subst hl; simp [I1.quiet] at hq
        · simp only [Option.some.injEq] at hl; subst hl; simp [I1.quiet] at hq
        · simp only [Option.some.injEq] at hl; subst hl; simp [I1.quiet] at hq
        · simp only [Option.some.injEq] at hl; subst hl; simp [I1.quiet] at hq
        · simp only [Option.some.injEq] at hl; subst hl; simp [I1.quiet] at hq
        · split at hl
          · split at hl
            · simp only [Option.some.injEq] at hl; subst hl; simp [I1.quiet] at hq
            · simp only [Option.some.injEq] at hl; subst hl; simp [I1.quiet] at hq
            · simp at hl
          · simp at hl
        · simp at hl
      · simp at hl
    · simp only [Option.map_eq_some_iff] at hl; obtain ⟨y, hy, rfl⟩ := hl; simp [I1.quiet] at hq
    · simp only [Option.map_eq_some_iff] at hl; obtain ⟨y, hy, rfl⟩ := hl; simp [I1.quiet] at hq
    · split at hl
      · simp only [Option.map_eq_some_iff] at hl; obtain ⟨y, hy, rfl⟩ := hl; simp [I1.quiet] at hq
      · simp only [Option.map_eq_some_iff] at hl; obtain ⟨y, hy, rfl⟩ := hl; simp [I1.quiet] at hq
      · simp at hl
    · split at hl
      · simp only [Option.some.injEq] at hl; subst hl; simp [I1.quiet] at hq
      · simp at hl
    · -- fieldAddr
      exfalso
      split at hl
      · unfold lowFieldAddr at hl
        split at hl
        · split at hl
          · split at hl
            · simp only [Option.some.injEq] at hl; subst hl; simp [I1.quiet] at hq
            · simp at hl
          · simp at hl
        · simp at hl
      · simp at hl
    · exfalso
      split at hl
      · unfold lowField at hl
        split at hl
        · split at hl
          · simp only [Option.map_eq_some_iff] at hl; obtain ⟨y, hy, rfl⟩ := hl; simp [I1.quiet] at hq
          · simp at hl
        · simp at hl
      · simp at hl
    · exfalso
      split at hl
      · unfold lowIndexAddr at hl
        split at hl
        · simp only [Option.map_eq_some_iff] at hl; obtain ⟨y, hy, rfl⟩ := hl; simp [I1.quiet] at hq
        · simp only [Option.map_eq_some_iff] at hl; obtain ⟨y, hy, rfl⟩ := hl; simp [I1.quiet] at hq
        · simp at hl
      · simp at hl
    · split at hl
      · simp only [Option.some.injEq] at hl; subst hl; simp [I1.quiet] at hq
      · simp at hl
    · exfalso
      split at hl
      · unfold lowSlice at hl
        split at hl
        · simp only [Option.some.injEq] at hl; subst hl; simp [I1.quiet] at hq
        · simp only [Option.map_eq_some_iff] at hl; obtain ⟨y, hy, rfl⟩ := hl; simp [I1.quiet] at hq
        · simp at hl
      · simp at hl
    · simp only [Option.map_eq_some_iff] at hl; obtain ⟨y, hy, rfl⟩ := hl; simp [I1.quiet] at hq
    · exfalso
      unfold lowBuild at hl
      split at hl
      · split at hl
        · simp only [Option.map_eq_some_iff] at hl; obtain ⟨y, hy, rfl⟩ := hl; simp [I1.quiet] at hq
        · simp at hl
      · split at hl
        · simp only [Option.map_eq_some_iff] at hl; obtain ⟨y, hy, rfl⟩ := hl; simp [I1.quiet] at hq
        · simp at hl
      · simp at hl
    · split at hl
      · simp only [Option.some.injEq] at hl; subst hl; simp [I1.quiet] at hq
      · simp at hl
    · split at hl
      · split at hl
        · simp only [Option.map_eq_some_iff] at hl; obtain ⟨y, hy, rfl⟩ := hl; simp [I1.quiet] at hq
        · simp at hl
      · simp at hl
    · -- store
      split at hl
      · rename_i n x v hn hx hv
        simp only [Option.some.injEq] at hl
        subst hl
        simp only [stepI, stepV, optK] at hs
        split at hs
        · rename_i σ' hσ'
          exact did_store hr ha hd hn (opd_sound hr ha hx) (opd_sound hr ha hv) hσ' hs
        · exact hs.elim
      · simp at hl
    · -- alloc
      simp only [Option.map_eq_some_iff] at hl
      obtain ⟨z, hz, rfl⟩ := hl
      exact did_alloc hr ha hd hz hs
    · -- box
      simp only [Option.map_eq_some_iff] at hl
      obtain ⟨y, hy, rfl⟩ := hl
      exact did_box hr ha hd (opd_sound hr ha hy) hs.1 hs.2
    · -- buildSlice
      exact did_blds hr ha hd hl hs
    · -- makeMap
      simp only [Option.some.injEq] at hl
      subst hl
      exact did_mkmap hr ha hd hs
    · -- makeSlice
      split at hl
      · rename_i e hu
        split at hl
        · rename_i z by' zero l c hz hby hzero hl' hc'
          split at hl
          · rename_i hcond
            simp only [Option.some.injEq] at hl
            subst hl
            exact did_mkslice hr ha hd hu hz hby hzero hcond.1 hcond.2 (opd_sound hr ha hl') (opd_sound hr ha hc') hs
          · simp at hl
        · simp at hl
      · simp at hl
    · -- mapUpdate
      split at hl
      · rename_i kt et hu
        split at hl
        · rename_i m k v hm hk hv
          simp only [Option.map_eq_some_iff] at hl
          obtain ⟨r, hkr, rfl⟩ := hl
          simp only [stepI, stepV, optK] at hs
          split at hs
          · rename_i σ' hσ'
            exact did_mapupd hr ha hd hu hkr (opd_sound hr ha hm) (opd_sound hr ha hk) (opd_sound hr ha hv) hσ' hs
          · exact hs.elim
        · simp at hl
      · simp at hl
    · split at hl
      · rename_i kt et hu
        split at hl
        · rename_i m k v hm hk hv
          simp only [Option.map_eq_some_iff] at hl
          obtain ⟨r, hkr, rfl⟩ := hl
          simp only [stepI, stepV, optK] at hs
          split at hs
          · rename_i σ' hσ'
            exact did_mapupd hr ha hd hu hkr (opd_sound hr ha hm) (opd_sound hr ha hk) (opd_sound hr ha hv) hσ' hs
          · exact hs.elim
        · simp at hl
      · simp at hl
    · -- call
      rename_i c
      unfold lowCall at hl
      split at hl
      · rename_i xs hxs
        split at hl
        · simp only [Option.map_eq_some_iff] at hl
          obtain ⟨y, hy, rfl⟩ := hl
          exact absurd rfl (hc _ _)
        · rename_i b hb
          have hv := (opds_sound hr ha hxs).map_toArray
          unfold lowBuiltin at hl
          split at hl
          · split at hl
            · simp only [Option.some.injEq] at hl; subst hl; simp [I1.quiet] at hq
            · simp only [Option.some.injEq] at hl; subst hl; simp [I1.quiet] at hq
            · simp only [Option.some.injEq] at hl; subst hl; simp [I1.quiet] at hq
            · simp at hl
          · rename_i t u x y hts
            split at hl
            · rename_i e e' ht hu
              split at hl
              · rename_i hee
                subst hee
                split at hl
                · rename_i ag z by' zero hag hz hby hzero
                  split at hl
                  · rename_i hcond
                    obtain ⟨hpos, hbp, hzl, hagz⟩ := hcond
                    simp only [Option.some.injEq] at hl
                    subst hl
                    simp only [stepI, stepV, optK] at hs
                    split at hs
                    · rename_i ys hys
                      have hat : c.argTypes = #[t, u] := by apply Array.ext'; simpa using hts
                      obtain ⟨cx, cy, hcxy⟩ : ∃ cx cy, c.args.map A.eval = #[cx, cy] := by
                        have := hv.1
                        simp only [List.map_cons, List.map_nil, List.length_cons, List.length_nil] at this
                        generalize c.args.map A.eval = l at this
                        obtain ⟨l⟩ := l
                        rcases l with _ | ⟨p, _ | ⟨q, _ | ⟨r, l⟩⟩⟩
                        · simp at this
                        · simp at this
                        · exact ⟨p, q, rfl⟩
                        · simp at this
                      rw [hcxy] at hv
                      have h1 := hv.2 0 _ rfl
                      have h2 := hv.2 1 _ rfl
                      simp only [Array.getD_eq_getD_getElem?, List.getElem?_toArray, List.getElem?_cons_zero, List.getElem?_cons_succ, Option.getD_some] at h1 h2
                      have := did_append (ty := ty) hr ha hd ht hu hz hby hzero hbp hzl hagz h1 h2 hys hs.1 hs.2
                      simp only [execOp, resolve, hb, Sem.run_bind, Sem.run_pure, Result.andThen_ok, invoke, builtin, hat, hcxy] at this ⊢
                      exact this
                    · exact hs.elim
                  · simp at hl
                · simp at hl
              · simp at hl
            · simp at hl
          · simp only [Option.some.injEq] at hl; subst hl; simp [I1.quiet] at hq
          · simp only [Option.some.injEq] at hl; subst hl; simp [I1.quiet] at hq
          · simp at hl
        · simp at hl
      · simp at hl
    · -- defer
      split at hl
      · simp only [Option.map_eq_some_iff] at hl
        obtain ⟨y, hy, rfl⟩ := hl
        exact absurd rfl (hdf _ _)
      · simp at hl
    · simp at hl

end
end Go.Scr
