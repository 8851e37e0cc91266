/- Each quiet instruction answers what the model's operation answers: part 9 of a program logic over the model: all of them. No condition but that the operation was lowered to it. -/
import Derived.Test.YtagjgpkomcmkbaaGreatDoorEcoreH
namespace Go.Scr
open Go

section
variable {P : Program} {w : World} {I : Imm}

theorem run_foldMax : ∀ {xs : List AV} {vs : List Value} {x v : AV} {cx : Value}, VRel w I x cx → xs.length = vs.length → (∀ i c, xs[i]? = some c → VRel w I c (vs.getD i undef)) → xs.foldlM mx2 x = some v →
    ∃ u, (vs.foldlM Builtin.max2 cx).run P w = .ok u w ∧ VRel w I v u
  | [], vs, x, v, cx, hx, hl, _, h => by
    obtain rfl : vs = [] := List.eq_nil_of_length_eq_zero hl.symm
    simp only [List.foldlM_nil, Option.pure_def, Option.some.injEq] at h
    subst h
    exact ⟨cx, by simp, hx⟩
  | y :: xs, [], x, v, cx, hx, hl, _, h => by simp at hl
  | y :: xs, cy :: vs, x, v, cx, hx, hl, hv, h => by
    simp only [List.foldlM_cons, Option.bind_eq_bind, Option.bind_eq_some_iff] at h
    obtain ⟨r, hr, h⟩ := h
    have hy := hv 0 y (by simp)
    simp only [List.getD_cons_zero] at hy
    unfold mx2 at hr
    split at hr
    · split at hr
      · rename_i hk
        subst hk
        simp only [Option.some.injEq] at hr
        subst hr
        obtain rfl := hx.int_inv
        obtain rfl := hy.int_inv
        obtain ⟨u, h1, h2⟩ := run_foldMax (.int _ _) (by simpa using hl) (fun i c hc => by simpa using hv (i + 1) c (by simpa using hc)) h
        exact ⟨u, by simpa [Builtin.max2] using h1, h2⟩
      · simp at hr
    · simp at hr

theorem run_foldMin : ∀ {xs : List AV} {vs : List Value} {x v : AV} {cx : Value}, VRel w I x cx → xs.length = vs.length → (∀ i c, xs[i]? = some c → VRel w I c (vs.getD i undef)) → xs.foldlM mn2 x = some v →
    ∃ u, (vs.foldlM Builtin.min2 cx).run P w = .ok u w ∧ VRel w I v u
  | [], vs, x, v, cx, hx, hl, _, h => by
    obtain rfl : vs = [] := List.eq_nil_of_length_eq_zero hl.symm
    simp only [List.foldlM_nil, Option.pure_def, Option.some.injEq] at h
    subst h
    exact ⟨cx, by simp, hx⟩
  | y :: xs, [], x, v, cx, hx, hl, _, h => by simp at hl
  | y :: xs, cy :: vs, x, v, cx, hx, hl, hv, h => by
    simp only [List.foldlM_cons, Option.bind_eq_bind, Option.bind_eq_some_iff] at h
    obtain ⟨r, hr, h⟩ := h
    have hy := hv 0 y (by simp)
    simp only [List.getD_cons_zero] at hy
    unfold mn2 at hr
    split at hr
    · split at hr
      · rename_i hk
        subst hk
        simp only [Option.some.injEq] at hr
        subst hr
        obtain rfl := hx.int_inv
        obtain rfl := hy.int_inv
        obtain ⟨u, h1, h2⟩ := run_foldMin (.int _ _) (by simpa using hl) (fun i c hc => by simpa using hv (i + 1) c (by simpa using hc)) h
        exact ⟨u, by simpa [Builtin.min2] using h1, h2⟩
      · simp at hr
    · simp at hr

theorem run_lens {t ty : TypeId} {x v : AV} {cx : Value} (ht : P.underlying t = some .string) (hx : VRel w I x cx) (h : lensA x = some v) : ∃ u, (Builtin.len_ #[t] ty #[cx]).run P w = .ok u w ∧ VRel w I v u := by
  unfold lensA at h
  split at h
  · obtain ⟨bs, rfl, rfl⟩ := hx.str_inv
    simp only [Option.some.injEq] at h
    subst h
    exact ⟨_, by simp [Builtin.len_, run_underlying ht, goInt], .int _ _⟩
  · simp at h

theorem run_len {t ty e : TypeId} {x v : AV} {cx : Value} (ht : P.underlying t = some (.slice e)) (hx : VRel w I x cx) (h : lenA x = some v) : ∃ u, (Builtin.len_ #[t] ty #[cx]).run P w = .ok u w ∧ VRel w I v u := by
  unfold lenA at h
  split at h
  · obtain rfl := hx.nil_inv
    simp only [Option.some.injEq] at h
    subst h
    exact ⟨_, by simp [Builtin.len_, run_underlying ht, goInt], .int _ _⟩
  · obtain ⟨B, off, cap, cv, rfl, _⟩ := hx.list_inv
    simp only [Option.some.injEq] at h
    subst h
    exact ⟨_, by simp [Builtin.len_, run_underlying ht, goInt], .int _ _⟩
  · obtain ⟨cap, rfl, _⟩ := hx.slice_inv
    simp only [Option.some.injEq] at h
    subst h
    exact ⟨_, by simp [Builtin.len_, run_underlying ht, goInt], .int _ _⟩
  · simp at h

theorem run_zeroValue {t : TypeId} {z : AV} (h : zeroP P t = some z) (w : World) (I : Imm) : ∃ u, (zeroValue t).run P w = .ok u w ∧ VRel w I z u := by
  unfold zeroP at h
  split at h
  · rename_i i hi
    split at h
    · rename_i u hu
      exact ⟨u, by simp [zeroValue, typeInfo, hi, hu], absV_sound h w I⟩
    · simp at h
  · simp at h

theorem run_places {fs : List Field} : ∀ {pl : List (Nat × Nat)}, placesP P fs = some pl →
    (fs.mapM (fun f => do pure (f.offset, ← sizeOf f.type) : Field → Sem (Nat × Nat))).run P w = .ok pl w := by
  induction fs with
  | nil => intro pl h; simp only [placesP, Option.some.injEq] at h; subst h; simp
  | cons f fs ih =>
    intro pl h
    simp only [placesP] at h
    split at h
    · rename_i n l hn hl
      simp only [Option.some.injEq] at h
      subst h
      simp only [List.mapM_cons, Sem.run_bind, run_sizeOf hn, Result.andThen_ok, Sem.run_pure, ih hl]
    · simp at h

theorem run_build {X : Ctx} {a : AAct} {A : Act} {σ : AH} (hX : X.P = P) (hr : Rel X I σ w) (ha : ARel w I a A) {t : TypeId} {parts : Array (Nat × Operand)} {i : I1} (hl : lowBuild P t parts.toList = some i) {v : AV}
    (hq : quietI X a σ i = some v) : ∃ u, (Instr.build t (parts.map fun (i, x) => (i, A.eval x))).run P w = .ok u w ∧ VRel w I v u := by
  subst hX
  unfold lowBuild at hl
  split at hl
  · rename_i zero fs hz hu
    split at hl
    · rename_i pl hpl
      simp only [Option.map_eq_some_iff] at hl
      obtain ⟨ps, hps, rfl⟩ := hl
      simp only [quietI, quietV, Option.map_eq_some_iff] at hq
      obtain ⟨cs, hcs, rfl⟩ := hq
      obtain ⟨zv, hzv, hzr⟩ := run_zeroValue hz w I
      have hzc : VRels w I zero.cells zv.cells := hzr.cells (fun e => by
        unfold zeroP at hz
        split at hz
        · split at hz
          · rw [e] at hz; unfold absV at hz; split at hz
            · simp at hz
            · unfold absS at hz; split at hz <;> simp at hz
          · simp at hz
        · simp at hz)
      obtain ⟨ccs, h1, h2⟩ := run_fill hr ha hps hzc hcs
      refine ⟨.agg ccs, ?_, .agg _ _ h2.1 h2.2⟩
      have hm := run_places (w := w) hpl
      simp only [Instr.build, Sem.run_bind, hzv, Result.andThen_ok, run_underlying hu, Array.mapM_eq_mapM_toList, Sem.run_map, hm]
      simp [h1]
    · simp at hl
  · rename_i zero n e hz hu
    split at hl
    · rename_i z hsz
      simp only [Option.map_eq_some_iff] at hl
      obtain ⟨ps, hps, rfl⟩ := hl
      simp only [quietI, quietV, Option.map_eq_some_iff] at hq
      obtain ⟨cs, hcs, rfl⟩ := hq
      obtain ⟨zv, hzv, hzr⟩ := run_zeroValue hz w I
      have hzc : VRels w I zero.cells zv.cells := hzr.cells (fun e => by
        unfold zeroP at hz
        split at hz
        · split at hz
          · rw [e] at hz; unfold absV at hz; split at hz
            · simp at hz
            · unfold absS at hz; split at hz <;> simp at hz
          · simp at hz
        · simp at hz)
      obtain ⟨ccs, h1, h2⟩ := run_fill hr ha hps hzc hcs
      refine ⟨.agg ccs, ?_, .agg _ _ h2.1 h2.2⟩
      simp only [Instr.build, Sem.run_bind, hzv, Result.andThen_ok, run_underlying hu, run_sizeOf hsz]
      simp [h1]
    · simp at hl
  · simp at hl

theorem scalarEq_self (k : Nat) (x : AV) : scalarEq k x x = some true ∨ scalarEq k x x = none := by
  unfold scalarEq
  split
  · split <;> simp
  · split <;> simp
  · split <;> simp
  · simp

/-- A key may be asked for. -/
theorem run_checkKey {e : Bool} (d : Nat) {t : TypeId} {r : Bool × List Nat} (hk : keyP P t = some r) {x : AV} {cx : Value} (hx : VRel w I x cx) (h : keyOk r.1 r.2 x = true) :
    (Instr.checkKey e (d + 2) t cx).run P w = .ok () w := by
  have scal : ∀ (d : Nat) {t : TypeId} {k : Nat} (_ : kindP P t = some k) (c : Value), (Instr.checkKey e (d + 1) t c).run P w = .ok () w := fun d t k hk c => by
    unfold kindP at hk
    split at hk
    · rename_i hu; simp [Instr.checkKey, run_underlying hu]
    · rename_i hu; simp [Instr.checkKey, run_underlying hu]
    · rename_i hu; simp [Instr.checkKey, run_underlying hu]
    · simp at hk
  unfold keyP at hk
  split at hk
  · simp only [Option.map_eq_some_iff] at hk
    obtain ⟨ks, hks, rfl⟩ := hk
    simp only [keyOk, keyEq, if_true] at h
    cases x with
    | agg xs =>
      obtain ⟨vs, rfl, hvs⟩ := hx.agg_inv
      obtain ⟨fs, hu, _, _, hf⟩ := eqsP_spec hks
      have scal' : ∀ {t : TypeId} {k : Nat} (_ : kindP P t = some k) (c : Value), (Instr.checkKey e (d + 1) t c).run P w = .ok () w := fun hk c => scal d hk c
      clear scal
      show (Instr.checkKey e ((d + 1) + 1) t (.agg vs)).run P w = .ok () w
      generalize d + 1 = d' at scal' ⊢
      simp only [Instr.checkKey, Sem.run_bind, run_underlying hu, Result.andThen_ok]
      rw [← Array.forIn_toList]
      clear hks hu
      have h' : (cellsEq ks (xs.drop 0) (xs.drop 0)).isSome = true := by simpa using h
      clear h
      have hf' := hf
      clear hf
      generalize (0 : Nat) = o at hf' h'
      have hf := hf'
      clear hf'
      generalize fs.toList = l at hf ⊢
      induction l generalizing o ks with
      | nil => simp
      | cons f l ih =>
        simp only [flatP] at hf
        split at hf
        · rename_i hcond
          split at hf
          · rename_i k ks' hk hks
            simp only [Option.some.injEq] at hf
            subst hf
            cases hxd : xs.drop o with
            | nil => rw [hxd] at h'; simp [cellsEq] at h'
            | cons x xs' =>
              rw [hxd] at h'
              simp only [cellsEq] at h'
              have hxo : xs[o]? = some x := by
                have := congrArg (·[0]?) hxd
                simpa [List.getElem?_drop] using this
              have hxs : xs.drop (o + 1) = xs' := by
                have := congrArg (List.drop 1) hxd
                simpa [List.drop_drop] using this
              obtain ⟨u, p1, p2⟩ := run_part (P := P) (kindP_shape hk) (off := o) hvs (v := x) (by simpa [partA] using hxo)
              obtain ⟨hname, rfl⟩ := hcond
              rcases scalarEq_self k x with hself | hself
              · rw [hself] at h'
                have ih' := ih ks' (f.offset + 1) (by rw [hxs]; exact h') hks
                simp only [List.forIn_cons, Sem.run_bind, Sem.run_ite]
                rw [if_pos hname]
                simp only [p1, Result.andThen_ok, scal' hk, Sem.run_pure]
                exact ih'
              · rw [hself] at h'; simp at h'
          · simp at hf
        · simp at hf
    | _ => simp at h
  · simp only [Option.map_eq_some_iff] at hk
    obtain ⟨k, hks, rfl⟩ := hk
    exact scal (d + 1) hks cx

end
end Go.Scr
