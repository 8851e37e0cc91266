/- Each quiet instruction answers what the model's operation answers: part 11 of a program logic over the model: the theorem 'quiet_sound'. No condition but that the operation was lowered to it. -/
import Derived.Test.YtagjgpkomcmkbaaGreatDoorEcoreJ
namespace Go.Scr
open Go

section
variable {X : Ctx} {I : Imm} {σ : AH} {w : World} {a : AAct} {A : Act}

theorem VRels.map_toArray {xs : List AV} {vs : Array Operand} (h : VRels w I xs (vs.toList.map A.eval).toArray) : VRels w I xs (vs.map A.eval) := by
  have : vs.map A.eval = (vs.toList.map A.eval).toArray := by apply Array.ext'; simp
  rw [this]
  exact h

theorem optd_sound (hr : Rel X I σ w) (ha : ARel w I a A) {x : Option Operand} {y : Option Opd} (h : lowOpt x = some y) : VRelO w I (y.map (ev X a)) (x.map A.eval) := by
  unfold lowOpt at h
  split at h
  · simp only [Option.some.injEq] at h
    subst h
    trivial
  · simp only [Option.map_eq_some_iff] at h
    obtain ⟨z, hz, rfl⟩ := h
    exact opd_sound hr ha hz

theorem run_lowBin (hr : Rel X I σ w) (ha : ARel w I a A) {op : BinOp} {t : TypeId} {x y : Operand} {x' y' : Opd} (hx : lowOpd x = some x') (hy : lowOpd y = some y') {i : I1} (hl : lowBin X.P op t x' y' = some i)
    {v : AV} (hq : quietI X a σ i = some v) : ∃ u, (do eqGuard op t x y (A.eval x) (A.eval y); binOp op t (A.eval x) (A.eval y) : Sem Value).run X.P w = .ok u w ∧ VRel w I v u := by
  have h1 := opd_sound hr ha hx
  have h2 := opd_sound hr ha hy
  unfold lowBin at hl
  split at hl
  · simp only [Option.some.injEq] at hl; subst hl; exact run_bin h1 h2 hq
  · simp only [Option.some.injEq] at hl; subst hl; exact run_bin h1 h2 hq
  · rename_i hu; simp only [Option.some.injEq] at hl; subst hl; exact run_eqb hu h1 h2 hq
  · rename_i hu; simp only [Option.some.injEq] at hl; subst hl; exact run_eqp hu h1 h2 hq
  · rename_i hu; simp only [Option.some.injEq] at hl; subst hl; exact run_eqn hu h1 h2 hq
  · split at hl
    · rename_i ks hks
      split at hl
      · simp only [Option.some.injEq] at hl; subst hl; exact run_eqs hks (.inl ⟨rfl, rfl⟩) h1 h2 hq
      · simp only [Option.some.injEq] at hl; subst hl; exact run_eqs hks (.inr ⟨rfl, rfl⟩) h1 h2 hq
      · simp at hl
    · simp at hl
  · simp at hl

/-- A builtin that turns nothing. -/
theorem run_lowBuiltin {mode : Nat} {b : Builtin} {ts : Array TypeId} {ty : TypeId} {cs : Array Bool} {xs : List Opd} {vs : Array Value} {i : I1} (hl : lowBuiltin X.P mode b ts.toList xs = some i)
    (hr : Rel X I σ w) (hv : VRels w I (xs.map (ev X a)) vs) {v : AV} (hq : quietI X a σ i = some v) : ∃ u, (builtin b ts ty cs vs).run X.P w = .ok (.value u) w ∧ VRel w I v u := by
  unfold lowBuiltin at hl
  split at hl
  · rename_i t x hts
    obtain rfl : ts = #[t] := by
      apply Array.ext'
      simpa using hts
    obtain ⟨cx, rfl⟩ : ∃ cx, vs = #[cx] := by
      have := hv.1
      simp only [List.map_cons, List.map_nil, List.length_cons, List.length_nil] at this
      exact Array.size_eq_one_iff.1 this.symm
    have hx := hv.2 0 (ev X a x) (by simp)
    simp only [Array.getD_eq_getD_getElem?, List.getElem?_toArray, List.getElem?_cons_zero, Option.getD_some] at hx
    split at hl
    · rename_i hu
      simp only [Option.some.injEq] at hl
      subst hl
      obtain ⟨u, h1, h2⟩ := run_lens (P := X.P) (t := t) (ty := ty) hu hx hq
      exact ⟨u, by simp [builtin, h1], h2⟩
    · rename_i e hu
      simp only [Option.some.injEq] at hl
      subst hl
      obtain ⟨u, h1, h2⟩ := run_len (P := X.P) (t := t) (ty := ty) hu hx hq
      exact ⟨u, by simp [builtin, h1], h2⟩
    · rename_i kt et hu
      simp only [Option.some.injEq] at hl
      subst hl
      simp only [quietI, quietV] at hq
      unfold lenmA at hq
      split at hq
      · rename_i he
        rw [he] at hx
        obtain rfl := hx.map_inv
        simp only [Option.some.injEq] at hq
        subst hq
        exact ⟨_, by simp [builtin, Builtin.len_, run_underlying hu, goInt], .int _ _⟩
      · rename_i r he
        rw [he] at hx
        obtain rfl := hx.map_inv
        split at hq
        · rename_i es clock hb
          obtain ⟨es', g1, g2⟩ := (hr.obj _ _ hb).2.2.map_inv
          simp only [Option.some.injEq] at hq
          subst hq
          refine ⟨_, ?_, .int _ _⟩
          have : (es.length : Int) = es'.size := by rw [g2.1]; simp
          simp [builtin, Builtin.len_, run_underlying hu, goInt, run_getObj_map g1, this]
        · simp at hq
      · simp at hq
    · simp at hl
  · split at hl
    · split at hl
      · split at hl
        · split at hl
          · simp only [Option.some.injEq] at hl
            subst hl
            simp [quietI, quietV] at hq
          · simp at hl
        · simp at hl
      · simp at hl
    · simp at hl
  · simp only [Option.some.injEq] at hl
    subst hl
    simp only [quietI, quietV] at hq
    obtain ⟨h1, h2⟩ := hv
    obtain ⟨vs⟩ := vs
    generalize List.map (ev X a) _ = zs at hq h1 h2
    cases zs with
    | nil => simp [foldA] at hq
    | cons y ys =>
      cases vs with
      | nil => simp at h1
      | cons c cs' =>
        have hy := h2 0 y rfl
        simp only [Array.getD_eq_getD_getElem?, List.getElem?_toArray, List.getElem?_cons_zero, Option.getD_some] at hy
        obtain ⟨u, p1, p2⟩ := run_foldMax (P := X.P) (vs := cs') hy (by simpa using h1) (fun i c hc => by simpa using h2 (i + 1) c (by simpa using hc)) hq
        exact ⟨u, by simp [builtin, Builtin.max_, p1], p2⟩
  · simp only [Option.some.injEq] at hl
    subst hl
    simp only [quietI, quietV] at hq
    obtain ⟨h1, h2⟩ := hv
    obtain ⟨vs⟩ := vs
    generalize List.map (ev X a) _ = zs at hq h1 h2
    cases zs with
    | nil => simp [foldA] at hq
    | cons y ys =>
      cases vs with
      | nil => simp at h1
      | cons c cs' =>
        have hy := h2 0 y rfl
        simp only [Array.getD_eq_getD_getElem?, List.getElem?_toArray, List.getElem?_cons_zero, Option.getD_some] at hy
        obtain ⟨u, p1, p2⟩ := run_foldMin (P := X.P) (vs := cs') hy (by simpa using h1) (fun i c hc => by simpa using h2 (i + 1) c (by simpa using hc)) hq
        exact ⟨u, by simp [builtin, Builtin.min_, p1], p2⟩
  · simp at hl

/-- EACH QUIET INSTRUCTION ANSWERS WHAT THE OPERATION ANSWERS, and turns nothing. -/
theorem quiet_sound (hr : Rel X I σ w) (ha : ARel w I a A) {o : Oper} {mode : Nat} {i : I1} (hl : lowOp X.P mode o = some i) {v : AV} (hq : quietI X a σ i = some v) :
    ∃ u, (execOp A.eval o).run X.P w = .ok (.value u) w ∧ VRel w I v u := by
  obtain ⟨dst, op, ty, pos, after, guard⟩ := o
  unfold lowOp at hl
  simp only at hl
  split at hl
  · -- move
    simp only [Option.map_eq_some_iff] at hl
    obtain ⟨y, hy, rfl⟩ := hl
    simp only [quietI, quietV, Option.some.injEq] at hq
    subst hq
    exact ⟨_, by simp [execOp], opd_sound hr ha hy⟩
  · simp only [Option.map_eq_some_iff] at hl
    obtain ⟨y, hy, rfl⟩ := hl
    simp only [quietI, quietV, Option.some.injEq] at hq
    subst hq
    exact ⟨_, by simp [execOp], opd_sound hr ha hy⟩
  · -- pick
    split at hl
    · rename_i c x y hc hx hy
      simp only [Option.some.injEq] at hl
      subst hl
      simp only [quietI, quietV] at hq
      split at hq
      · rename_i b hb
        have h1 := opd_sound hr ha hc
        rw [hb] at h1
        have h2 := h1.bool_inv
        simp only [Option.some.injEq] at hq
        subst hq
        refine ⟨_, by simp [execOp, h2, asBool]; rfl, ?_⟩
        cases b
        · exact opd_sound hr ha hy
        · exact opd_sound hr ha hx
      · simp at hq
    · simp at hl
  · -- nilCheck
    simp only [Option.map_eq_some_iff] at hl
    obtain ⟨y, hy, rfl⟩ := hl
    simp only [quietI, quietV] at hq
    have h1 := opd_sound hr ha hy
    unfold nilckA at hq
    split at hq
    · rename_i b o he
      rw [he] at h1
      simp only [Option.some.injEq] at hq
      subst hq
      exact ⟨_, by simp [execOp, h1.ptr_inv], .ptr _ _⟩
    · rename_i cs he
      rw [he] at h1
      simp only [Option.some.injEq] at hq
      subst hq
      obtain ⟨B, off, cv, e, _⟩ := h1.rptr_inv
      rw [e] at h1
      exact ⟨_, by simp [execOp, e], h1⟩
    · rename_i f xs ys he
      rw [he] at h1
      simp only [Option.some.injEq] at hq
      subst hq
      obtain ⟨vs, us, e, _⟩ := h1.func_inv
      rw [e] at h1
      exact ⟨_, by simp [execOp, e], h1⟩
    · rename_i l he
      rw [he] at h1
      simp only [Option.some.injEq] at hq
      subst hq
      exact ⟨_, by simp [execOp, h1.yield_inv], .yield l⟩
    · simp at hq
  · -- binOp
    split at hl
    · rename_i x y hx hy
      obtain ⟨u, h1, h2⟩ := run_lowBin hr ha hx hy hl hq
      exact ⟨u, by simp only [execOp, Sem.run_bind] at h1 ⊢; simp [h1], h2⟩
    · simp at hl
  · -- not
    simp only [Option.map_eq_some_iff] at hl
    obtain ⟨y, hy, rfl⟩ := hl
    simp only [quietI, quietV] at hq
    have h1 := opd_sound hr ha hy
    unfold notA at hq
    split at hq
    · rename_i b he
      rw [he] at h1
      simp only [Option.some.injEq] at hq
      subst hq
      exact ⟨_, by simp [execOp, h1.bool_inv, Op.unary], .bool _⟩
    · simp at hq
  · -- neg
    simp only [Option.map_eq_some_iff] at hl
    obtain ⟨y, hy, rfl⟩ := hl
    simp only [quietI, quietV] at hq
    have h1 := opd_sound hr ha hy
    unfold negA at hq
    split at hq
    · rename_i k n he
      rw [he] at h1
      simp only [Option.some.injEq] at hq
      subst hq
      exact ⟨.int k (k.wrap (0 - n)), by simp only [execOp, h1.int_inv, Op.unary, Op.intArith, Sem.run_bind, Sem.run_pure, Result.andThen_ok], .int _ _⟩
    · simp at hq
  · -- convert
    split at hl
    · rename_i q k hs ht
      simp only [Option.map_eq_some_iff] at hl
      obtain ⟨y, hy, rfl⟩ := hl
      simp only [quietI, quietV] at hq
      have h1 := opd_sound hr ha hy
      unfold convA at hq
      split at hq
      · rename_i k' n he
        rw [he] at h1
        simp only [Option.some.injEq] at hq
        subst hq
        exact ⟨_, by simp [execOp, h1.int_inv, convert, run_underlying hs, run_underlying ht, Conv.intToInt], .int _ _⟩
      · simp at hq
    · rename_i hs ht
      simp only [Option.map_eq_some_iff] at hl
      obtain ⟨y, hy, rfl⟩ := hl
      simp only [quietI, quietV] at hq
      have h1 := opd_sound hr ha hy
      unfold cvsA at hq
      split at hq
      · rename_i s he
        rw [he] at h1
        simp only [Option.some.injEq] at hq
        subst hq
        obtain ⟨bs, hbs, e⟩ := h1.str_inv
        exact ⟨_, by simp [execOp, e, convert, run_underlying hs, run_underlying ht], .str _ _ hbs⟩
      · simp at hq
    · simp at hl
  · -- makeFunc
    split at hl
    · rename_i f first captured xs ys hx hy
      simp only [Option.some.injEq] at hl
      subst hl
      simp only [quietI, quietV, Option.some.injEq] at hq
      subst hq
      have h1 := (opds_sound hr ha hx).map_toArray
      have h2 := (opds_sound hr ha hy).map_toArray
      exact ⟨_, by simp only [execOp, Instr.makeFunc, Sem.run_bind, Sem.run_pure, Result.andThen_ok], .func _ _ _ _ _ h1.1 h2.1 h1.2 h2.2⟩
    · simp at hl
  · -- fieldAddr
    split at hl
    · rename_i x hx
      obtain ⟨u, h1, h2⟩ := run_fieldAt (P := X.P) hl (opd_sound hr ha hx) hq
      exact ⟨u, by simp [execOp, h1], h2⟩
    · simp at hl
  · -- field
    split at hl
    · rename_i x hx
      obtain ⟨u, h1, h2⟩ := run_field (P := X.P) hl (opd_sound hr ha hx) hq
      exact ⟨u, by simp [execOp, h1], h2⟩
    · simp at hl
  · -- indexAddr
    split at hl
    · rename_i x y hx hy
      obtain ⟨u, h1, h2⟩ := run_indexAt (P := X.P) hl (opd_sound hr ha hx) (opd_sound hr ha hy) hq
      exact ⟨u, by simp [execOp, h1], h2⟩
    · simp at hl
  · -- index
    split at hl
    · rename_i x y hu hx hy
      simp only [Option.some.injEq] at hl
      subst hl
      obtain ⟨u, h1, h2⟩ := run_indexStr (P := X.P) hu (opd_sound hr ha hx) (opd_sound hr ha hy) hq
      exact ⟨u, by simp [execOp, h1], h2⟩
    · simp at hl
  · -- slice
    split at hl
    · rename_i x lo hi hx hlo hhi
      obtain ⟨u, h1, h2⟩ := run_slc (P := X.P) hl (opd_sound hr ha hx) (optd_sound hr ha hlo) (optd_sound hr ha hhi) hq
      exact ⟨u, by simp [execOp, h1], h2⟩
    · simp at hl
  · -- extract
    simp only [Option.map_eq_some_iff] at hl
    obtain ⟨y, hy, rfl⟩ := hl
    simp only [quietI, quietV] at hq
    have h1 := opd_sound hr ha hy
    unfold extA at hq
    split at hq
    · rename_i xs he
      rw [he] at h1
      obtain ⟨vs, e, hv⟩ := h1.tuple_inv
      rename_i x ix _
      have hlt : ix < vs.size := by rw [← hv.1]; exact (List.getElem?_eq_some_iff.1 hq).1
      have := hv.2 _ _ hq
      refine ⟨vs[ix], by simp [execOp, e, Instr.extract, hlt], ?_⟩
      simpa [Array.getD_eq_getD_getElem?, hlt] using this
    · simp at hq
  · -- build
    obtain ⟨u, h1, h2⟩ := run_build rfl hr ha hl hq
    exact ⟨u, by simp [execOp, h1], h2⟩
  · -- load
    split at hl
    · rename_i n x hn hx
      simp only [Option.some.injEq] at hl
      subst hl
      obtain ⟨u, h1, h2⟩ := run_loadAt (P := X.P) hr hn (opd_sound hr ha hx) hq
      exact ⟨u, by simp [execOp, h1], h2⟩
    · simp at hl
  · -- lookup
    split at hl
    · rename_i kt et hu
      split at hl
      · rename_i zero m k hz hm hk
        simp only [Option.map_eq_some_iff] at hl
        obtain ⟨r, hkr, rfl⟩ := hl
        obtain ⟨u, h1, h2⟩ := run_lookupA (P := X.P) hr hu hkr hz (opd_sound hr ha hm) (opd_sound hr ha hk) hq
        exact ⟨u, by simp [execOp, h1], h2⟩
      · simp at hl
    · simp at hl
  · -- store
    split at hl
    · simp only [Option.some.injEq] at hl; subst hl; simp [quietI, quietV] at hq
    · simp at hl
  · -- alloc
    simp only [Option.map_eq_some_iff] at hl
    obtain ⟨y, hy, rfl⟩ := hl
    simp [quietI, quietV] at hq
  · -- box
    simp only [Option.map_eq_some_iff] at hl
    obtain ⟨y, hy, rfl⟩ := hl
    simp [quietI, quietV] at hq
  · -- buildSlice
    unfold lowBuildSlice at hl
    split at hl
    · split at hl
      · split at hl
        · simp only [Option.map_eq_some_iff] at hl
          obtain ⟨y, hy, rfl⟩ := hl
          simp [quietI, quietV] at hq
        · simp at hl
      · simp at hl
    · simp at hl
  · -- makeMap
    simp only [Option.some.injEq] at hl; subst hl; simp [quietI, quietV] at hq
  · -- makeSlice
    split at hl
    · split at hl
      · split at hl
        · simp only [Option.some.injEq] at hl; subst hl; simp [quietI, quietV] at hq
        · simp at hl
      · simp at hl
    · simp at hl
  · -- mapUpdate
    split at hl
    · split at hl
      · simp only [Option.map_eq_some_iff] at hl
        obtain ⟨y, hy, rfl⟩ := hl
        simp [quietI, quietV] at hq
      · simp at hl
    · simp at hl
  · split at hl
    · split at hl
      · simp only [Option.map_eq_some_iff] at hl
        obtain ⟨y, hy, rfl⟩ := hl
        simp [quietI, quietV] at hq
      · simp at hl
    · simp at hl
  · -- call
    rename_i c
    unfold lowCall at hl
    split at hl
    · rename_i xs hxs
      split at hl
      · simp only [Option.map_eq_some_iff] at hl
        obtain ⟨y, hy, rfl⟩ := hl
        simp [quietI, quietV] at hq
      · rename_i b hb
        have hv := (opds_sound hr ha hxs).map_toArray
        obtain ⟨u, h1, h2⟩ := run_lowBuiltin (ty := ty) (cs := c.args.map fun | .const _ => true | _ => false) hl hr hv hq
        refine ⟨u, ?_, h2⟩
        simp only [execOp, resolve, hb, Sem.run_bind, Sem.run_pure, Result.andThen_ok, invoke]
        exact h1
      · simp at hl
    · simp at hl
  · -- defer
    split at hl
    · simp only [Option.map_eq_some_iff] at hl
      obtain ⟨y, hy, rfl⟩ := hl
      simp [quietI, quietV] at hq
    · simp at hl
  · simp at hl

end
end Go.Scr
