/- Each quiet instruction answers what the model's operation answers: part 10 of a program logic over the model: look-ups, and all together. No condition but that the operation was lowered to it. -/
import Derived.Test.YtagjgpkomcmkbaaGreatDoorEcoreI
namespace Go.Scr
open Go

/-- Entries of a map, side by side. -/
def ERel (w : World) (I : Imm) (es : List (AV × AV × Nat)) (es' : List MapEntry) : Prop :=
  es.length = es'.length ∧ ∀ (i : Nat) (k v : AV) (n : Nat), es[i]? = some (k, v, n) → ∃ x : MapEntry, es'[i]? = some x ∧ VRel w I k x.key ∧ VRel w I v x.val ∧ x.born = n

section
variable {P : Program} {w : World} {I : Imm}

theorem ERel.cons_inv {k v : AV} {n : Nat} {es : List (AV × AV × Nat)} {es' : List MapEntry} (h : ERel w I ((k, v, n) :: es) es') : ∃ x r, es' = x :: r ∧ VRel w I k x.key ∧ VRel w I v x.val ∧ x.born = n ∧ ERel w I es r := by
  obtain ⟨h1, h2⟩ := h
  cases es' with
  | nil => simp at h1
  | cons x r =>
    obtain ⟨y, hy, p⟩ := h2 0 k v n rfl
    simp only [List.getElem?_cons_zero, Option.some.injEq] at hy
    subst hy
    exact ⟨x, r, rfl, p.1, p.2.1, p.2.2, by simpa using h1, fun i k v n hi => by simpa using h2 (i + 1) k v n (by simpa using hi)⟩

/-- Where a key is first met. -/
theorem run_findAsking {t : TypeId} {r : Bool × List Nat} (hk : keyP P t = some r) {k : AV} {ck : Value} (hkv : VRel w I k ck) :
    ∀ {es : List (AV × AV × Nat)} {es' : List MapEntry} {i : Nat} {o : Option Nat}, ERel w I es es' → idxA r.1 r.2 k es i = some o →
      (Instr.findAsking t ck es' i).run P w = .ok (o.map fun j => (j, ((es'[j - i]?).map (·.val)).getD undef)) w ∧ (∀ j, o = some j → i ≤ j ∧ j < i + es.length)
  | [], es', i, o, he, h => by
    obtain rfl : es' = [] := List.eq_nil_of_length_eq_zero he.1.symm
    simp only [idxA, Option.some.injEq] at h
    subst h
    exact ⟨by simp [Instr.findAsking], by simp⟩
  | (k', v, n) :: es, es', i, o, he, h => by
    obtain ⟨x, rest, rfl, p1, p2, p3, p4⟩ := he.cons_inv
    simp only [idxA] at h
    cases hq : keyEq r.1 r.2 k k' with
    | none => rw [hq] at h; simp at h
    | some b =>
      rw [hq] at h
      have hr : (Op.equal t ck x.key).run P w = .ok b w := run_keyEq (P := P) 9998 hk hkv p1 hq
      cases b with
      | true =>
        simp only [Option.some.injEq] at h
        subst h
        exact ⟨by simp [Instr.findAsking, hr], by simp⟩
      | false =>
        obtain ⟨h1, h2⟩ := run_findAsking hk hkv p4 h
        refine ⟨?_, fun j hj => by have := h2 j hj; simp; omega⟩
        simp only [Instr.findAsking, Sem.run_bind, hr, Result.andThen_ok, Bool.false_eq_true, if_false, h1]
        cases o with
        | none => rfl
        | some j =>
          have := h2 j rfl
          simp only [Option.map_some]
          rw [show j - i = (j - (i + 1)) + 1 by omega, List.getElem?_cons_succ]

theorem findNow_scalar {d : TypeDesc} {k₀ : Nat} (hd : (∃ q, d = .int q ∧ k₀ = 0) ∨ (d = .string ∧ k₀ = 1) ∨ (d = .bool ∧ k₀ = 2)) {k : AV} {ck : Value} (hkv : VRel w I k ck) :
    ∀ {es : List (AV × AV × Nat)} {es' : List MapEntry} {i : Nat} {o : Option Nat}, ERel w I es es' → idxA false [k₀] k es i = some o →
      Instr.findNow d ck es' i = some (o.map fun j => (j, ((es'[j - i]?).map (·.val)).getD undef)) ∧ (∀ j, o = some j → i ≤ j ∧ j < i + es.length)
  | [], es', i, o, he, h => by
    obtain rfl : es' = [] := List.eq_nil_of_length_eq_zero he.1.symm
    simp only [idxA, Option.some.injEq] at h
    subst h
    exact ⟨by simp [Instr.findNow], by simp⟩
  | (k', v, n) :: es, es', i, o, he, h => by
    obtain ⟨x, rest, rfl, p1, p2, p3, p4⟩ := he.cons_inv
    simp only [idxA] at h
    cases hq : keyEq false [k₀] k k' with
    | none => rw [hq] at h; simp at h
    | some b =>
      rw [hq] at h
      have hr : Instr.sameNow d ck x.key = some b := by
        simp only [keyEq, Bool.false_eq_true, if_false] at hq
        unfold scalarEq at hq
        split at hq
        · split at hq
          · rename_i hc
            obtain ⟨rfl, rfl⟩ := hc
            have e1 := hkv.int_inv
            have e2 := p1.int_inv
            simp only [Option.some.injEq] at hq
            rcases hd with ⟨q, rfl, _⟩ | ⟨_, h0⟩ | ⟨_, h0⟩
            · rw [e1, e2]; simp [Instr.sameNow, hq]
            · cases h0
            · cases h0
          · simp at hq
        · split at hq
          · rename_i hc
            subst hc
            obtain ⟨s, rfl, e1⟩ := hkv.str_inv
            obtain ⟨s', rfl, e2⟩ := p1.str_inv
            simp only [Option.some.injEq] at hq
            rcases hd with ⟨q, _, h0⟩ | ⟨rfl, _⟩ | ⟨_, h0⟩
            · cases h0
            · rw [e1, e2]; simp only [Instr.sameNow]; rw [beq_toListBytes, ByteArray.toList_eq, ByteArray.toList_eq, hq]
            · cases h0
          · simp at hq
        · split at hq
          · rename_i hc
            subst hc
            have e1 := hkv.bool_inv
            have e2 := p1.bool_inv
            simp only [Option.some.injEq] at hq
            rcases hd with ⟨q, _, h0⟩ | ⟨_, h0⟩ | ⟨rfl, _⟩
            · cases h0
            · cases h0
            · rw [e1, e2]; simp [Instr.sameNow, hq]
          · simp at hq
        · simp at hq
      cases b with
      | true =>
        simp only [Option.some.injEq] at h
        subst h
        exact ⟨by simp [Instr.findNow, hr], by simp⟩
      | false =>
        obtain ⟨h1, h2⟩ := findNow_scalar hd hkv p4 h
        refine ⟨?_, fun j hj => by have := h2 j hj; simp; omega⟩
        simp only [Instr.findNow, hr, h1]
        cases o with
        | none => rfl
        | some j =>
          have := h2 j rfl
          simp only [Option.map_some]
          rw [show j - i = (j - (i + 1)) + 1 by omega, List.getElem?_cons_succ]

theorem findNow_struct {fs : Array Field} {ck : Value} {es' : List MapEntry} : Instr.findNow (.struct fs) ck es' 0 = if es' = [] then some none else none := by
  cases es' with
  | nil => simp [Instr.findNow]
  | cons x r => simp [Instr.findNow, Instr.sameNow]

theorem run_findKey {t : TypeId} {r : Bool × List Nat} (hk : keyP P t = some r) {k : AV} {ck : Value} (hkv : VRel w I k ck) {es : List (AV × AV × Nat)} {es' : List MapEntry} {o : Option Nat}
    (he : ERel w I es es') (h : idxA r.1 r.2 k es 0 = some o) :
    (Instr.findKey t ck es').run P w = .ok (o.map fun j => (j, ((es'[j]?).map (·.val)).getD undef)) w ∧ (∀ j, o = some j → j < es.length) := by
  have hk' := hk
  unfold keyP at hk
  split at hk
  · rename_i fs hu
    simp only [Option.map_eq_some_iff] at hk
    obtain ⟨ks, hks, rfl⟩ := hk
    obtain ⟨h1, h2⟩ := run_findAsking hk' hkv he h
    refine ⟨?_, fun j hj => by have := h2 j hj; omega⟩
    simp only [Instr.findKey, Sem.run_bind, run_underlying hu, Result.andThen_ok, findNow_struct]
    split
    · rename_i heq
      split at heq
      · rename_i hnil
        subst hnil
        simp only [Option.some.injEq] at heq
        subst heq
        obtain rfl : es = [] := List.eq_nil_of_length_eq_zero (by simpa using he.1)
        simp only [idxA, Option.some.injEq] at h
        subst h
        rfl
      · simp at heq
    · simpa using h1
  · rename_i hns
    simp only [Option.map_eq_some_iff] at hk
    obtain ⟨k₀, hks, rfl⟩ := hk
    obtain ⟨d, hu, hd⟩ : ∃ d, P.underlying t = some d ∧ ((∃ q, d = .int q ∧ k₀ = 0) ∨ (d = .string ∧ k₀ = 1) ∨ (d = .bool ∧ k₀ = 2)) := by
      unfold kindP at hks
      split at hks
      · rename_i q hu; exact ⟨_, hu, .inl ⟨q, rfl, by simpa using hks.symm⟩⟩
      · rename_i hu; exact ⟨_, hu, .inr (.inl ⟨rfl, by simpa using hks.symm⟩)⟩
      · rename_i hu; exact ⟨_, hu, .inr (.inr ⟨rfl, by simpa using hks.symm⟩)⟩
      · simp at hks
    obtain ⟨h1, h2⟩ := findNow_scalar hd hkv he h
    refine ⟨?_, fun j hj => by have := h2 j hj; omega⟩
    simp only [Instr.findKey, Sem.run_bind, run_underlying hu, Result.andThen_ok, h1]
    simp

theorem findA_idx {ag : Bool} {ks : List Nat} {k : AV} : ∀ {es : List (AV × AV × Nat)} {i : Nat} {r : Option AV}, findA ag ks k es = some r →
    ∃ o, idxA ag ks k es i = some o ∧ (r = none ↔ o = none) ∧ ∀ j v, o = some j → r = some v → i ≤ j ∧ ∃ k' n, es[j - i]? = some (k', v, n)
  | [], i, r, h => by
    simp only [findA, Option.some.injEq] at h
    subst h
    exact ⟨none, by simp [idxA]⟩
  | (k', v, n) :: es, i, r, h => by
    simp only [findA] at h
    cases hq : keyEq ag ks k k' with
    | none => rw [hq] at h; simp at h
    | some b =>
      rw [hq] at h
      cases b with
      | true =>
        simp only [Option.some.injEq] at h
        subst h
        refine ⟨some i, by simp [idxA, hq], by simp, fun j v' hj hv => ?_⟩
        simp only [Option.some.injEq] at hj hv
        subst hj
        subst hv
        exact ⟨Nat.le_refl _, k', n, by simp⟩
      | false =>
        obtain ⟨o, h1, h2, h3⟩ := findA_idx (i := i + 1) h
        refine ⟨o, by simp [idxA, hq, h1], h2, fun j v' hj hv => ?_⟩
        obtain ⟨h4, k'', n', h5⟩ := h3 j v' hj hv
        refine ⟨by omega, k'', n', ?_⟩
        rw [show j - i = (j - (i + 1)) + 1 by omega, List.getElem?_cons_succ]
        exact h5

theorem ObjRel.map_inv {P : Program} {b : Nat} {es : List (AV × AV × Nat)} {clock : Nat} (h : ObjRel P w I b (.map es clock)) : ∃ es' : Array MapEntry, w.heap[b]? = some (.map es' clock) ∧ ERel w I es es'.toList := by
  obtain ⟨es', h1, h2, h3⟩ := h
  exact ⟨es', h1, by simpa using h2, fun i k v n hi => by
    obtain ⟨x, hx, p⟩ := h3 i k v n hi
    exact ⟨x, by simpa using hx, p⟩⟩

theorem run_getObj_map {b : Nat} {es : Array MapEntry} {clock : Nat} (h : w.heap[b]? = some (.map es clock)) : (getObj b).run P w = .ok (.map es clock) w := by
  simp [getObj, Sem.run, h]

theorem run_lookupA {X : Ctx} {σ : AH} (hr : Rel X I σ w) {mt kt et : TypeId} {r : Bool × List Nat} (hu : P.underlying mt = some (.map kt et)) (hk : keyP P kt = some r) {zero : AV} (hz : zeroP P et = some zero) {ok : Bool}
    {m k v : AV} {cm ck : Value} (hm : VRel w I m cm) (hkv : VRel w I k ck) (h : lookupA σ r.1 r.2 zero ok k m = some v) :
    ∃ u, (Instr.lookup mt cm ck ok).run P w = .ok u w ∧ VRel w I v u := by
  obtain ⟨zv, hzv, hzr⟩ := run_zeroValue hz w I
  have ht : ∀ (v : AV) (vv : Value) (b : Bool), VRel w I v vv → VRel w I (if ok then .tuple [v, .bool b] else v) (if ok then .tuple #[vv, .bool b] else vv) := fun v vv b h4 => by
    cases ok
    · exact h4
    · refine .tuple _ _ rfl fun i c hc => ?_
      rcases i with _ | _ | i
      · simp only [List.getElem?_cons_zero, Option.some.injEq] at hc; subst hc; exact h4
      · simp only [List.getElem?_cons_succ, List.getElem?_cons_zero, Option.some.injEq] at hc; subst hc; exact .bool _
      · simp at hc
  unfold lookupA at h
  split at h
  · obtain rfl := hm.map_inv
    split at h
    · simp at h
    · rename_i hok
      simp only [Option.some.injEq] at h
      subst h
      have h1 := fun e => run_checkKey (P := P) (w := w) (e := e) 9998 hk hkv (by simpa using hok)
      obtain ⟨h2, _⟩ := run_findKey (P := P) (w := w) (I := I) hk hkv (es := []) (es' := []) (o := none) ⟨rfl, by simp⟩ (by simp [idxA])
      have h2' : (Instr.findKey kt ck (#[] : Array MapEntry).toList).run P w = .ok none w := h2
      refine ⟨_, ?_, ht zero zv false hzr⟩
      simp only [Instr.lookup, Sem.run_bind, run_underlying hu, Result.andThen_ok, Sem.run_pure, h1, h2', hzv]
  · rename_i b
    obtain rfl := hm.map_inv
    split at h
    · rename_i es clock hb
      split at h
      · simp at h
      · rename_i hok
        obtain ⟨es', g1, g2⟩ := (hr.obj _ _ hb).2.2.map_inv
        have h1 := fun e => run_checkKey (P := P) (w := w) (e := e) 9998 hk hkv (by simpa using hok)
        split at h
        · rename_i v' hf
          obtain ⟨o, i1, i2, i3⟩ := findA_idx (i := 0) hf
          cases o with
          | none => simp at i2
          | some j =>
            obtain ⟨_, k', n, i4⟩ := i3 j v' rfl rfl
            obtain ⟨x, hx, _, p2, _⟩ := g2.2 _ _ _ _ i4
            obtain ⟨h2, _⟩ := run_findKey (P := P) hk hkv g2 i1
            simp only [Nat.sub_zero] at hx
            have h2' : (Instr.findKey kt ck es'.toList).run P w = .ok (some (j, x.val)) w := by rw [h2]; simp only [Option.map_some, hx, Option.getD_some]
            simp only [Option.some.injEq] at h
            subst h
            refine ⟨_, ?_, ht v' x.val true p2⟩
            simp only [Instr.lookup, Sem.run_bind, run_underlying hu, Result.andThen_ok, run_getObj_map g1, Sem.run_pure, h1, h2']
        · rename_i hf
          obtain ⟨o, i1, i2, _⟩ := findA_idx (i := 0) hf
          obtain rfl := i2.1 rfl
          obtain ⟨h2, _⟩ := run_findKey (P := P) hk hkv g2 i1
          have h2' : (Instr.findKey kt ck es'.toList).run P w = .ok none w := h2
          simp only [Option.some.injEq] at h
          subst h
          refine ⟨_, ?_, ht zero zv false hzr⟩
          simp only [Instr.lookup, Sem.run_bind, run_underlying hu, Result.andThen_ok, run_getObj_map g1, Sem.run_pure, h1, h2', hzv]
        · simp at h
    · simp at h
  · simp at h

end
end Go.Scr
