/- Walks through maps: part 17b of a program logic over the model. No condition. -/
import Derived.Test.YtagjgpkomcmkbaaGreatDoorEcoreQ
import Derived.Maps.RangeRun
namespace Go.Scr
open Go

section
variable {X : Ctx} {I : Imm} {σ : AH} {w : World} {a : AAct} {A : Act}

theorem ObjRel.miter_inv {P : Program} {b : Nat} {r : Option Nat} {since stepped : Nat} {seen : List Nat} (h : ObjRel P w I b (.miter r since seen stepped)) : w.heap[b]? = some (.mapIter r since seen.toArray stepped) := h

theorem run_getIter {P : Program} {b : Nat} {r : Option Nat} {s c : Nat} {l : Array Nat} (h : w.heap[b]? = some (.mapIter r s l c)) : (getObj b).run P w = .ok (.mapIter r s l c) w := by
  simp [getObj, Sem.run, h]

theorem ERel.born {es : List (AV × AV × Nat)} {es' : List MapEntry} (h : ERel w I es es') {e : MapEntry} (he : e ∈ es') : ∃ k v, (k, v, e.born) ∈ es ∧ VRel w I k e.key ∧ VRel w I v e.val := by
  obtain ⟨i, hi⟩ := List.getElem?_of_mem he
  have hlt : i < es.length := by rw [h.1]; exact (List.getElem?_eq_some_iff.1 hi).1
  obtain ⟨k, v, n⟩ : AV × AV × Nat := es[i]
  have hes : es[i]? = some es[i] := List.getElem?_eq_getElem hlt
  obtain ⟨⟨k, v, n⟩, hk⟩ : ∃ x, es[i] = x := ⟨_, rfl⟩
  rw [hk] at hes
  obtain ⟨y, p1, p2, p3, p4⟩ := h.2 i k v n hes
  rw [hi] at p1
  simp only [Option.some.injEq] at p1
  subst p1
  subst p4
  exact ⟨k, v, List.mem_of_getElem? hes, p2, p3⟩
theorem ERel.back {es : List (AV × AV × Nat)} {es' : List MapEntry} (h : ERel w I es es') {k v : AV} {n : Nat} (he : (k, v, n) ∈ es) : ∃ e ∈ es', e.born = n := by
  obtain ⟨i, hi⟩ := List.getElem?_of_mem he
  obtain ⟨y, p1, _, _, p4⟩ := h.2 i k v n hi
  exact ⟨y, List.mem_of_getElem? p1, p4⟩

theorem did_rng (hr : Rel X I σ w) (ha : ARel w I a A) {dst : Option Nat} (hd : ∀ d, dst = some d → d < a.n) {t kt et : TypeId} (hu : X.P.underlying t = some (.map kt et)) {x : AV} {cx : Value} (hx : VRel w I x cx)
    {K : AAct → AH → Prop} (hs : rngA σ (fun v σ' => K (a.put dst v) σ') x) : Did X I w A dst K ((do pure (Next.value (← Instr.range t cx)) : Sem Next).run X.P w) := by
  unfold rngA at hs
  split at hs
  · obtain rfl := hx.map_inv
    refine ⟨.pointer (some ⟨w.heap.size, 0, none⟩), w.alloc (.mapIter none 0 #[] 0), I, _, _, .inl ?_, hs _ hr.fresh, hr.new _ (.miter none 0 [] 0) (heap_alloc_new w _), (ha.ext (Ext.alloc hr _)).put hd (.ptr _ _), Ext.alloc hr _⟩
    simp only [Sem.run_bind, Instr.range, run_underlying hu, run_newObj, Result.andThen_ok, Sem.run_pure]
    rfl
  · rename_i r
    obtain rfl := hx.map_inv
    split at hs
    · rename_i es clock hb
      obtain ⟨es', g1, _⟩ := (hr.obj _ _ hb).2.2.map_inv
      refine ⟨.pointer (some ⟨w.heap.size, 0, none⟩), w.alloc (.mapIter (some r) clock #[] clock), I, _, _, .inl ?_, hs _ hr.fresh, hr.new _ (.miter (some r) clock [] clock) (heap_alloc_new w _), (ha.ext (Ext.alloc hr _)).put hd (.ptr _ _), Ext.alloc hr _⟩
      simp only [Sem.run_bind, Instr.range, run_underlying hu, run_getObj_map g1, run_newObj, Result.andThen_ok, Sem.run_pure]
      rfl
    · exact hs.elim
  · exact hs.elim

theorem run_mapNext {P : Program} (w : World) {n : Nat} (hn : 0 < n) : ∃ (j : Nat) (w1 : World), j < n ∧ (w1 = w ∨ w1 = w.drew) ∧ (choose (Question.mapNext n)).run P w = .ok j w1 := by
  by_cases hf : n ≤ 1
  · exact ⟨0, w, by omega, .inl rfl, by simp [choose, Sem.run, Question.forced, hf]⟩
  · exact ⟨_, w.drew, Nat.mod_lt _ (by omega), .inr rfl, by
      simp only [choose, Sem.run, Question.forced, decide_eq_true_eq, hf, if_false, Question.cut]
      rfl⟩

theorem Rel.iterSet (hr : Rel X I σ w) {b : Nat} {r r' : Option Nat} {s1 s2 c1 c2 : Nat} {l1 l2 : List Nat} (hb : σ.heap b = some (.miter r s1 l1 c1)) :
    Rel X I (σ.set b (.miter r' s2 l2 c2)) { w with heap := w.heap.setIfInBounds b (.mapIter r' s2 l2.toArray c2) } ∧ Ext I w I { w with heap := w.heap.setIfInBounds b (.mapIter r' s2 l2.toArray c2) } := by
  obtain ⟨hB, htip, hobj⟩ := hr.obj b _ hb
  have h1 := hobj.miter_inv
  have hlt := (Array.getElem?_eq_some_iff.1 h1).1
  have same : ({ w with heap := w.heap.setIfInBounds b (.mapIter r' s2 l2.toArray c2) } : World).heap[b]? = some (.mapIter r' s2 l2.toArray c2) := by simp [hlt]
  have other : ∀ b', b' ≠ b → ({ w with heap := w.heap.setIfInBounds b (.mapIter r' s2 l2.toArray c2) } : World).heap[b']? = w.heap[b']? := fun b' h => by
    simp [Array.getElem?_setIfInBounds_ne (Ne.symm h)]
  have noI : ∀ i, ¬ I b i := fun i hi => by
    obtain ⟨v, hv⟩ := hr.immc b i hi
    simp [World.cell?, h1] at hv
  have x : Ext I w I { w with heap := w.heap.setIfInBounds b (.mapIter r' s2 l2.toArray c2) } :=
    ⟨fun b' i hi => ⟨hi, by
      have hbb : b' ≠ b := fun h => noI i (h ▸ hi)
      simp only [World.cell?, other b' hbb]⟩, fun b' s hs => by
      by_cases hbb : b' = b
      · subst hbb
        simp [World.shape?, h1] at hs
      · simp only [World.shape?, other b' hbb] at hs ⊢
        exact hs⟩
  refine ⟨hr.next x (fun b' o ho => ?_) (fun b' e ht => ?_) (fun _ _ hi => .inl hi) (by simp) (fun b' hb' => other b' (by omega)) rfl rfl rfl, x⟩
  · simp only [AH.set] at ho
    split at ho
    · rename_i hbb
      subst hbb
      simp only [Option.some.injEq] at ho
      subst ho
      exact .inr ⟨hB, htip, same⟩
    · rename_i hbb
      exact .inl ⟨ho, other b' hbb, fun _ hi => hi, rfl⟩
  · have hne : b' ≠ b := fun h => by
      subst h
      simp only [AH.set] at ht
      rw [htip] at ht
      simp at ht
    exact .inl ⟨ht, other b' hne, fun _ hi => hi⟩

theorem did_nxt (hr : Rel X I σ w) (ha : ARel w I a A) {dst : Option Nat} (hd : ∀ d, dst = some d → d < a.n) {ty : TypeId} {x : AV} {cx : Value} (hx : VRel w I x cx)
    {K : AAct → AH → Prop} (hs : nxtA σ (fun v σ' => K (a.put dst v) σ') x) : Did X I w A dst K ((do pure (Next.value (← Instr.next cx false ty)) : Sem Next).run X.P w) := by
  have vfalse : ∀ (w : World), VRel w I (.tuple [.bool false]) (.tuple #[.bool false]) := fun w => .tuple _ _ rfl fun i c hc => by
    rcases i with _ | i
    · simp only [List.getElem?_cons_zero, Option.some.injEq] at hc; subst hc; exact .bool _
    · simp at hc
  unfold nxtA at hs
  split at hs
  · rename_i b
    obtain rfl := hx.ptr_inv
    split at hs
    · rename_i s1 l1 c1 hb
      have h1 := (hr.obj _ _ hb).2.2.miter_inv
      refine ⟨.tuple #[.bool false], w, I, _, σ, .inl ?_, hs, hr, ha.put hd (vfalse w), Ext.refl _ _⟩
      simp only [Instr.next, Sem.run_bind, run_getIter h1, Result.andThen_ok, Sem.run_pure]
    · rename_i r since seen last hb
      have h1 := (hr.obj _ _ hb).2.2.miter_inv
      split at hs
      · rename_i es clock hm
        obtain ⟨es', g1, g2⟩ := (hr.obj _ _ hm).2.2.map_inv
        obtain ⟨ho, hsl, hover, hgo⟩ := hs
        have hold : ∀ x ∈ es'.toList, x.born < since := fun x hx => by
          obtain ⟨k, v, hkv, _, _⟩ := g2.born hx
          have := List.all_eq_true.1 ho _ hkv
          simpa using this
        have hcon : ∀ n, seen.toArray.contains n = seen.contains n := fun n => by simp
        rcases run_next_at (P := X.P) w ty b r since last seen.toArray es' clock h1 g1 hold hsl with ⟨h0, hrun⟩ | ⟨e, he, w1, hw1, hrun⟩
        · refine ⟨.tuple #[.bool false], w, I, _, σ, .inl ?_, hover ?_, hr, ha.put hd (vfalse w), Ext.refl _ _⟩
          · simp only [Sem.run_bind, hrun, Result.andThen_ok, Sem.run_pure]
          · rw [List.all_eq_true]
            rintro ⟨k, v, n⟩ hkv
            obtain ⟨y, hy, rfl⟩ := g2.back hkv
            by_cases hc : seen.contains y.born = true
            · exact hc
            · exfalso
              have hmem : y ∈ (leftOf es' seen.toArray).toList := by
                simp only [leftOf, Array.toList_filter, List.mem_filter, hcon]
                exact ⟨hy, by simpa using hc⟩
              have := List.length_pos_of_mem hmem
              simp only [Array.length_toList] at this
              omega
        · simp only [leftOf, Array.toList_filter, List.mem_filter, hcon, Bool.not_eq_true'] at he
          obtain ⟨k, v, hkv, hk1, hv1⟩ := g2.born he.1
          have hK := hgo _ hkv he.2
          have step : ∀ w1 : World, Rel X I σ w1 → Ext I w I w1 →
              Rel X I (σ.set b (.miter (some r) since (seen ++ [e.born]) clock)) (ChangeMaps.setBlock w1 b (.mapIter (some r) since (seen.toArray.push e.born) clock)) ∧ Ext I w I (ChangeMaps.setBlock w1 b (.mapIter (some r) since (seen.toArray.push e.born) clock)) := fun w1 hr1 x1 => by
            obtain ⟨r1, x2⟩ := hr1.iterSet (r' := some r) (s2 := since) (c2 := clock) (l2 := seen ++ [e.born]) hb
            have hpush : (seen ++ [e.born]).toArray = seen.toArray.push e.born := by simp
            rw [hpush] at r1 x2
            exact ⟨r1, x1.trans x2⟩
          obtain ⟨r1, x1⟩ : Rel X I (σ.set b (.miter (some r) since (seen ++ [e.born]) clock)) (ChangeMaps.setBlock w1 b (.mapIter (some r) since (seen.toArray.push e.born) clock)) ∧ Ext I w I (ChangeMaps.setBlock w1 b (.mapIter (some r) since (seen.toArray.push e.born) clock)) := by
            rcases hw1 with rfl | rfl
            · exact step _ hr (Ext.refl _ _)
            · exact step _ hr.drew (Ext.drew _ _)
          refine ⟨.tuple #[.bool true, e.key, e.val], _, I, _, _, .inl ?_, hK, r1, (ha.ext x1).put hd (.tuple _ _ rfl fun i c hc => ?_), x1⟩
          · simp only [Sem.run_bind, hrun, Result.andThen_ok, Sem.run_pure]
          · rcases i with _ | _ | _ | i
            · simp only [List.getElem?_cons_zero, Option.some.injEq] at hc; subst hc; exact .bool _
            · simp only [List.getElem?_cons_succ, List.getElem?_cons_zero, Option.some.injEq] at hc; subst hc; exact hk1.ext x1
            · simp only [List.getElem?_cons_succ, List.getElem?_cons_zero, Option.some.injEq] at hc; subst hc; exact hv1.ext x1
            · simp at hc
      · exact hs.elim
    · exact hs.elim
  · exact hs.elim

theorem run_ent {P : Program} (hr : Rel X I σ w) {x v : AV} {cx : Value} (hx : VRel w I x cx) (h : entA σ x = some v) : ∃ u, (Instr.entry cx).run P w = .ok u w ∧ VRel w I v u := by
  unfold entA at h
  split at h
  · rename_i b
    obtain rfl := hx.ptr_inv
    split at h
    · rename_i r since seen stepped hb
      have h1 := (hr.obj _ _ hb).2.2.miter_inv
      split at h
      · rename_i stamp es clock hst hm
        obtain ⟨es', g1, g2⟩ := (hr.obj _ _ hm).2.2.map_inv
        split at h
        · rename_i hcl
          subst hcl
          simp only [Option.map_eq_some_iff] at h
          obtain ⟨⟨k, v', n⟩, hf, rfl⟩ := h
          have hback : seen.toArray.back? = some stamp := by simp [hst]
          obtain ⟨e, he, p1, p2⟩ : ∃ e, es'.find? (fun e => e.born == stamp) = some e ∧ VRel w I k e.key ∧ VRel w I v' e.val := by
            rw [← Array.find?_toList]
            have key : ∀ {es : List (AV × AV × Nat)} {es' : List MapEntry}, ERel w I es es' → es.find? (fun e => e.2.2 == stamp) = some (k, v', n) → ∃ e, es'.find? (fun e => e.born == stamp) = some e ∧ VRel w I k e.key ∧ VRel w I v' e.val := by
              intro es
              induction es with
              | nil => intro es' _ hf; simp at hf
              | cons y es ih =>
                intro es' hE hf
                obtain ⟨k1, v1, n1⟩ := y
                cases es' with
                | nil => have := hE.1; simp at this
                | cons e es' =>
                  obtain ⟨y, q1, q2, q3, q4⟩ := hE.2 0 k1 v1 n1 rfl
                  simp only [List.getElem?_cons_zero, Option.some.injEq] at q1
                  subst q1
                  rw [List.find?_cons] at hf ⊢
                  rw [q4]
                  split at hf
                  · rename_i hq
                    simp only [Option.some.injEq, Prod.mk.injEq] at hf
                    obtain ⟨rfl, rfl, rfl⟩ := hf
                    simp only at hq
                    rw [hq]
                    exact ⟨e, rfl, q2, q3⟩
                  · rename_i hq
                    simp only at hq
                    rw [hq]
                    exact ih ⟨by have := hE.1; simpa using this, fun i k v n hi => by
                      obtain ⟨y, z1, z2⟩ := hE.2 (i + 1) k v n (by simpa using hi)
                      exact ⟨y, by simpa using z1, z2⟩⟩ hf
            exact key g2 hf
          refine ⟨.tuple #[e.key, e.val], ?_, .tuple _ _ rfl fun i c hc => ?_⟩
          · simp only [Instr.entry, Sem.run_bind, run_getIter h1, run_getObj_map g1, Result.andThen_ok, hback, bne_self_eq_false, Bool.false_eq_true, if_false, he, Sem.run_pure]
          · rcases i with _ | _ | i
            · simp only [List.getElem?_cons_zero, Option.some.injEq] at hc; subst hc; exact p1
            · simp only [List.getElem?_cons_succ, List.getElem?_cons_zero, Option.some.injEq] at hc; subst hc; exact p2
            · simp at hc
        · simp at h
      · simp at h
    · simp at h
  · simp at h

theorem idxA_key {ag : Bool} {ks : List Nat} {k : AV} : ∀ {es : List (AV × AV × Nat)} {i j : Nat}, idxA ag ks k es i = some (some j) → i ≤ j ∧ ∃ k' v' n, es[j - i]? = some (k', v', n) ∧ keyEq ag ks k k' = some true
  | [], i, j, h => by simp [idxA] at h
  | (k', v', n) :: es, i, j, h => by
    simp only [idxA] at h
    split at h
    · rename_i hq
      simp only [Option.some.injEq] at h
      subst h
      exact ⟨Nat.le_refl _, k', v', n, by simp, hq⟩
    · obtain ⟨g1, k'', v'', n', g2, g3⟩ := idxA_key h
      refine ⟨by omega, k'', v'', n', ?_, g3⟩
      rw [show j - i = (j - (i + 1)) + 1 by omega, List.getElem?_cons_succ]
      exact g2
    · simp at h

theorem ERel.push {es : List (AV × AV × Nat)} {es' : Array MapEntry} (g2 : ERel w I es es'.toList) {k v : AV} {ck cv : Value} (hk : VRel w I k ck) (hv : VRel w I v cv) (n : Nat) :
    ERel w I (es ++ [(k, v, n)]) (es'.push { key := ck, val := cv, born := n }).toList := by
  refine ⟨by simp [g2.1], fun i k' v' n' hi => ?_⟩
  rw [List.getElem?_append] at hi
  split at hi
  · rename_i hil
    obtain ⟨y, p1, p2⟩ := g2.2 i k' v' n' hi
    refine ⟨y, ?_, p2⟩
    rw [Array.toList_push, List.getElem?_append_left (by rw [← g2.1]; exact hil)]
    exact p1
  · rename_i hil
    obtain ⟨rfl, hi'⟩ : i = es.length ∧ (k, v, n) = (k', v', n') := by
      cases hd : i - es.length with
      | zero => rw [hd] at hi; simp at hi; exact ⟨by omega, by simp [hi]⟩
      | succ q => rw [hd] at hi; simp at hi
    simp only [Prod.mk.injEq] at hi'
    obtain ⟨rfl, rfl, rfl⟩ := hi'
    refine ⟨{ key := ck, val := cv, born := n }, ?_, hk, hv, rfl⟩
    rw [Array.toList_push, g2.1]
    simp

theorem ERel.modify {es : List (AV × AV × Nat)} {es' : Array MapEntry} (g2 : ERel w I es es'.toList) {j : Nat} {y : MapEntry} (hy : es'[j]? = some y) {f : MapEntry → MapEntry} {k v : AV} {n : Nat}
    (hk : VRel w I k (f y).key) (hv : VRel w I v (f y).val) (hn : (f y).born = n) : ERel w I (es.set j (k, v, n)) (es'.modify j f).toList := by
  refine ⟨by simp [g2.1], fun i k₁ v₁ n₁ hi => ?_⟩
  rw [List.getElem?_set] at hi
  have hmod : ∀ i, (es'.modify j f).toList[i]? = if j = i then (es'[i]?).map f else es'[i]? := fun i => by
    rw [Array.getElem?_toList, Array.getElem?_modify]
  rw [hmod]
  split at hi
  · rename_i hji
    subst hji
    rw [if_pos rfl, hy]
    split at hi
    · simp only [Option.some.injEq, Prod.mk.injEq] at hi
      obtain ⟨rfl, rfl, rfl⟩ := hi
      exact ⟨_, rfl, hk, hv, hn⟩
    · simp at hi
  · rename_i hji
    rw [if_neg hji]
    obtain ⟨y', q1, q2⟩ := g2.2 i k₁ v₁ n₁ hi
    exact ⟨y', by simpa using q1, q2⟩

theorem did_ment (hr : Rel X I σ w) (ha : ARel w I a A) {dst : Option Nat} (hd : ∀ d, dst = some d → d < a.n) {mt kt et : TypeId} (hu : X.P.underlying mt = some (.map kt et)) {r : Bool × List Nat} (hk : keyP X.P kt = some r)
    {zero : AV} (hz : zeroP X.P et = some zero) {m k : AV} {cm ck : Value} (hm : VRel w I m cm) (hkv : VRel w I k ck) {K : AAct → AH → Prop} {v : AV} {σ' : AH} (hs : mentA σ r.1 r.2 zero k m = some (v, σ')) (hK : K (a.put dst v) σ') :
    Did X I w A dst K ((do pure (Next.value (← Instr.mapEntry mt cm ck)) : Sem Next).run X.P w) := by
  have vpair : ∀ {w' : World} {x : AV} {cx : Value} {n : Nat}, VRel w' I x cx → VRel w' I (.tuple [x, .int .i64 n]) (.tuple #[cx, goInt n]) := fun {w' x cx n} hx => .tuple _ _ rfl fun i c hc => by
    rcases i with _ | _ | i
    · simp only [List.getElem?_cons_zero, Option.some.injEq] at hc; subst hc; exact hx
    · simp only [List.getElem?_cons_succ, List.getElem?_cons_zero, Option.some.injEq] at hc; subst hc; exact .int _ _
    · simp at hc
  unfold mentA at hs
  split at hs
  · rename_i b
    obtain rfl := hm.map_inv
    split at hs
    · rename_i es clock hb
      split at hs
      · simp at hs
      · rename_i hok
        obtain ⟨es', g1, g2⟩ := (hr.obj _ _ hb).2.2.map_inv
        have hck := run_checkKey (P := X.P) (w := w) (e := false) 9998 hk hkv (by simpa using hok)
        have hset : ∀ o : Obj, (setObj b o).run X.P w = .ok () { w with heap := w.heap.setIfInBounds b o } := fun o => by simp [setObj, Sem.run, g1]
        split at hs
        · rename_i hidx
          obtain ⟨hf, _⟩ := run_findKey (P := X.P) hk hkv g2 hidx
          simp only [Option.some.injEq, Prod.mk.injEq] at hs
          obtain ⟨rfl, rfl⟩ := hs
          obtain ⟨zv, hzv, hzr⟩ := run_zeroValue hz w I
          obtain ⟨r1, x1⟩ := hr.mapSet (clock₁ := clock + 1) hb (g2.push hkv hzr clock)
          refine ⟨.tuple #[zv, goInt clock], _, I, _, _, .inl ?_, hK, r1, (ha.ext x1).put hd (vpair (hzr.ext x1)), x1⟩
          simp only [Option.map_none] at hf
          simp only [Instr.mapEntry, Sem.run_bind, run_underlying hu, Result.andThen_ok, run_getObj_map g1, hck, hf, hzv, hset, Sem.run_pure]
        · rename_i j hidx
          obtain ⟨hf, _⟩ := run_findKey (P := X.P) hk hkv g2 hidx
          obtain ⟨_, k', v', n', j1, j2⟩ := idxA_key hidx
          simp only [Nat.sub_zero] at j1
          rw [j1] at hs
          simp only [Option.some.injEq, Prod.mk.injEq] at hs
          obtain ⟨rfl, rfl⟩ := hs
          obtain ⟨y, p1, p2, p3, p4⟩ := g2.2 _ _ _ _ j1
          have p1' : es'[j]? = some y := by simpa using p1
          obtain ⟨r1, x1⟩ := hr.mapSet (clock₁ := clock) hb (g2.modify p1' (f := fun e => { e with key := ck }) hkv p3 p4)
          have hbits := sameBits_key hkv p2 j2
          simp only [Option.map_some] at hf
          have hkeep : (Instr.keyThatStays y.key ck).run X.P w = .ok ck w := by simp [Instr.keyThatStays, hbits]
          refine ⟨.tuple #[y.val, goInt n'], _, I, _, _, .inl ?_, hK, r1, (ha.ext x1).put hd (vpair (p3.ext x1)), x1⟩
          simp only [Instr.mapEntry, Sem.run_bind, run_underlying hu, Result.andThen_ok, run_getObj_map g1, hck, hf, p1, p1', Option.map_some, Option.getD_some, hkeep, hset, Sem.run_pure, p4]
        · simp at hs
    · simp at hs
  · simp at hs

theorem ERel.findIdx {b : Int} : ∀ {es : List (AV × AV × Nat)} {es' : List MapEntry}, ERel w I es es' → ∀ {i : Nat}, es.findIdx? (fun e => (e.2.2 : Int) == b) = some i → es'.findIdx? (fun e => (e.born : Int) == b) = some i
  | [], es', _, i, h => by simp at h
  | (k, v, n) :: es, [], hE, i, h => by have := hE.1; simp at this
  | (k, v, n) :: es, e :: es', hE, i, h => by
    obtain ⟨y, q1, _, _, q4⟩ := hE.2 0 k v n rfl
    simp only [List.getElem?_cons_zero, Option.some.injEq] at q1
    subst q1
    have hE' : ERel w I es es' := ⟨by have := hE.1; simpa using this, fun i k v n hi => by
      obtain ⟨y, z1, z2⟩ := hE.2 (i + 1) k v n (by simpa using hi)
      exact ⟨y, by simpa using z1, z2⟩⟩
    rw [List.findIdx?_cons] at h ⊢
    rw [q4]
    split at h
    · rename_i hq
      rw [if_pos hq]
      exact h
    · rename_i hq
      rw [if_neg hq]
      simp only [Option.map_eq_some_iff] at h ⊢
      obtain ⟨j, hj, rfl⟩ := h
      exact ⟨j, hE'.findIdx hj, rfl⟩

theorem did_msto (hr : Rel X I σ w) (ha : ARel w I a A) {dst : Option Nat} (hd : ∀ d, dst = some d → d < a.n) {mt : TypeId}
    {m st v : AV} {cm cst cv : Value} (hm : VRel w I m cm) (hst : VRel w I st cst) (hv : VRel w I v cv) {K : AAct → AH → Prop} {σ' : AH} (hs : mstoA σ st v m = some σ') (hK : K (a.put dst .undef) σ') :
    Did X I w A dst K ((do Instr.entryStore mt cm cst cv; pure Next.skip : Sem Next).run X.P w) := by
  unfold mstoA at hs
  split at hs
  · rename_i b
    obtain rfl := hm.map_inv
    split at hs
    · rename_i es clock k0 born hb
      obtain ⟨es', g1, g2⟩ := (hr.obj _ _ hb).2.2.map_inv
      have hset : ∀ o : Obj, (setObj b o).run X.P w = .ok () { w with heap := w.heap.setIfInBounds b o } := fun o => by simp [setObj, Sem.run, g1]
      split at hs
      · rename_i i hi
        split at hs
        · rename_i k v0 n hes
          simp only [Option.some.injEq] at hs
          subst hs
          obtain ⟨y, p1, p2, p3, p4⟩ := g2.2 _ _ _ _ hes
          have p1' : es'[i]? = some y := by simpa using p1
          obtain ⟨r1, x1⟩ := hr.mapSet (clock₁ := clock) hb (g2.modify p1' (f := fun e => { e with val := cv }) p2 hv p4)
          have hf : es'.findIdx? (fun e => (e.born : Int) == born) = some i := by
            have e : es'.findIdx? (fun e => (e.born : Int) == born) = es'.toList.findIdx? (fun e => (e.born : Int) == born) := by
              rcases es' with ⟨l⟩
              simp
            rw [e]
            exact g2.findIdx hi
          have hint : (asInt cst).run X.P w = .ok born w := by
            cases hst
            rfl
          refine ⟨undef, _, I, _, _, .inr ⟨?_, rfl⟩, hK, r1, (ha.ext x1).put hd (.undef _), x1⟩
          simp only [Instr.entryStore, Sem.run_bind, Result.andThen_ok, run_getObj_map g1, hint, hf, hset, Sem.run_pure]
        · simp at hs
      · simp at hs
    · simp at hs
  · simp at hs

/-- THE OPERATIONS OF MORE KINDS. -/
theorem xstep_sound (hr : Rel X I σ w) (ha : ARel w I a A) {o : Oper} (hd : ∀ d, o.dst = some d → d < a.n) {i : I1} (hl : lowX X.P o = some i)
    {K : AAct → AH → Prop} (hs : stepI X o.dst a σ K i) : Did X I w A o.dst K ((execOp A.eval o).run X.P w) := by
  obtain ⟨dst, op, ty, pos, after, guard⟩ := o
  unfold lowX at hl
  simp only at hl hs hd ⊢
  split at hl
  · split at hl
    · rename_i kt et hu
      simp only [Option.map_eq_some_iff] at hl
      obtain ⟨y, hy, rfl⟩ := hl
      exact did_rng hr ha hd hu (opd_sound hr ha hy) hs
    · simp at hl
  · simp only [Option.map_eq_some_iff] at hl
    obtain ⟨y, hy, rfl⟩ := hl
    exact did_nxt hr ha hd (opd_sound hr ha hy) hs
  · simp only [Option.map_eq_some_iff] at hl
    obtain ⟨y, hy, rfl⟩ := hl
    simp only [stepI, stepV, quietV] at hs
    rw [show (optK (entA σ (ev X a y)) fun v => K (a.put dst v) σ) = _ from rfl] at hs
    unfold optK at hs
    split at hs
    · rename_i v hv
      obtain ⟨u, h1, h2⟩ := run_ent (P := X.P) hr (opd_sound hr ha hy) hv
      refine ⟨u, w, I, _, σ, .inl ?_, hs, hr, ha.put hd h2, Ext.refl _ _⟩
      simp only [execOp, Sem.run_bind, h1, Result.andThen_ok, Sem.run_pure]
    · exact hs.elim
  · split at hl
    · rename_i kt et hu
      split at hl
      · rename_i zero m k hz hm hk
        simp only [Option.map_eq_some_iff] at hl
        obtain ⟨r, hkr, rfl⟩ := hl
        simp only [stepI, stepV, optK] at hs
        split at hs
        · rename_i v hv
          exact did_ment hr ha hd hu hkr hz (opd_sound hr ha hm) (opd_sound hr ha hk) hv hs
        · exact hs.elim
      · simp at hl
    · simp at hl
  · split at hl
    · rename_i m st v hm hst hv
      simp only [Option.some.injEq] at hl
      subst hl
      simp only [stepI, stepV, optK] at hs
      split at hs
      · rename_i σ' hσ
        exact did_msto hr ha hd (opd_sound hr ha hm) (opd_sound hr ha hst) (opd_sound hr ha hv) hσ hs
      · exact hs.elim
    · simp at hl
  · simp at hl

theorem lowX_ne {P : Program} {o : Oper} {i : I1} (h : lowX P o = some i) : (∀ f xs, i ≠ .call f xs) ∧ (∀ f xs, i ≠ .defer f xs) ∧ ∀ j, i ≠ .same j := by
  unfold lowX at h
  split at h
  · split at h
    · simp only [Option.map_eq_some_iff] at h
      obtain ⟨y, _, rfl⟩ := h
      simp
    · simp at h
  · simp only [Option.map_eq_some_iff] at h
    obtain ⟨y, _, rfl⟩ := h
    simp
  · simp only [Option.map_eq_some_iff] at h
    obtain ⟨y, _, rfl⟩ := h
    simp
  · split at h
    · split at h
      · simp only [Option.map_eq_some_iff] at h
        obtain ⟨y, _, rfl⟩ := h
        simp
      · simp at h
    · simp at h
  · split at h
    · simp only [Option.some.injEq] at h
      subst h
      simp
    · simp at h
  · simp at h

end
end Go.Scr
