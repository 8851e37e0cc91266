/- The memory of a range over a function: part 18b of a program logic over the model. No condition. -/
import Derived.Test.YtagjgpkomcmkbaaGreatDoorEcoreW
namespace Go.Scr
open Go

section
variable {X : Ctx} {I : Imm} {σ : AH} {w : World} {a : AAct} {A : Act}

/-- A block that holds no cells is turned. -/
theorem Rel.put (hr : Rel X I σ w) {b : Nat} {ao : AObj} (hb : σ.heap b = some ao) (hc : ∀ i, w.cell? ⟨b, i, none⟩ = none) (hs : w.shape? b = none) (o : Obj) :
    Ext I w I (w.putObj b o) ∧ Rel X I (σ.drop b) (w.putObj b o) ∧ ∀ ao', ObjRel X.P (w.putObj b o) I b ao' → Rel X I (σ.set b ao') (w.putObj b o) := by
  obtain ⟨hB, htip, _⟩ := hr.obj b _ hb
  have other : ∀ b', b' ≠ b → (w.putObj b o).heap[b']? = w.heap[b']? := fun b' h => World.putObj_heap_other h
  have noI : ∀ i, ¬ I b i := fun i hi => by
    obtain ⟨v, hv⟩ := hr.immc b i hi
    rw [hc i] at hv
    simp at hv
  have x : Ext I w I (w.putObj b o) :=
    ⟨fun b' i hi => ⟨hi, by
      have hbb : b' ≠ b := fun h => noI i (h ▸ hi)
      simp only [World.cell?, other b' hbb]⟩, fun b' s hs' => by
      by_cases hbb : b' = b
      · subst hbb
        rw [hs] at hs'
        simp at hs'
      · simp only [World.shape?, other b' hbb] at hs' ⊢
        exact hs'⟩
  have key : ∀ ao' : Option AObj, (∀ o', ao' = some o' → ObjRel X.P (w.putObj b o) I b o') → Rel X I { σ with heap := fun y => if y = b then ao' else σ.heap y } (w.putObj b o) := fun ao' h' => by
    refine hr.next x (fun b' o' ho => ?_) (fun b' e ht => ?_) (fun _ _ hi => .inl hi) (Nat.le_of_eq World.putObj_size.symm) (fun b' hb' => other b' (by omega)) rfl rfl rfl
    · simp only at ho
      split at ho
      · rename_i hbb
        subst hbb
        exact .inr ⟨hB, htip, h' o' ho⟩
      · rename_i hbb
        exact .inl ⟨ho, other b' hbb, fun _ hi => hi, rfl⟩
    · have hne : b' ≠ b := fun h => by
        subst h
        simp only at ht
        rw [htip] at ht
        simp at ht
      exact .inl ⟨ht, other b' hne, fun _ hi => hi⟩
  exact ⟨x, key none (fun _ h => by simp at h), fun ao' h => key (some ao') fun o' ho => by simp only [Option.some.injEq] at ho; subst ho; exact h⟩

theorem loop_blank {b : Nat} {r : Loop} (h : w.heap[b]? = some (.loop r)) : (∀ i, w.cell? ⟨b, i, none⟩ = none) ∧ w.shape? b = none := ⟨fun i => by simp [World.cell?, h], by simp [World.shape?, h]⟩
theorem dfr_blank {b : Nat} {l : Option (List Deferred)} (h : w.heap[b]? = some (.deferred l)) : (∀ i, w.cell? ⟨b, i, none⟩ = none) ∧ w.shape? b = none := ⟨fun i => by simp [World.cell?, h], by simp [World.shape?, h]⟩

/-- A range over a function stands elsewhere. -/
theorem Rel.loopSt (hr : Rel X I σ w) {l : Nat} {env : List (Nat × AV)} {lr : LRec} {st : LSt} (hl : σ.heap l = some (.loop env lr st)) {r : Loop} (h : w.heap[l]? = some (.loop r)) {st' : LSt} {s' : LoopState} {p' : Option Code}
    (hst : st'.rel { r with state := s', pending := p' }) : Ext I w I (w.putObj l (.loop { r with state := s', pending := p' })) ∧ Rel X I (σ.set l (.loop env lr st')) (w.putObj l (.loop { r with state := s', pending := p' })) := by
  obtain ⟨_, _, r', h1, h2, h3, h4, h5, h6, h7, h8, h9⟩ := hr.obj l _ hl
  rw [h] at h1
  simp only [Option.some.injEq, Obj.loop.injEq] at h1
  subst h1
  obtain ⟨b1, b2⟩ := loop_blank h
  obtain ⟨x, _, k⟩ := hr.put hl b1 b2 (.loop { r with state := s', pending := p' })
  refine ⟨x, k _ ⟨{ r with state := s', pending := p' }, World.putObj_heap_same (Array.getElem?_eq_some_iff.1 h).1, h2, h3, h4, h5, h6, h7, fun t => (h8 t).ext x, hst⟩⟩

theorem Act.tmps_foldl (f : Array Value → Nat × Value → Array Value) (l : List (Nat × Value)) (t : Array Value) (hf : ∀ t p, f t p = t.setIfInBounds p.1 p.2) : (l.foldl f t).size = t.size := by
  induction l generalizing t with
  | nil => rfl
  | cons p l ih => rw [List.foldl_cons, ih, hf]; simp

/-- The values that are handed over are laid into the parameters. -/
theorem putL_rel : ∀ {ps : List Nat} {args : List AV} {vs : List Value} {a : AAct} {tmps : Array Value}, ARel w I a { tmps := tmps, defers := [] } → (∀ t ∈ ps, t < a.n) → args.length = vs.length → (∀ i c, args[i]? = some c → VRel w I c (vs.getD i undef)) →
    ARel w I (putL ps args a) { tmps := (ps.zip vs).foldl (fun tmps (t, a) => tmps.setIfInBounds t a) tmps, defers := [] }
  | [], args, vs, a, tmps, ha, _, _, _ => by simpa [putL] using ha
  | t :: ps, [], vs, a, tmps, ha, _, hl, _ => by
    have : vs = [] := List.eq_nil_of_length_eq_zero (by simpa using hl.symm)
    subst this
    simpa [putL] using ha
  | t :: ps, v :: args, [], a, tmps, ha, _, hl, _ => by simp at hl
  | t :: ps, v :: args, u :: vs, a, tmps, ha, hp, hl, hv => by
    simp only [putL, List.zip_cons_cons, List.foldl_cons]
    refine putL_rel (a := a.put (some t) v) ?_ (fun y hy => hp y (List.mem_cons_of_mem _ hy)) (by simpa using hl) (fun i c hc => by simpa using hv (i + 1) c (by simpa using hc))
    have := ha.put (dst := some t) (v := v) (cv := u) (fun d he => by simp only [Option.some.injEq] at he; subst he; exact hp _ (by simp)) (by simpa using hv 0 v rfl)
    simpa [Act.put] using this

/- A piece of code that may be jumped in, and isn't. -/
theorem wpIn_scope_straight {F : Fence} {n : Nat} {P : Program} {c : Code} {Q : Exit → Act → World → Prop} {a : Act} {w : World} (h : c.wpIn F n P (Exit.noGoto Q) a w) : (Code.scope c).wpIn F n P Q a w := by
  intro b k cs hro hb hr
  have h0 : (lone (b.atR a (.code (.scope c) :: k)) cs w).fenced P F := fenced_calm hb hr rfl
  have s1 : step P (lone (b.atR a (.code (.scope c) :: k)) cs w) = .next (lone (b.atR a (.code c :: .inScope c :: k)) cs w) := step_lone_go (by simp [Go.stepG, Go.stepG.exec, Frame.atR])
  have s2 : ∀ a₁ w₁, step P (lone (b.atR a₁ (.inScope c :: k)) cs w₁) = .next (lone (b.atR a₁ k) cs w₁) := fun a₁ w₁ => step_lone_go (by simp [Go.stepG, Go.stepG.exec, Frame.atR])
  obtain ⟨e, a₁, w₁, hq, harr⟩ := h b (.inScope c :: k) cs hro hb hr
  cases e with
  | normal => exact ⟨.normal, a₁, w₁, hq, .head h0 s1 (StepsIn.trans harr (.one (fenced_calm hb hr rfl) (s2 _ _)))⟩
  | exit id =>
    have hx : exitTo id (.inScope c :: k) = exitTo id k := by simp [exitTo]
    exact ⟨.exit id, a₁, w₁, hq, fun k' hk => .head h0 s1 (harr.1 k' (by rw [hx]; exact hk)), fun hr' hk => let ⟨k₁, h1, h2⟩ := harr.2 hr' (by rw [hx]; exact hk); ⟨k₁, h1, .head h0 s1 h2⟩⟩
  | goto l => exact hq.elim
  | ret => exact ⟨_, a₁, w₁, hq, .of_steps (.one h0 s1) harr⟩
  | panic ch => exact ⟨_, a₁, w₁, hq, .of_steps (.one h0 s1) harr⟩
  | outgrown => exact ⟨_, a₁, w₁, hq, .of_steps (.one h0 s1) harr⟩

end
end Go.Scr
