/- A function's contract out of its lowered text: part 23 of a program logic over the model. Conditions: the function stands in the program, and its text was lowered. -/
import Derived.Test.YtagjgpkomcmkbaaGreatDoorEcoreT
namespace Go.Scr
open Go

section
variable {X : Ctx} {I : Imm} {σ : AH} {w : World} {a : AAct} {A : Act}

/-- A function that was lowered. -/
structure Lowered (X : Ctx) (f : FuncId) (lc : LC) (rvs : List RV) (n : Nat) where
  fn : Func
  code : Code
  h : Hints
  mixed : X.P.follows .mixedOrders = true
  func : X.P.funcs[f]? = some fn
  name : (fn.name == "runtime.NumGoroutine") = false
  body : fn.body = some code
  size : fn.ntmps = n
  low : lowC X.P h n code = some lc
  res : lowRes X.P fn.results.toList = some rvs

theorem Lowered.callFunc {f : FuncId} {lc : LC} {rvs : List RV} {n : Nat} (L : Lowered X f lc rvs n) (args : Array Value) (w : World) : (callFunc f args).run X.P w = .ok (.enter f args) w := by
  have hname : ¬ L.fn.name = "runtime.NumGoroutine" := ne_of_beq_false L.name
  simp [Go.callFunc, L.func, hname, L.body]

theorem leaveA_cons {K : AH → Prop} {f : AV} {xs : List AV} {ds : List (AV × List AV)} (h : leaveA X K ((f, xs) :: ds) σ) :
    (∃ r o, f = .ptr r o ∧ σ.heap r = some .dfr ∧ leaveA X K ds (σ.drop r)) ∨ ECallVD X f xs σ fun σ' => leaveA X K ds σ' := by
  cases f <;> simp only [leaveA] at h <;> first | exact .inr h | exact .inl ⟨_, _, rfl, h.1, h.2⟩

theorem leave_sound {fn : Func} {rvs : List RV} (hres : lowRes X.P fn.results.toList = some rvs) {R : AV → AH → Prop} {I₀ : Imm} {w₀ : World} {tmps : Array Value} :
    ∀ {ds : List (AV × List AV)} {ds' : List Deferred} {a : AAct} {σ : AH} {I : Imm} {w : World}, ds.length = ds'.length →
      (∀ (i : Nat) (f : AV) (xs : List AV), ds[i]? = some (f, xs) → DRel w I f xs ds'[i]?) →
      (∀ t, VRel w I (a.get t) (tmps.getD t undef)) → tmps.size = a.n → Rel X I σ w → Ext I₀ w₀ I w → leaveA X (finishA rvs R a) ds σ →
      LeavesInM Fence.wide 0 X.P fn tmps (fun e w' => ∃ v cv I' σ', e = .returned cv ∧ R v σ' ∧ VRel w' I' v cv ∧ Rel X I' σ' w' ∧ Ext I₀ w₀ I' w') ds' .returning w
  | [], ds', a, σ, I, w, hl, _, ht, hsz, hr, x, h => by
    obtain rfl : ds' = [] := List.eq_nil_of_length_eq_zero hl.symm
    simp only [leaveA, finishA, optK] at h
    split at h
    · rename_i l hl'
      have ha : ARel w I { a with defers := [] } { tmps := tmps, defers := [] } := ⟨ht, hsz, rfl, fun i f xs hi => by simp at hi⟩
      have hl'' : resL σ { a with defers := [] } rvs = some l := by
        have : ∀ rs, resL σ { a with defers := [] } rs = resL σ a rs := by
          intro rs
          induction rs with
          | nil => rfl
          | cons r rs ih => cases r <;> simp only [resL, ih] <;> rfl
        rw [this]
        exact hl'
      obtain ⟨u, h1, h2⟩ := run_results (P := X.P) hr ha hres hl''
      obtain ⟨v, σ₁, hv, hle, hR⟩ := h
      exact ⟨u, h1, _, _, I, _, rfl, hR, h2.le hv, hr.le hle, x⟩
    · exact h.elim
  | (f, xs) :: ds, ds', a, σ, I, w, hl, hd, ht, hsz, hr, x, h => by
    cases ds' with
    | nil => simp at hl
    | cons d' ds' =>
      rcases leaveA_cons h with ⟨r, o, rfl, hdr, h⟩ | h
      · obtain ⟨d'', h1, h2⟩ := hd 0 _ _ rfl
        simp only [List.getElem?_cons_zero, Option.some.injEq] at h1
        subst h1
        have hb : w.heap[r]? = some (.deferred (some [])) := (hr.obj _ _ hdr).2.2
        obtain ⟨b1, b2⟩ := dfr_blank hb
        obtain ⟨q1, q2, _⟩ := hr.put hdr b1 b2 (.deferred none)
        refine ⟨by simp, .inl ⟨r, _, h2, run_takeDeferred hb, ?_⟩⟩
        exact leave_sound hres (by simpa using hl) (fun i f xs hi => (hd (i + 1) f xs (by simpa using hi)).ext q1) (fun t => (ht t).ext q1) hsz q2 (x.trans q1) h
      · simp only [ECallVD] at h
        split at h
        · rename_i fn' first captured
          obtain ⟨fv, xs', cap, first', h1, h2, h3⟩ := hd 0 _ _ rfl
          simp only [List.getElem?_cons_zero, Option.some.injEq] at h1
          subst h1
          obtain ⟨vs, us, he, hvs, hus⟩ := h2.func_inv
          simp only [Value.func.injEq, Fn.func.injEq] at he
          obtain ⟨rfl, rfl, rfl⟩ := he
          obtain ⟨c1, c2⟩ := h I w _ hr ((hvs.append h3).append hus)
          rw [Array.append_assoc] at c1 c2
          refine ⟨by simp, .inr ⟨by simp [Fence.wide], _, _, _, _, rfl, by simpa [invoke] using c1, fun _ _ => trivial, ?_⟩⟩
          refine CallsDIn.mono c2 fun e u w' hq => ?_
          obtain ⟨cv, I', σ', rfl, rfl, hk, hr', x'⟩ := hq
          exact leave_sound hres (by simpa using hl) (fun i f xs hi => (hd (i + 1) f xs (by simpa using hi)).ext x') (fun t => (ht t).ext x') hsz hr' (x.trans x') hk
        · exact h.elim

/-- THE CONTRACT OF A FUNCTION. -/
theorem ECalls.of {f : FuncId} {lc : LC} {rvs : List RV} {n : Nat} (L : Lowered X f lc rvs n) {args : List AV} (hn : args.length ≤ n) {R : AV → AH → Prop} (h : wpC X lc (funPost X rvs R) (initA n args) σ) :
    ECalls X f args σ R := by
  intro I w cargs hr hv
  refine .inl ⟨L.callFunc _ _, callsIn_wide.1 (callsIn_of_wp_marks (n := 0) L.func L.body trivial ?_)⟩
  obtain ⟨fn, code, hh, mixed, func, name, body, size, low, res⟩ := L
  subst size
  have hci := init_rel hv hn
  refine wpIn_mono (code_sound (r := none) mixed low (.inl rfl) h (by simp; have := hv.1; omega) hr hci (Ext.refl I w)) fun e A' w' hq => ?_
  obtain ⟨I', a', σ', hq, hn', hr', ha', x'⟩ := hq
  cases e with
  | normal => exact leave_sound res ha'.len ha'.defers ha'.tmps ha'.size hr' x' hq
  | ret => exact leave_sound res ha'.len ha'.defers ha'.tmps ha'.size hr' x' hq
  | exit id => exact hq.elim
  | goto l => exact hq.elim
  | panic ch => exact hq.elim
  | outgrown => exact hq.elim

/-- The contract of a function that is deferred, and defers nothing. -/
theorem ECallsD.of {f : FuncId} {lc : LC} {rvs : List RV} {n : Nat} (L : Lowered X f lc rvs n) {args : List AV} (hn : args.length ≤ n) {R : AH → Prop}
    (h : wpC X lc (fun e a σ => match e with
      | .normal => a.defers = [] ∧ finishA rvs (fun _ σ => R σ) a σ
      | .ret => a.defers = [] ∧ finishA rvs (fun _ σ => R σ) a σ
      | _ => False) (initA n args) σ) : ECallsD X f args σ R := by
  intro I w cargs hr hv
  refine ⟨L.callFunc _ _, (callsDIn_of_wp (F := Fence.wide) (n := 0) (R := fun e w' => ∃ cv I' σ', e = .returned cv ∧ R σ' ∧ Rel X I' σ' w' ∧ Ext I w I' w') L.func L.body trivial ?_).mono fun e u w' hq => ?_⟩
  · obtain ⟨fn, code, hh, mixed, func, name, body, size, low, res⟩ := L
    subst size
    have hci := init_rel hv hn
    refine wpIn_mono (code_sound (r := none) mixed low (.inl rfl) h (by simp; have := hv.1; omega) hr hci (Ext.refl I w)) fun e A' w' hq => ?_
    obtain ⟨I', a', σ', hq, hn', hr', ha', x'⟩ := hq
    have fin : a'.defers = [] ∧ finishA rvs (fun _ σ => R σ) a' σ' → A'.defers = [] ∧ ∃ v, (results fn A'.tmps).run X.P w' = .ok v w' ∧ ∃ cv I' σ', Ending.returned v = .returned cv ∧ R σ' ∧ Rel X I' σ' w' ∧ Ext I w I' w' := fun hq => by
      obtain ⟨hd, hq⟩ := hq
      have hd' : A'.defers = [] := List.eq_nil_of_length_eq_zero (by rw [← ha'.len, hd]; rfl)
      simp only [finishA, optK] at hq
      split at hq
      · rename_i l hl
        obtain ⟨u, h1, h2⟩ := run_results (P := X.P) hr' ha' res hl
        obtain ⟨v, σ₁, _, hle, hR⟩ := hq
        exact ⟨hd', u, h1, u, I', _, rfl, hR, hr'.le hle, x'⟩
      · exact hq.elim
    cases e with
    | normal => exact fin hq
    | ret => exact fin hq
    | exit id => exact hq.elim
    | goto l => exact hq.elim
    | panic ch => exact hq.elim
    | outgrown => exact hq.elim
  · obtain ⟨rfl, cv, I', σ', h1, h2, h3, h4⟩ := hq
    exact ⟨cv, I', σ', h1, rfl, h2, h3, h4⟩

/-- A ROUND DOES WHAT ITS LOWERED TEXT SAYS. -/
theorem EYield.of (hm : X.P.follows .mixedOrders = true) {l : Nat} {env : List (Nat × AV)} {lr : LRec} {args : List AV} {R : AV → AH → Prop} (h : roundA X l env lr args σ R) : EYield X l args σ R := by
  obtain ⟨hl, hlen, hw⟩ := h
  intro I w cargs hr hv
  obtain ⟨_, _, r, h1, h2, h3, ⟨hh, h4, h5⟩, h6, h7, h8, h9, h10⟩ := hr.obj _ _ hl
  refine ⟨r.fn, _, r.assign, r.body, run_yield h1 (by rw [h2]; simp [← hlen, hv.1]), ?_⟩
  have ha0 : ARel w I ⟨env, [], lr.n⟩ { tmps := r.tmps, defers := [] } := ⟨h9, h3, rfl, fun i f xs hi => by simp at hi⟩
  have ha := putL_rel (ps := lr.ps) (args := args) (vs := cargs.toList) ha0 h8 (by simpa using hv.1) (fun i c hc => by simpa using hv.2 i c hc)
  have hz : (r.params.zip cargs).foldl (fun tmps (t, a) => tmps.setIfInBounds t a) r.tmps = (lr.ps.zip cargs.toList).foldl (fun tmps (t, a) => tmps.setIfInBounds t a) r.tmps := by
    rw [h2, ← Array.foldl_toList]
    simp
  rw [hz]
  refine roundIn_of_wpIn trivial ?_
  refine wpIn_mono (code_sound (r := some l) hm h4 (.inr h6) hw ?_ hr ha (Ext.refl I w)) fun e A' w' hq => ?_
  · rw [Act.tmps_foldl _ _ _ (fun _ _ => rfl)]
    exact h3
  · obtain ⟨I', a', σ', hq, hn', hr', ha', x'⟩ := hq
    cases e with
    | normal =>
      obtain ⟨env', lr', hl', hq⟩ := hq
      obtain ⟨_, _, r', g1, g2, g3, g4, g5, g6, g7, g8, g9⟩ := hr'.obj _ _ hl'
      obtain ⟨x2, r2⟩ := hr'.loopSt hl' g1 (st' := .busy) (s' := .busy) (p' := r'.pending) rfl
      refine ⟨_, run_beginRound g1 g9.1, ?_⟩
      obtain ⟨_, _, r₀, k1, k2, k3, ⟨hh₀, k4, k5⟩, k6, k7, k8⟩ := hr.obj _ _ hl
      rw [h1] at k1
      simp only [Option.some.injEq, Obj.loop.injEq] at k1
      subst k1
      refine wpIn_mono (code_sound (r := some l) hm h5 (.inr h7) hq hn' r2 (ha'.ext x2) (x'.trans x2)) fun e A₂ w₂ hq => ?_
      obtain ⟨I₂, a₂, σ₂, ⟨env₂, lr₂, st, hst, hq⟩, hn₂, hr₂, ha₂, x₂⟩ := hq
      obtain ⟨_, _, r₂, j1, _⟩ := hr₂.obj _ _ hst
      cases e with
      | normal =>
        obtain ⟨x3, r3⟩ := hr₂.loopSt hst j1 (st' := .ready) (s' := .ready) (p' := none) ⟨rfl, rfl⟩
        exact ⟨_, _, run_endRound none j1, _, _, I₂, _, rfl, hq, .bool true, r3, x₂.trans x3⟩
      | ret =>
        obtain ⟨x3, r3⟩ := hr₂.loopSt hst j1 (st' := .done none) (s' := .done) (p' := some .ret) ⟨rfl, rfl⟩
        exact ⟨_, _, run_endRound (some .ret) j1, _, _, I₂, _, rfl, hq, .bool false, r3, x₂.trans x3⟩
      | exit id =>
        obtain ⟨x3, r3⟩ := hr₂.loopSt hst j1 (st' := .done (some id)) (s' := .done) (p' := some (.exit id)) ⟨rfl, rfl⟩
        exact ⟨_, _, run_endRound (some (.exit id)) j1, _, _, I₂, _, rfl, hq, .bool false, r3, x₂.trans x3⟩
      | goto l => exact hq.elim
      | panic ch => exact hq.elim
      | outgrown => exact hq.elim
    | ret => exact hq.elim
    | exit id => exact hq.elim
    | goto l => exact hq.elim
    | panic ch => exact hq.elim
    | outgrown => exact hq.elim

end
end Go.Scr
