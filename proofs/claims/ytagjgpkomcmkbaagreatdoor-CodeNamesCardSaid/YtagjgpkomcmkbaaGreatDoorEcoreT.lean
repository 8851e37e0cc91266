/- A function's lowered text does what its text does: part 22 of a program logic over the model: code, and functions. No condition but that the code was lowered. -/
import Derived.Test.YtagjgpkomcmkbaaGreatDoorEcoreRa
namespace Go.Scr
open Go

section
variable {X : Ctx} {I : Imm} {σ : AH} {w : World} {a : AAct} {A : Act}

/-- What is behind a piece of code, in the model's words. -/
def liftQ (X : Ctx) (n : Nat) (I₀ : Imm) (w₀ : World) (Q : EPost) : Exit → Act → World → Prop := fun e A' w' =>
  ∃ I' a' σ', Q e a' σ' ∧ A'.tmps.size = n ∧ Rel X I' σ' w' ∧ ARel w' I' a' A' ∧ Ext I₀ w₀ I' w'

theorem get_keep (a : AAct) (l : List Nat) (t : Nat) : (a.keep l).get t = a.get t ∨ (a.keep l).get t = .undef := by
  simp only [AAct.keep, AAct.get]
  induction l with
  | nil => exact .inr rfl
  | cons x l ih =>
    simp only [List.map_cons, List.lookup_cons]
    by_cases h : t = x
    · subst h; simp
    · have : (t == x) = false := by simpa using h
      simp only [this]
      exact ih

theorem keep_off {a b : AAct} (h : Off none a b) (l : List Nat) : a.keep l = b.keep l := by
  simp only [AAct.keep]
  obtain ⟨h1, h2, h3⟩ := h
  cases a
  cases b
  simp only at h2 h3
  subst h2
  subst h3
  congr 1
  apply List.map_congr_left
  intro t _
  rw [h1 t (by simp)]

theorem ARel.keep (h : ARel w I a A) (l : List Nat) : ARel w I (a.keep l) A :=
  ⟨fun t => by
    rcases get_keep a l t with e | e
    · rw [e]; exact h.tmps t
    · rw [e]; exact .undef _, h.size, h.len, h.defers⟩

/-- What is said less is true the more. -/
theorem Rel.le (h : Rel X I σ w) {σ₁ : AH} (hle : σ₁.le σ) : Rel X I σ₁ w where
  obj b o hb := by
    obtain ⟨p1, p2, p3⟩ := h.obj b o (hle.1 b o hb)
    refine ⟨p1, ?_, p3⟩
    cases ht : σ₁.tip b with
    | none => rfl
    | some e => have := hle.2 b e ht; rw [p2] at this; simp at this
  tips b e hb := h.tips b e (hle.2 b e hb)
  glob := h.glob
  immc := h.immc
  base := h.base
  old := h.old
  os := h.os
  tape := h.tape
  output := h.output

theorem plain_ops {id : Nat} {ops : Array Oper} {d : Bool} (h : plainC (.region id ops d) = true) : ops.toList.all plainO = true := h

/-- CODE DOES WHAT ITS LOWERED TEXT SAYS. -/
theorem code_sound (hm : X.P.follows .mixedOrders = true) {h : Hints} {n : Nat} {r : Option Nat} : ∀ {c : Code} {lc : LC}, lowC X.P h n c = some lc → (r = none ∨ plainC c = true) → ∀ {Q : EPost} {I₀ : Imm} {w₀ : World} {a : AAct} {σ : AH} {I : Imm} {A : Act} {w : World},
    wpC X lc Q a σ → A.tmps.size = n → Rel X I σ w → ARel w I a A → Ext I₀ w₀ I w → c.wpIn (Fw r) 0 X.P (liftQ X n I₀ w₀ Q) A w
  | .skip, lc, hl, hp, Q, I₀, w₀, a, σ, I, A, w, hs, hn, hr, ha, x => by
    simp only [lowC, Option.some.injEq] at hl
    subst hl
    exact wpIn_skip ⟨I, a, σ, hs, hn, hr, ha, x⟩
  | .region id ops draw, lc, hl, hp, Q, I₀, w₀, a, σ, I, A, w, hs, hn, hr, ha, x => by
    simp only [lowC] at hl
    split at hl
    · rename_i ls hls
      have hK : Behind X n I₀ w₀ (fun a σ => Q .normal (a.keep ((h.keep.lookup id).getD [])) σ) (liftQ X n I₀ w₀ Q .normal) :=
        fun a' σ' I' A' w' hk hn' hr' ha' x' => ⟨I', _, _, hk, hn', hr', ha'.keep _, x'⟩
      split at hl
      · rename_i hd
        subst hd
        split at hl
        · rename_i hok
          simp only [Option.some.injEq] at hl
          subst hl
          exact drw_sound hm hok (fun a b σ ho hk => by rw [keep_off ho]; exact hk) hK hls (hp.imp (fun h => h) plain_ops) a σ I A w hs hn hr ha x
        · simp at hl
      · rename_i hd
        obtain rfl : draw = false := by simpa using hd
        simp only [Option.some.injEq] at hl
        subst hl
        exact wpIn_region_list (region_sound hK (hp.imp (fun h => h) plain_ops) hls a σ I A w hs hn hr ha x)
    · simp at hl
  | .seq c d, lc, hl, hp, Q, I₀, w₀, a, σ, I, A, w, hs, hn, hr, ha, x => by
    simp only [lowC] at hl
    split at hl
    · rename_i lx ly hx hy
      simp only [Option.some.injEq] at hl
      subst hl
      refine wpIn_seq (wpIn_mono (code_sound hm hx (hp.imp (fun h => h) fun h => by simp only [plainC, Bool.and_eq_true] at h; exact h.1) hs hn hr ha x) fun e A' w' hq => ?_)
      obtain ⟨I', a', σ', hq, hn', hr', ha', x'⟩ := hq
      cases e with
      | normal => exact code_sound hm hy (hp.imp (fun h => h) fun h => by simp only [plainC, Bool.and_eq_true] at h; exact h.2) hq hn' hr' ha' x'
      | exit id => exact ⟨I', a', σ', hq, hn', hr', ha', x'⟩
      | goto l => exact ⟨I', a', σ', hq, hn', hr', ha', x'⟩
      | ret => exact ⟨I', a', σ', hq, hn', hr', ha', x'⟩
      | panic ch => exact ⟨I', a', σ', hq, hn', hr', ha', x'⟩
      | outgrown => exact ⟨I', a', σ', hq, hn', hr', ha', x'⟩
    · simp at hl
  | .cond q' c d, lc, hl, hp, Q, I₀, w₀, a, σ, I, A, w, hs, hn, hr, ha, x => by
    simp only [lowC] at hl
    split at hl
    · rename_i q lx ly hpo hx hy
      simp only [Option.some.injEq] at hl
      subst hl
      simp only [wpC] at hs
      split at hs
      · rename_i b hb
        have hv := opd_sound hr ha hpo
        rw [hb] at hv
        refine wpIn_cond hv.bool_inv ?_
        cases b with
        | true => exact code_sound hm hx (hp.imp (fun h => h) fun h => by simp only [plainC, Bool.and_eq_true] at h; exact h.1) (by simpa using hs) hn hr ha x
        | false => exact code_sound hm hy (hp.imp (fun h => h) fun h => by simp only [plainC, Bool.and_eq_true] at h; exact h.2) (by simpa using hs) hn hr ha x
      · exact hs.elim
    · simp at hl
  | .block id c, lc, hl, hp, Q, I₀, w₀, a, σ, I, A, w, hs, hn, hr, ha, x => by
    simp only [lowC, Option.map_eq_some_iff] at hl
    obtain ⟨lx, hx, rfl⟩ := hl
    refine wpIn_block (wpIn_mono (code_sound hm hx (hp.imp (fun h => h) fun h => by simpa only [plainC] using h) hs hn hr ha x) fun e A' w' hq => ?_)
    obtain ⟨I', a', σ', hq, hn', hr', ha', x'⟩ := hq
    cases e with
    | exit i =>
      simp only [EPost.inBlock] at hq
      simp only [Exit.inBlock]
      split
      · rename_i hi
        rw [if_pos hi] at hq
        exact ⟨I', a', σ', hq, hn', hr', ha', x'⟩
      · rename_i hi
        rw [if_neg hi] at hq
        exact ⟨I', a', σ', hq, hn', hr', ha', x'⟩
    | normal => exact ⟨I', a', σ', hq, hn', hr', ha', x'⟩
    | goto l => exact ⟨I', a', σ', hq, hn', hr', ha', x'⟩
    | ret => exact ⟨I', a', σ', hq, hn', hr', ha', x'⟩
    | panic ch => exact ⟨I', a', σ', hq, hn', hr', ha', x'⟩
    | outgrown => exact ⟨I', a', σ', hq, hn', hr', ha', x'⟩
  | .loop c, lc, hl, hp, Q, I₀, w₀, a, σ, I, A, w, hs, hn, hr, ha, x => by
    simp only [lowC, Option.map_eq_some_iff] at hl
    obtain ⟨lx, hx, rfl⟩ := hl
    simp only [wpC] at hs
    obtain ⟨J, ⟨k, σ₀, hle₀, hk⟩, hround⟩ := hs
    let S : Act → World → Nat → Prop := fun A' w' k => ∃ a' σ' I', J k a' σ' ∧ A'.tmps.size = n ∧ Rel X I' σ' w' ∧ ARel w' I' a' A' ∧ Ext I₀ w₀ I' w'
    classical
    have low : ∀ A' w', (∃ k, S A' w' k) → ∃ k, S A' w' k ∧ ∀ m, S A' w' m → k ≤ m := fun A' w' hex => by
      obtain ⟨k, hk⟩ := hex
      induction k using Nat.strongRecOn with
      | _ k ih =>
        by_cases hm' : ∃ m, m < k ∧ S A' w' m
        · obtain ⟨m, h1, h2⟩ := hm'
          exact ih m h1 h2
        · exact ⟨k, hk, fun m hS => Nat.le_of_not_lt fun hlt => hm' ⟨m, hlt, hS⟩⟩
    let μ : Act → World → Nat := fun A' w' => if hex : ∃ k, S A' w' k then (low A' w' hex).choose else 0
    refine wpIn_loop (fun A' w' => ∃ k, S A' w' k) μ ⟨k, a, σ₀, I, hk, hn, hr.le hle₀, ha, x⟩ fun A' w' hex => ?_
    have hμ : μ A' w' = (low A' w' hex).choose := dif_pos hex
    obtain ⟨⟨a', σ', I', hj, hn', hr', ha', x'⟩, _⟩ := (low A' w' hex).choose_spec
    refine wpIn_mono (code_sound hm hx (hp.imp (fun h => h) fun h => by simpa only [plainC] using h) (hround _ a' σ' hj) hn' hr' ha' x') fun e A'' w'' hq => ?_
    obtain ⟨I₂, a₂, σ₂, hq, hn₂, hr₂, ha₂, x₂⟩ := hq
    cases e with
    | normal =>
      obtain ⟨m, σ₃, hlt, hle₂, hj₂⟩ := hq
      have hS : S A'' w'' m := ⟨a₂, σ₃, I₂, hj₂, hn₂, hr₂.le hle₂, ha₂, x₂⟩
      have hex₂ : ∃ k, S A'' w'' k := ⟨m, hS⟩
      refine ⟨hex₂, ?_⟩
      have h2 : μ A'' w'' = (low A'' w'' hex₂).choose := dif_pos hex₂
      have h3 := (low A'' w'' hex₂).choose_spec.2 m hS
      omega
    | exit id => exact ⟨I₂, a₂, σ₂, hq, hn₂, hr₂, ha₂, x₂⟩
    | goto l => exact ⟨I₂, a₂, σ₂, hq, hn₂, hr₂, ha₂, x₂⟩
    | ret => exact ⟨I₂, a₂, σ₂, hq, hn₂, hr₂, ha₂, x₂⟩
    | panic ch => exact ⟨I₂, a₂, σ₂, hq, hn₂, hr₂, ha₂, x₂⟩
    | outgrown => exact ⟨I₂, a₂, σ₂, hq, hn₂, hr₂, ha₂, x₂⟩
  | .exit id, lc, hl, hp, Q, I₀, w₀, a, σ, I, A, w, hs, hn, hr, ha, x => by
    simp only [lowC, Option.some.injEq] at hl
    subst hl
    exact wpIn_exit ⟨I, a, σ, hs, hn, hr, ha, x⟩
  | .ret, lc, hl, hp, Q, I₀, w₀, a, σ, I, A, w, hs, hn, hr, ha, x => by
    simp only [lowC, Option.some.injEq] at hl
    subst hl
    exact wpIn_ret ⟨I, a, σ, hs, hn, hr, ha, x⟩
  | .rangeFunc g ps x y, lc, hl, hp, Q, I₀, w₀, a, σ, I, A, w, hs, hn, hr, ha, x₀ => by
    obtain rfl : r = none := hp.resolve_right (by simp [plainC])
    simp only [lowC] at hl
    split at hl
    · rename_i g' lx ly hg hx hy
      split at hl
      · rename_i hc
        simp only [Bool.and_eq_true, List.all_eq_true, decide_eq_true_eq] at hc
        simp only [Option.some.injEq] at hl
        subst hl
        simp only [wpC] at hs
        have hf := hr.fresh
        have r1 := hr.new (.deferred (some [])) .dfr (by show (w.alloc _).heap[w.heap.size]? = _; exact World.alloc_heap_new w _)
        have x1 := Ext.alloc hr (.deferred (some []))
        refine wpIn_rangeFunc fun fn _ => ?_
        let rcd : Loop := { state := .ready, pending := none, fn, tmps := A.tmps, params := ps, assign := x, body := y, defers := w.heap.size }
        have ha1 := ha.ext x1
        have han : a.n = n := ha.size.symm.trans hn
        have x2 := Ext.alloc r1 (.loop rcd)
        have r2 := r1.new (.loop rcd) (.loop a.env ⟨a.n, ps.toList, lx, ly⟩ .ready) ⟨rcd, World.alloc_heap_new _ _, by simp [rcd], ha.size, ⟨h, by rw [han]; exact hx, by rw [han]; exact hy⟩, hc.1.1, hc.1.2, fun t ht => by rw [han]; exact hc.2 t ht, fun t => (ha1.tmps t).ext x2, rfl, rfl⟩
        have e1 : (w.alloc (.deferred (some []))).heap.size = w.heap.size + 1 := World.size_alloc _ _
        rw [e1] at r2
        have hs' := hs w.heap.size (w.heap.size + 1) hf ⟨?_, ?_⟩ (by omega)
        · unfold ECallF at hs'
          split at hs'
          · rename_i f first captured hgf
            obtain ⟨hent, hcall⟩ := hs'
            have ha2 := ha1.ext x2
            have hgv := opd_sound hr ha hg
            rw [hgf] at hgv
            obtain ⟨vs, us, he, hvs, hus⟩ := hgv.func_inv
            have hall : VRels ((w.alloc (.deferred (some []))).alloc (.loop rcd)) I (first ++ [.yield (w.heap.size + 1)] ++ captured) (vs ++ #[.func (.yield (w.heap.size + 1)) #[] #[]] ++ us) := by
              refine VRels.append (VRels.append ((hvs.ext x1).ext x2) ⟨rfl, fun i c hc => ?_⟩) ((hus.ext x1).ext x2)
              rcases i with _ | i
              · simp only [List.getElem?_cons_zero, Option.some.injEq] at hc
                subst hc
                exact .yield _
              · simp at hc
            obtain hcalls := hcall I _ _ r2 hall
            refine ⟨w.heap.size + 1, [{ target := .collected w.heap.size, args := #[] }], (w.alloc (.deferred (some []))).alloc (.loop rcd), { target := .fn (.func f) us, args := vs ++ #[.func (.yield (w.heap.size + 1)) #[] #[]] }, (w.alloc (.deferred (some []))).alloc (.loop rcd), f, vs ++ #[.func (.yield (w.heap.size + 1)) #[] #[]] ++ us, (w.alloc (.deferred (some []))).alloc (.loop rcd), run_enterLoop_outer fn A.tmps ps x y, ?_, fun _ _ => trivial, ?_, by simp [Fence.wide], callsIn_Fw.2 ?_⟩
            · simp only [resolve, he, Deferred.ofValue]
              simp
              rfl
            · simpa [invoke] using hent _ _
            · rcases hcalls with ⟨_, h2⟩ | ⟨cv, w', h1, _⟩
              · refine h2.mono fun e w' hq => ?_
                obtain ⟨v, cv, I', σ', rfl, hk, h3, h4, h5⟩ := hq
                simp only [rangePost]
                have x3 : Ext I w I' w' := (x1.trans x2).trans h5
                have ha3 : ARel w' I' { a with defers := (.ptr w.heap.size 0, []) :: a.defers } { A with defers := { target := .collected w.heap.size, args := #[] } :: A.defers } := by
                  have ha' := ha.ext x3
                  refine ⟨ha'.tmps, ha'.size, by simp [ha'.len], fun i f' xs' hi => ?_⟩
                  rcases i with _ | i
                  · simp only [List.getElem?_cons_zero, Option.some.injEq, Prod.mk.injEq] at hi
                    obtain ⟨rfl, rfl⟩ := hi
                    exact ⟨_, rfl, rfl⟩
                  · exact ha'.defers i f' xs' (by simpa using hi)
                have fin : ∀ env lr st, σ'.heap (w.heap.size + 1) = some (.loop env lr st) → ∃ rl : Loop, w'.heap[w.heap.size + 1]? = some (.loop rl) ∧ st.rel rl ∧ ∀ o, Ext I' w' I' (w'.putObj (w.heap.size + 1) o) ∧ Rel X I' (σ'.drop (w.heap.size + 1)) (w'.putObj (w.heap.size + 1) o) := fun env lr st he => by
                  obtain ⟨_, _, rl, q1, _, _, _, _, _, _, _, q2⟩ := h4.obj _ _ he
                  obtain ⟨b1, b2⟩ := loop_blank q1
                  exact ⟨rl, q1, q2, fun o => ⟨(h4.put he b1 b2 o).1, (h4.put he b1 b2 o).2.1⟩⟩
                unfold rpostA at hk
                split at hk
                · rename_i env lr hl
                  obtain ⟨rl, q1, ⟨q2, q3⟩, q4⟩ := fin _ _ _ hl
                  obtain ⟨q5, q6⟩ := q4 (.loop { rl with state := .exhausted })
                  refine ⟨none, _, by rw [← q3]; exact run_endLoop q1 (by rw [q2]; simp), ?_⟩
                  exact ⟨I', _, _, hk, hn, q6, ha3.ext q5, (x₀.trans x3).trans q5⟩
                · rename_i env lr hl
                  obtain ⟨rl, q1, ⟨q2, q3⟩, q4⟩ := fin _ _ _ hl
                  obtain ⟨q5, q6⟩ := q4 (.loop { rl with state := .exhausted })
                  refine ⟨some .ret, _, by rw [show some Code.ret = rl.pending from q3.symm]; exact run_endLoop q1 (by rw [q2]; simp), ?_⟩
                  exact wpIn_ret ⟨I', _, _, hk, hn, q6, ha3.ext q5, (x₀.trans x3).trans q5⟩
                · rename_i env lr id hl
                  obtain ⟨rl, q1, ⟨q2, q3⟩, q4⟩ := fin _ _ _ hl
                  obtain ⟨q5, q6⟩ := q4 (.loop { rl with state := .exhausted })
                  refine ⟨some (.exit id), _, by rw [show some (Code.exit id) = rl.pending from q3.symm]; exact run_endLoop q1 (by rw [q2]; simp), ?_⟩
                  exact wpIn_exit ⟨I', _, _, hk, hn, q6, ha3.ext q5, (x₀.trans x3).trans q5⟩
                · exact hk.elim
              · have h0 := hent (vs ++ #[.func (.yield (w.heap.size + 1)) #[] #[]] ++ us) ((w.alloc (.deferred (some []))).alloc (.loop rcd))
                rw [h0] at h1
                simp at h1
          · exact hs'.elim
        · cases hq : σ.heap (w.heap.size + 1) with
          | none => rfl
          | some o => have := hr.lt_heap hq; omega
        · cases hq : σ.tip (w.heap.size + 1) with
          | none => rfl
          | some o => have := hr.lt_tip hq; omega
      · simp at hl
    · simp at hl
  | .scope c, lc, hl, hp, Q, I₀, w₀, a, σ, I, A, w, hs, hn, hr, ha, x => by
    simp only [lowC, Option.map_eq_some_iff] at hl
    obtain ⟨lx, hx, rfl⟩ := hl
    refine wpIn_scope_straight (wpIn_mono (code_sound hm hx (hp.imp (fun h => h) fun h => by simpa only [plainC] using h) hs hn hr ha x) fun e A' w' hq => ?_)
    obtain ⟨I', a', σ', hq, hn', hr', ha', x'⟩ := hq
    cases e with
    | normal => exact ⟨I', a', σ', hq, hn', hr', ha', x'⟩
    | exit i => exact ⟨I', a', σ', hq, hn', hr', ha', x'⟩
    | goto l => exact hq.elim
    | ret => exact ⟨I', a', σ', hq, hn', hr', ha', x'⟩
    | panic ch => exact ⟨I', a', σ', hq, hn', hr', ha', x'⟩
    | outgrown => exact ⟨I', a', σ', hq, hn', hr', ha', x'⟩
  | .label _, lc, hl, hp, Q, I₀, w₀, a, σ, I, A, w, hs, hn, hr, ha, x => by
    simp only [lowC, Option.some.injEq] at hl
    subst hl
    exact wpIn_label ⟨I, a, σ, hs, hn, hr, ha, x⟩
  | .goto _, lc, hl, hp, _, _, _, _, _, _, _, _, _, _, _, _, _ => by simp [lowC] at hl
  | .refuse _, lc, hl, hp, _, _, _, _, _, _, _, _, _, _, _, _, _ => by simp [lowC] at hl

/- Functions. -/
inductive RV where
  | t (t : Nat)
  | cell (t : Nat) (n : Option Nat)

def lowRes (P : Program) : List ResultVar → Option (List RV)
  | [] => some []
  | .tmp t :: rs => match lowRes P rs with
    | some l => some (.t t :: l)
    | none => none
  | .cell t ty :: rs => match shapeP P ty, lowRes P rs with
    | some n, some l => some (.cell t n :: l)
    | _, _ => none

def resL (σ : AH) (a : AAct) : List RV → Option (List AV)
  | [] => some []
  | .t t :: rs => match resL σ a rs with
    | some l => some (a.get t :: l)
    | none => none
  | .cell t n :: rs => match (match a.get t with | .ptr b o => loadA σ n (.ptr b o) | _ => none), resL σ a rs with
    | some v, some l => some (v :: l)
    | _, _ => none

def packA : List AV → AV
  | [v] => v
  | l => .tuple l

/-- What a function leaves behind. -/
def finishA (rvs : List RV) (R : AV → AH → Prop) (a : AAct) (σ : AH) : Prop :=
  optK (resL σ a rvs) fun l => ∃ v σ₁, v.le (packA l) ∧ σ₁.le σ ∧ R v σ₁

def ECallsD (X : Ctx) (f : FuncId) (args : List AV) (σ : AH) (R : AH → Prop) : Prop :=
  ∀ I w cargs, Rel X I σ w → VRels w I args cargs → (callFunc f cargs).run X.P w = .ok (.enter f cargs) w ∧ CallsDIn Fence.wide 0 X.P f cargs .returning w fun e u w' =>
    ∃ cv I' σ', e = .returned cv ∧ u = .returning ∧ R σ' ∧ Rel X I' σ' w' ∧ Ext I w I' w'

def ECallVD (X : Ctx) (f : AV) (args : List AV) (σ : AH) (R : AH → Prop) : Prop :=
  match f with
  | .func f first captured => ECallsD X f (first ++ args ++ captured) σ R
  | _ => False

def leaveA (X : Ctx) (K : AH → Prop) : List (AV × List AV) → AH → Prop
  | [], σ => K σ
  | (.ptr r _, _) :: ds, σ => σ.heap r = some .dfr ∧ leaveA X K ds (σ.drop r)
  | (f, xs) :: ds, σ => ECallVD X f xs σ fun σ' => leaveA X K ds σ'

def funPost (X : Ctx) (rvs : List RV) (R : AV → AH → Prop) : EPost := fun e a σ => match e with
  | .normal => leaveA X (finishA rvs R a) a.defers σ
  | .ret => leaveA X (finishA rvs R a) a.defers σ
  | _ => False

def initEnv : Nat → List AV → List (Nat × AV)
  | _, [] => []
  | i, v :: vs => (i, v) :: initEnv (i + 1) vs
def initA (n : Nat) (args : List AV) : AAct := { env := initEnv 0 args, defers := [], n := n }

theorem lookup_initEnv : ∀ (vs : List AV) (i t : Nat), (initEnv i vs).lookup t = if i ≤ t then vs[t - i]? else none
  | [], i, t => by simp [initEnv]
  | v :: vs, i, t => by
    simp only [initEnv, List.lookup_cons]
    by_cases h : t = i
    · subst h; simp
    · have : (t == i) = false := by simpa using h
      simp only [this]
      rw [lookup_initEnv vs (i + 1) t]
      by_cases hle : i ≤ t
      · rw [if_pos (by omega), if_pos hle, show t - i = (t - (i + 1)) + 1 by omega, List.getElem?_cons_succ]
      · rw [if_neg (by omega), if_neg hle]

theorem init_rel {n : Nat} {args : List AV} {cargs : Array Value} (hv : VRels w I args cargs) (hn : args.length ≤ n) :
    ARel w I (initA n args) { tmps := cargs ++ Array.replicate (n - cargs.size) undef, defers := [] } := by
  refine ⟨fun t => ?_, by simp [initA]; rw [← hv.1]; omega, rfl, fun i f xs hi => by simp [initA] at hi⟩
  simp only [initA, AAct.get, lookup_initEnv, Nat.zero_le, if_true, Nat.sub_zero]
  cases ht : args[t]? with
  | none => exact .undef _
  | some v =>
    have hlt : t < cargs.size := by rw [← hv.1]; exact (List.getElem?_eq_some_iff.1 ht).1
    have := hv.2 t v ht
    rw [Array.getD_eq_getD_getElem?] at this ⊢
    rw [Array.getElem?_append_left hlt]
    exact this

theorem run_mapM_results {P : Program} (hr : Rel X I σ w) (ha : ARel w I a A) {g : ResultVar → Sem Value} (hg1 : ∀ t, g (.tmp t) = pure (A.tmps.getD t undef))
    (hg2 : ∀ p t, g (.cell p t) = (do loadVar t (← asAddr (A.tmps.getD p undef)))) : ∀ {rs : List ResultVar} {rvs : List RV} {l : List AV}, lowRes P rs = some rvs → resL σ a rvs = some l →
    ∃ vs : List Value, (rs.mapM g).run P w = .ok vs w ∧ VRels w I l vs.toArray
  | [], rvs, l, hl, h => by
    simp only [lowRes, Option.some.injEq] at hl
    subst hl
    simp only [resL, Option.some.injEq] at h
    subst h
    exact ⟨[], by simp, rfl, fun i c hc => by simp at hc⟩
  | .tmp t :: rs, rvs, l, hl, h => by
    simp only [lowRes] at hl
    split at hl
    · rename_i l' hl'
      simp only [Option.some.injEq] at hl
      subst hl
      simp only [resL] at h
      split at h
      · rename_i l'' hl''
        simp only [Option.some.injEq] at h
        subst h
        obtain ⟨vs, h1, h2⟩ := run_mapM_results hr ha hg1 hg2 hl' hl''
        refine ⟨A.tmps.getD t undef :: vs, by simp only [List.mapM_cons, hg1, Sem.run_bind, Sem.run_pure, Result.andThen_ok, h1], by simp [h2.1], fun i c hc => ?_⟩
        rcases i with _ | i
        · simp only [List.getElem?_cons_zero, Option.some.injEq] at hc
          subst hc
          simpa using ha.tmps t
        · have := h2.2 i c (by simpa using hc)
          simpa using this
      · simp at h
    · simp at hl
  | .cell t ty :: rs, rvs, l, hl, h => by
    simp only [lowRes] at hl
    split at hl
    · rename_i n l' hn hl'
      simp only [Option.some.injEq] at hl
      subst hl
      simp only [resL] at h
      split at h
      · rename_i v l'' hv hl''
        simp only [Option.some.injEq] at h
        subst h
        obtain ⟨vs, h1, h2⟩ := run_mapM_results hr ha hg1 hg2 hl' hl''
        split at hv
        · rename_i b o hg
          have ht := ha.tmps t
          rw [hg] at ht
          obtain ⟨u, q1, q2⟩ := run_loadAt (P := P) hr hn ht hv
          rw [ht.ptr_inv] at q1
          have hp := ht.ptr_inv
          refine ⟨u :: vs, ?_, by simp [h2.1], fun i c hc => ?_⟩
          · simp only [Instr.loadAt, Instr.sureAddr, Sem.run_bind, Sem.run_pure, Result.andThen_ok] at q1
            have has : ∀ p : Addr, (asAddr (.pointer (some p))).run P w = .ok p w := fun _ => rfl
            simp only [List.mapM_cons, hg2, Sem.run_bind, hp, has, Sem.run_pure, Result.andThen_ok, q1, h1]
          · rcases i with _ | i
            · simp only [List.getElem?_cons_zero, Option.some.injEq] at hc
              subst hc
              simpa using q2
            · have := h2.2 i c (by simpa using hc)
              simpa using this
        · simp at hv
      · simp at h
    · simp at hl

theorem run_results {P : Program} (hr : Rel X I σ w) (ha : ARel w I a A) {fn : Func} {rvs : List RV} (hl : lowRes P fn.results.toList = some rvs) {l : List AV} (h : resL σ a rvs = some l) :
    ∃ u, (results fn A.tmps).run P w = .ok u w ∧ VRel w I (packA l) u := by
  obtain ⟨vs, h1, h2⟩ := run_mapM_results (P := P) hr ha (g := fun
    | .tmp t => pure (A.tmps.getD t undef)
    | .cell a t => do loadVar t (← asAddr (A.tmps.getD a undef))) (fun _ => rfl) (fun _ _ => rfl) hl h
  refine ⟨if h : vs.toArray.size = 1 then vs.toArray[0] else .tuple vs.toArray, ?_, ?_⟩
  · unfold results
    rw [Array.mapM_eq_mapM_toList, Sem.run_bind, Sem.run_map]
    refine Eq.trans (congrArg (fun r => (Result.andThen r _).andThen _) h1) ?_
    rfl
  · by_cases hs : vs.toArray.size = 1
    · rw [dif_pos hs]
      have hl1 : l.length = 1 := by rw [h2.1, hs]
      obtain ⟨v, rfl⟩ := List.length_eq_one_iff.1 hl1
      have := h2.2 0 v rfl
      simp only [packA]
      rw [Array.getD_eq_getD_getElem?, Array.getElem?_eq_getElem (by omega)] at this
      exact this
    · rw [dif_neg hs]
      have : packA l = .tuple l := by
        unfold packA
        split
        · rename_i v
          exact absurd (by rw [← h2.1]; rfl) hs
        · rfl
      rw [this]
      exact .tuple _ _ h2.1 h2.2

end
end Go.Scr
