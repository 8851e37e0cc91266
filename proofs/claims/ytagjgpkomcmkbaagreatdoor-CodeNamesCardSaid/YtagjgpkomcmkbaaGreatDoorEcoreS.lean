/- A function's lowered text does what its text does: part 19 of a program logic over the model: regions. No condition but that the region was lowered. -/
import Derived.Test.YtagjgpkomcmkbaaGreatDoorEcoreR
namespace Go.Scr
open Go

section
variable {X : Ctx} {I : Imm} {σ : AH} {w : World} {a : AAct} {A : Act}

/-- What stepL says of an operation that is, or isn't, to be done. -/
theorem stepL_inv {l : L1} {K : AAct → AH → Prop} (hne : ∀ i, l.op ≠ .same i) (hs : stepL X l a σ K) : (l.guard = none ∧ stepI X l.dst a σ K l.op) ∨
    ∃ s want, l.guard = some (s, want) ∧ ((a.get s = .bool want ∧ stepI X l.dst a σ K l.op) ∨ ((a.get s = .tuple [] ∨ ∃ b, a.get s = .bool b ∧ b ≠ want) ∧ K (a.put l.dst (.tuple [])) σ)) := by
  have hs : stepG X l a σ K := by
    unfold stepL at hs
    split at hs
    · rename_i i hi
      exact absurd hi (hne i)
    · exact hs
  unfold stepG at hs
  split at hs
  · rename_i hg
    exact .inl ⟨hg, hs⟩
  · rename_i s want hg
    split at hs
    · rename_i b hb
      split at hs
      · rename_i hbw
        exact .inr ⟨s, want, hg, .inl ⟨by rw [hb, hbw], hs⟩⟩
      · rename_i hbw
        exact .inr ⟨s, want, hg, .inr ⟨.inr ⟨b, hb, hbw⟩, hs⟩⟩
    · rename_i hb
      exact .inr ⟨s, want, hg, .inr ⟨.inl hb, hs⟩⟩
    · exact hs.elim

theorem lowBuiltin_ne_same {P : Program} {mode : Nat} {b : Builtin} {ts : List TypeId} {xs : List Opd} {i : I1} (h : lowBuiltin P mode b ts xs = some i) : ∀ j, i ≠ .same j := by
  unfold lowBuiltin at h
  split at h
  · split at h <;> simp only [Option.some.injEq, reduceCtorEq] at h <;> subst h <;> simp
  · split at h <;> (try split at h) <;> (try split at h) <;> (try split at h) <;> simp only [Option.some.injEq, reduceCtorEq] at h <;> subst h <;> simp
  · simp only [Option.some.injEq] at h; subst h; simp
  · simp only [Option.some.injEq] at h; subst h; simp
  · simp at h

theorem lowOp_ne_same {P : Program} {mode : Nat} {o : Oper} {i : I1} (h : lowOp P mode o = some i) : ∀ j, i ≠ .same j := by
  intro j he
  subst he
  unfold lowOp at h
  split at h
  all_goals try (simp only [Option.map_eq_some_iff, reduceCtorEq, and_false, exists_false] at h; done)
  · split at h
    · simp at h
    · simp at h
  · split at h
    · unfold lowBin at h; split at h <;> (try split at h) <;> (try split at h) <;> simp at h
    · simp at h
  · split at h <;> simp at h
  · split at h <;> simp at h
  · split at h
    · unfold lowFieldAddr at h; split at h <;> (try split at h) <;> (try split at h) <;> simp at h
    · simp at h
  · split at h
    · unfold lowField at h; split at h <;> (try split at h) <;> simp at h
    · simp at h
  · split at h
    · unfold lowIndexAddr at h; split at h <;> simp at h
    · simp at h
  · split at h <;> simp at h
  · split at h
    · unfold lowSlice at h; split at h <;> simp at h
    · simp at h
  · unfold lowBuild at h; split at h <;> (try split at h) <;> simp at h
  · split at h <;> simp at h
  · split at h <;> (try split at h) <;> simp at h
  · split at h <;> simp at h
  · unfold lowBuildSlice at h; split at h <;> (try split at h) <;> (try split at h) <;> simp at h
  · simp at h
  · split at h <;> (try split at h) <;> (try split at h) <;> simp at h
  · split at h <;> (try split at h) <;> simp at h
  · split at h <;> (try split at h) <;> simp at h
  · unfold lowCall at h
    split at h
    · split at h
      · simp at h
      · exact lowBuiltin_ne_same h j rfl
      · simp at h
    · simp at h
  · split at h <;> simp at h

theorem yielded_none (ha : ARel w I a A) {ops : Array Oper} {j s : Nat} {oj : Oper} (hj : ops[j]? = some oj) (hs : oj.dst = some s) (hb : a.get s = .tuple []) : yielded ops A.tmps j = none := by
  have h := ha.tmps s
  rw [hb] at h
  have h1 : A.tmps.getD s undef = .tuple #[] := by
    generalize A.tmps.getD s undef = v at h
    cases h with
    | tuple _ vs hx hv => rw [show vs = #[] from by simpa using hx.symm]
  rw [Array.getD_eq_getD_getElem?] at h1
  cases hq : A.tmps[s]? with
  | none => simp [yielded, hj, hs, hq]
  | some v =>
    rw [hq] at h1
    simp only [Option.getD_some] at h1
    subst h1
    simp [yielded, hj, hs, hq]

theorem lowAny_ne_same {P : Program} {mode : Nat} {o : Oper} {i : I1} (h : lowAny P mode o = some i) : ∀ j, i ≠ .same j := by
  rcases lowAny_inv h with h | h
  · exact (lowX_ne h).2.2
  · exact lowOp_ne_same h

/-- One operation of a region. -/
theorem oper_wanted {h : Hints} {n : Nat} {ops : Array Oper} {o : Oper} {l : L1} (hl : lowOper X.P h n ops o = some l) (ha : ARel w I a A) (hn : A.tmps.size = n) {K : AAct → AH → Prop} (hs : stepL X l a σ K) :
    (Region.wanted o (yielded ops A.tmps) = true ∧ ∃ mode, lowAny X.P mode o = some l.op ∧ stepI X o.dst a σ K l.op ∧ ∀ d, o.dst = some d → d < a.n) ∨
    (Region.wanted o (yielded ops A.tmps) = false ∧ K (a.put o.dst (.tuple [])) σ ∧ ∀ d, o.dst = some d → d < a.n) := by
  obtain ⟨mode, h1, h2, h3, h4⟩ := lowOper_inv hl
  have hd : ∀ d, o.dst = some d → d < a.n := fun d he => by rw [← ha.size, hn]; exact h3 d he
  rcases stepL_inv (lowAny_ne_same h1) hs with ⟨hg, hst⟩ | ⟨s, want, hg, hst⟩
  · rcases h4 with ⟨hg', _⟩ | ⟨j, want, oj, s, _, _, _, hg'⟩
    · exact .inl ⟨by simp [Region.wanted, hg'], mode, h1, by rw [← h2]; exact hst, hd⟩
    · rw [hg] at hg'; simp at hg'
  · rcases h4 with ⟨_, hg'⟩ | ⟨j, want', oj, s', hog, hoj, hos, hg'⟩
    · rw [hg] at hg'; simp at hg'
    · rw [hg] at hg'
      simp only [Option.some.injEq, Prod.mk.injEq] at hg'
      obtain ⟨rfl, rfl⟩ := hg'
      rcases hst with ⟨hb, hst⟩ | ⟨hb, hst⟩
      · have hy := yielded_of ha hoj hos hb
        exact .inl ⟨by simp [Region.wanted, hog, hy], mode, h1, by rw [← h2]; exact hst, hd⟩
      · refine .inr ⟨?_, by rw [← h2]; exact hst, hd⟩
        rcases hb with hb | ⟨b, hb, hne⟩
        · have hy := yielded_none ha hoj hos hb
          simp [Region.wanted, hog, hy]
        · have hy := yielded_of ha hoj hos hb
          simp [Region.wanted, hog, hy, hne]

theorem tuple_nil (w : World) (I : Imm) : VRel w I (.tuple []) undef := .tuple [] #[] rfl fun i c hc => by simp at hc

theorem lowOpers_cons {P : Program} {h : Hints} {n : Nat} {ops : Array Oper} {o : Oper} {l : List Oper} {ls : List L1} (hl : lowOpers P h n ops (o :: l) = some ls) :
    ∃ l1 ls', ls = l1 :: ls' ∧ lowOper P h n ops o = some l1 ∧ lowOpers P h n ops l = some ls' := by
  simp only [lowOpers] at hl
  split at hl
  · rename_i i is hi his
    simp only [Option.some.injEq] at hl
    exact ⟨i, is, hl.symm, hi, his⟩
  · simp at hl

/-- The operations of a region, one by one in the order of the text. -/
theorem region_sound {h : Hints} {n : Nat} {ops : Array Oper} {I₀ : Imm} {w₀ : World} {Q : Exit → Act → World → Prop} {K : AAct → AH → Prop} (hK : Behind X n I₀ w₀ K (Q .normal)) {r : Option Nat} :
    ∀ {l : List Oper} {ls : List L1}, (r = none ∨ l.all plainO = true) → lowOpers X.P h n ops l = some ls → Behind X n I₀ w₀ (wpR X K (withFrz h ls)) (wpListIn (Fw r) 0 X.P ops Q l)
  | [], ls, _, hl => by
    simp only [lowOpers, Option.some.injEq] at hl
    subst hl
    exact fun a σ I A w hs hn hr ha x => hK a σ I A w hs hn hr ha x
  | o :: l, ls, hp, hl => by
    obtain ⟨l1, ls', rfl, hl1, hls⟩ := lowOpers_cons hl
    have ih := region_sound hK (hp.imp id fun h => by simp only [List.all_cons, Bool.and_eq_true] at h; exact h.2) hls
    intro a σ I A w hs hn hr ha x
    -- what is behind the operation itself
    obtain ⟨K', hK', hs'⟩ : ∃ K' : AAct → AH → Prop, Behind X n I₀ w₀ K' (wpListIn (Fw r) 0 X.P ops Q l) ∧ stepL X l1 a σ K' := by
      simp only [withFrz] at hs
      split at hs
      · rename_i d hd
        split at hs
        · rename_i ag z hfz
          refine ⟨_, ?_, hs⟩
          intro a' σ' I' A' w' hk hn' hr' ha' x'
          simp only [wpR, stepL, stepG, stepI, stepV, optK, ev] at hk
          split at hk
          · rename_i r hrr
            obtain ⟨v, σ₂⟩ := r
            obtain ⟨I₂, r2, a2, x2⟩ := frz_sound hr' ha' hrr
            exact ih _ _ I₂ _ _ hk hn' r2 a2 (x'.trans x2)
          · exact hk.elim
        · exact ⟨_, ih, hs⟩
      · exact ⟨_, ih, hs⟩
    unfold wpListIn
    rcases oper_wanted hl1 ha hn hs' with ⟨hw, mode, h1, h2, h3⟩ | ⟨hw, h2, h3⟩
    · rw [if_pos hw]
      exact oper_sound hr ha h1 h3 h2 x hn hK' (hp.imp id fun h => by simp only [List.all_cons, Bool.and_eq_true] at h; exact h.1)
    · rw [if_neg (by rw [hw]; simp)]
      exact ⟨fun _ _ => trivial, hK' _ _ I _ _ h2 (by rw [Act.size_put]; exact hn) hr (ha.put h3 (tuple_nil _ _)) x⟩

theorem wpR_append {K : AAct → AH → Prop} : ∀ {l1 l2 : List L1} {a : AAct} {σ : AH}, wpR X K (l1 ++ l2) a σ = wpR X (wpR X K l2) l1 a σ
  | [], l2, a, σ => rfl
  | x :: l1, l2, a, σ => by
    simp only [List.cons_append, wpR]
    congr 1
    funext a σ
    exact wpR_append

end
end Go.Scr
