/- A region's instructions do what its operations do: part 18 of a program logic over the model. No condition but that the region was lowered. -/
import Derived.Test.YtagjgpkomcmkbaaGreatDoorEcoreQa
namespace Go.Scr
open Go

section
variable {X : Ctx} {I : Imm} {σ : AH} {w : World} {a : AAct} {A : Act}

theorem frz_sound (hr : Rel X I σ w) (ha : ARel w I a A) {ag : Bool} {z d : Nat} {v : AV} {σ' : AH} (h : frzA σ ag z (a.get d) = some (v, σ')) :
    ∃ I', Rel X I' σ' w ∧ ARel w I' (a.put (some d) v) A ∧ Ext I w I' w := by
  have put : ∀ {I' : Imm}, Ext I w I' w → VRel w I' v (A.tmps.getD d undef) → ARel w I' (a.put (some d) v) A := fun {I'} x hv => by
    have ha' := ha.ext x
    refine ⟨fun t => ?_, ha'.size, ha'.len, ha'.defers⟩
    rw [AAct.get_put]
    split
    · rename_i ht; subst ht; exact hv
    · exact ha'.tmps t
  have hd := ha.tmps d
  unfold frzA at h
  split at h
  · rename_i he
    rw [he] at hd
    simp only [Option.some.injEq, Prod.mk.injEq] at h
    obtain ⟨rfl, rfl⟩ := h
    exact ⟨I, hr, put (Ext.refl _ _) hd, Ext.refl _ _⟩
  · rename_i z' t xs he
    rw [he] at hd
    simp only [Option.some.injEq, Prod.mk.injEq] at h
    obtain ⟨rfl, rfl⟩ := h
    exact ⟨I, hr, put (Ext.refl _ _) hd, Ext.refl _ _⟩
  · rename_i z' b o n he
    rw [he] at hd
    split at h
    · rename_i hc
      obtain ⟨rfl, rfl, hagz⟩ := hc
      split at h
      · rename_i vs hb
        split at h
        · rename_i hc2
          obtain ⟨hlen, hg⟩ := hc2
          simp only [Option.some.injEq, Prod.mk.injEq] at h
          obtain ⟨rfl, rfl⟩ := h
          obtain ⟨cap, hcv, hcap, e', sz, hsh, hfit⟩ := hd.slice_inv
          obtain ⟨c, tt, f, c1, c2, c3, c4⟩ := (hr.obj _ _ hb).2.2.cells_inv
          obtain ⟨g1, g2, g3⟩ := flat_group hagz n vs (by omega) hg
          rw [List.take_of_length_le (by omega)] at g1
          let I' : Imm := fun b' i => I b' i ∨ (b' = b ∧ i < n * z)
          have x : Ext I w I' w := ⟨fun b' i hi => ⟨.inl hi, rfl⟩, fun _ _ hs => hs⟩
          have back : ∀ b', b' ≠ b → ∀ i, I' b' i → I b' i := fun b' hbb i hi => by
            rcases hi with hi | ⟨hi, _⟩
            · exact hi
            · exact absurd hi hbb
          have r1 : Rel X I' (σ.drop b) w := by
            refine hr.next x (fun b' o ho => ?_) (fun b' e ht => ?_) (fun b' i hi => ?_) (Nat.le_refl _) (fun _ _ => rfl) rfl rfl rfl
            · simp only [AH.drop] at ho
              split at ho
              · simp at ho
              · rename_i hbb
                exact .inl ⟨ho, rfl, back b' hbb, rfl⟩
            · have hbb : b' ≠ b := fun h => by
                subst h
                have := (hr.obj _ _ hb).2.1
                simp only [AH.drop] at ht
                rw [this] at ht
                simp at ht
              exact .inl ⟨ht, rfl, back b' hbb⟩
            · rcases hi with hi | ⟨rfl, hi⟩
              · exact .inl hi
              · have := c2.1
                exact .inr ⟨c[i]'(by omega), by rw [cell_of_row _ _ _ _ _ _ c1]; exact Array.getElem?_eq_getElem (by omega)⟩
          refine ⟨I', r1, put x ?_, x⟩
          rw [hcv]
          have hl : VRel w I' (.list z none (groupA ag z n vs)) (.slice (some ⟨b, 0, none⟩) (groupA ag z n vs).length cap) := by
            refine .list _ _ _ _ _ _ (fun i => c.getD i undef) g3 (fun i v hv => ?_) (fun i hi => ?_) (by rw [g2]; exact hcap) fun t ht => by simp at ht
            · rw [g1] at hv
              exact (c2.2 i v hv).ext x
            · rw [g2] at hi
              rw [Nat.zero_add]
              have := c2.1
              refine ⟨.inr ⟨rfl, hi⟩, ?_⟩
              rw [cell_of_row _ _ _ _ _ _ c1, Array.getD_eq_getD_getElem?, Array.getElem?_eq_getElem (by omega)]
              rfl
          rw [g2] at hl
          exact hl
        · simp at h
      · simp at h
    · simp at h
  · simp at h

theorem Act.size_put (A : Act) (d : Option Nat) (v : Value) : (A.put d v).tmps.size = A.tmps.size := by cases d <;> simp [Act.put]

/-- What is behind a region, in the model's words. -/
def Behind (X : Ctx) (n : Nat) (I₀ : Imm) (w₀ : World) (K : AAct → AH → Prop) (R : Act → World → Prop) : Prop :=
  ∀ (a' : AAct) (σ' : AH) (I' : Imm) (A' : Act) (w' : World), K a' σ' → A'.tmps.size = n → Rel X I' σ' w' → ARel w' I' a' A' → Ext I₀ w₀ I' w' → R A' w'

theorem lowOper_inv {P : Program} {h : Hints} {n : Nat} {ops : Array Oper} {o : Oper} {l : L1} (hl : lowOper P h n ops o = some l) :
    ∃ mode, lowAny P mode o = some l.op ∧ l.dst = o.dst ∧ (∀ d, o.dst = some d → d < n) ∧
      ((o.guard = none ∧ l.guard = none) ∨ ∃ j want oj s, o.guard = some (j, want) ∧ ops[j]? = some oj ∧ oj.dst = some s ∧ l.guard = some (s, want)) := by
  unfold lowOper at hl
  split at hl
  · rename_i i g hi hg
    split at hl
    · rename_i hd
      simp only [Option.some.injEq] at hl
      subst hl
      refine ⟨_, hi, rfl, fun d he => by rw [he] at hd; simpa [dstOk] using hd, ?_⟩
      unfold lowGuard at hg
      split at hg
      · rename_i he
        simp only [Option.some.injEq] at hg
        exact .inl ⟨he, hg.symm⟩
      · rename_i j want he
        split at hg
        · rename_i oj hoj
          split at hg
          · rename_i s hs
            simp only [Option.some.injEq] at hg
            exact .inr ⟨j, want, oj, s, he, hoj, hs, hg.symm⟩
          · simp at hg
        · simp at hg
    · simp at hl
  · simp at hl

theorem yielded_of (ha : ARel w I a A) {ops : Array Oper} {j s : Nat} {oj : Oper} (hj : ops[j]? = some oj) (hs : oj.dst = some s) {b : Bool} (hb : a.get s = .bool b) : yielded ops A.tmps j = some b := by
  have h := ha.tmps s
  rw [hb] at h
  have h1 := h.bool_inv
  have : A.tmps[s]? = some (.bool b) := by
    rw [Array.getD_eq_getD_getElem?] at h1
    cases hq : A.tmps[s]? with
    | none => rw [hq] at h1; simp [undef] at h1
    | some v => rw [hq] at h1; simpa using h1
  simp [yielded, hj, hs, this]

theorem lowBuiltin_ne {P : Program} {mode : Nat} {b : Builtin} {ts : List TypeId} {xs : List Opd} {i : I1} (h : lowBuiltin P mode b ts xs = some i) : (∀ f ys, i ≠ .call f ys) ∧ (∀ f ys, i ≠ .defer f ys) := by
  unfold lowBuiltin at h
  split at h
  · split at h
    · simp only [Option.some.injEq] at h; subst h; simp
    · simp only [Option.some.injEq] at h; subst h; simp
    · simp only [Option.some.injEq] at h; subst h; simp
    · simp at h
  · split at h
    · split at h
      · split at h
        · split at h
          · simp only [Option.some.injEq] at h; subst h; simp
          · simp at h
        · simp at h
      · simp at h
    · simp at h
  · simp only [Option.some.injEq] at h; subst h; simp
  · simp only [Option.some.injEq] at h; subst h; simp
  · simp at h

theorem lowOp_call {P : Program} {mode : Nat} {o : Oper} {f : Opd} {xs : List Opd} (h : lowOp P mode o = some (.call f xs)) : ∃ c x, o.op = .call c ∧ c.callee = .value x ∧ lowOpd x = some f ∧ lowOpds c.args.toList = some xs := by
  unfold lowOp at h
  split at h
  all_goals try (simp only [Option.map_eq_some_iff, reduceCtorEq, and_false, exists_false] at h; done)
  · split at h
    · simp at h
    · simp at h
  · split at h
    · unfold lowBin at h; split at h <;> (try split at h) <;> (try split at h) <;> simp at h
    · simp at h
  · split at h <;> simp at h
  · split at h <;> simp at h
  · split at h
    · unfold lowFieldAddr at h; split at h <;> (try split at h) <;> (try split at h) <;> simp at h
    · simp at h
  · split at h
    · unfold lowField at h; split at h <;> (try split at h) <;> simp at h
    · simp at h
  · split at h
    · unfold lowIndexAddr at h; split at h <;> simp at h
    · simp at h
  · split at h <;> simp at h
  · split at h
    · unfold lowSlice at h; split at h <;> simp at h
    · simp at h
  · unfold lowBuild at h; split at h <;> (try split at h) <;> simp at h
  · split at h <;> simp at h
  · split at h <;> (try split at h) <;> simp at h
  · split at h <;> simp at h
  · unfold lowBuildSlice at h; split at h <;> (try split at h) <;> (try split at h) <;> simp at h
  · simp at h
  · split at h <;> (try split at h) <;> (try split at h) <;> simp at h
  · split at h <;> (try split at h) <;> simp at h
  · split at h <;> (try split at h) <;> simp at h
  · rename_i c hop
    unfold lowCall at h
    split at h
    · rename_i ys hys
      split at h
      · rename_i x hcal
        simp only [Option.map_eq_some_iff] at h
        obtain ⟨f', hf', he⟩ := h
        simp only [I1.call.injEq] at he
        obtain ⟨rfl, rfl⟩ := he
        exact ⟨c, x, hop, hcal, hf', hys⟩
      · exact absurd rfl ((lowBuiltin_ne h).1 f xs)
      · simp at h
    · simp at h
  · split at h <;> simp at h

theorem lowOp_defer {P : Program} {mode : Nat} {o : Oper} {f : Opd} {xs : List Opd} (h : lowOp P mode o = some (.defer f xs)) : ∃ c x, o.op = .defer c ∧ c.callee = .value x ∧ lowOpd x = some f ∧ lowOpds c.args.toList = some xs := by
  unfold lowOp at h
  split at h
  all_goals try (simp only [Option.map_eq_some_iff, reduceCtorEq, and_false, exists_false] at h; done)
  · split at h
    · simp at h
    · simp at h
  · split at h
    · unfold lowBin at h; split at h <;> (try split at h) <;> (try split at h) <;> simp at h
    · simp at h
  · split at h <;> simp at h
  · split at h <;> simp at h
  · split at h
    · unfold lowFieldAddr at h; split at h <;> (try split at h) <;> (try split at h) <;> simp at h
    · simp at h
  · split at h
    · unfold lowField at h; split at h <;> (try split at h) <;> simp at h
    · simp at h
  · split at h
    · unfold lowIndexAddr at h; split at h <;> simp at h
    · simp at h
  · split at h <;> simp at h
  · split at h
    · unfold lowSlice at h; split at h <;> simp at h
    · simp at h
  · unfold lowBuild at h; split at h <;> (try split at h) <;> simp at h
  · split at h <;> simp at h
  · split at h <;> (try split at h) <;> simp at h
  · split at h <;> simp at h
  · unfold lowBuildSlice at h; split at h <;> (try split at h) <;> (try split at h) <;> simp at h
  · simp at h
  · split at h <;> (try split at h) <;> (try split at h) <;> simp at h
  · split at h <;> (try split at h) <;> simp at h
  · split at h <;> (try split at h) <;> simp at h
  · unfold lowCall at h
    split at h
    · split at h
      · simp at h
      · exact absurd rfl ((lowBuiltin_ne h).2 f xs)
      · simp at h
    · simp at h
  · rename_i c hop
    split at h
    · rename_i x ys hcal hys
      simp only [Option.map_eq_some_iff] at h
      obtain ⟨f', hf', he⟩ := h
      simp only [I1.defer.injEq] at he
      obtain ⟨rfl, rfl⟩ := he
      exact ⟨c, x, hop, hcal, hf', hys⟩
    · simp at h

theorem isFunc_inv {f : AV} (h : isFunc f = true) : ∃ fn first captured, f = .func fn first captured := by
  cases f <;> simp [isFunc] at h
  exact ⟨_, _, _, rfl⟩

theorem lowAny_inv {P : Program} {mode : Nat} {o : Oper} {i : I1} (h : lowAny P mode o = some i) : lowX P o = some i ∨ lowOp P mode o = some i := by
  unfold lowAny at h
  split at h
  · rename_i j hj
    simp only [Option.some.injEq] at h
    subst h
    exact .inl hj
  · exact .inr h

/-- The fence of a frame: of a round's, or of none's. -/
abbrev Fw (r : Option Nat) : Fence := { Fence.wide with round := r }

theorem room_Fw (r : Option Nat) (n : Nat) : (Fw r).room n := fun _ h => by simp [Fence.wide] at h

theorem callsIn_Fw {r : Option Nat} {n : Nat} {P : Program} {f : FuncId} {args : Array Value} {w : World} {R : Ending → World → Prop} : CallsIn (Fw r) n P f args w R ↔ Calls P f args w R :=
  (show CallsIn (Fw r) n P f args w R ↔ CallsIn Fence.wide n P f args w R from Iff.rfl).trans callsIn_wide

def plainO (o : Oper) : Bool := match o.op with
  | .defer _ => false
  | _ => true

theorem semAt_plain {o : Oper} {r : Option Nat} (h : r = none ∨ plainO o = true) (ρ : Operand → Value) : o.semAt r ρ = execOp ρ o := by
  rcases h with rfl | h
  · rfl
  · exact Oper.semAt_eq _ _ _ fun c hc => by simp [plainO, hc] at h

/-- One operation that is done. -/
theorem oper_sound (hr : Rel X I σ w) (ha : ARel w I a A) {o : Oper} {i : I1} {mode : Nat} (hl : lowAny X.P mode o = some i) (hd : ∀ d, o.dst = some d → d < a.n) {K : AAct → AH → Prop} (hs : stepI X o.dst a σ K i)
    {I₀ : Imm} {w₀ : World} (x₀ : Ext I₀ w₀ I w) {R : Act → World → Prop} {n : Nat} (hn : A.tmps.size = n) (hR : Behind X n I₀ w₀ K R) {Q : Exit → Act → World → Prop} {r : Option Nat} (hp : r = none ∨ plainO o = true) : o.wpIn (Fw r) 0 X.P A w R Q := by
  refine ⟨fun _ _ => trivial, ?_⟩
  show o.uponIn (Fw r) 0 X.P A R Q ((o.semAt r A.eval).run X.P w)
  rw [semAt_plain hp]
  rcases lowAny_inv hl with hl | hl
  · obtain ⟨v, w', I', a', σ', h1, hk, h2, h3, h4⟩ := xstep_sound hr ha hd hl hs
    rcases h1 with h1 | ⟨h1, rfl⟩
    · rw [h1]; exact hR _ _ I' _ _ hk (by rw [Act.size_put]; exact hn) h2 h3 (x₀.trans h4)
    · rw [h1]; exact hR _ _ I' _ _ hk (by rw [Act.size_put]; exact hn) h2 h3 (x₀.trans h4)
  by_cases hc : ∃ f xs, i = .call f xs
  · obtain ⟨f, xs, rfl⟩ := hc
    obtain ⟨dst, op, ty, pos, after, guard⟩ := o
    obtain ⟨c, x, hop, hcal, hxf, hxs⟩ := lowOp_call hl
    simp only at hop
    subst hop
    simp only [stepI, stepV, ECallV] at hs
    split at hs
    · rename_i fn first captured hf
      have hfv := opd_sound hr ha hxf
      rw [hf] at hfv
      obtain ⟨vs, us, he, hvs, hus⟩ := hfv.func_inv
      have hargs := (opds_sound hr ha hxs).map_toArray
      have hall : VRels w I (first ++ xs.map (ev X a) ++ captured) (vs ++ c.args.map A.eval ++ us) := (hvs.append hargs).append hus
      have hcalls := hs I w _ hr hall
      have hrun : (execOp A.eval ⟨dst, .call c, ty, pos, after, guard⟩).run X.P w = (callFunc fn (vs ++ c.args.map A.eval ++ us)).run X.P w := by
        simp only [execOp, Sem.run_bind, resolve, hcal, he, Deferred.ofValue, Sem.run_pure, Result.andThen_ok, invoke]
      rw [hrun]
      rcases hcalls with ⟨h1, h2⟩ | ⟨cv, w', h1, v, cv', I', σ', he', hk, h3, h4, h5⟩
      · rw [h1]
        refine ⟨by simp [Fence.wide], callsIn_Fw.2 (h2.mono fun e w' h => ?_)⟩
        obtain ⟨v, cv, I', σ', rfl, hk, h3, h4, h5⟩ := h
        exact hR _ _ I' _ _ hk (by rw [Act.size_put]; exact hn) h4 ((ha.ext h5).put hd h3) (x₀.trans h5)
      · rw [h1]
        simp only [Ending.returned.injEq] at he'
        subst he'
        exact hR _ _ I' _ _ hk (by rw [Act.size_put]; exact hn) h4 ((ha.ext h5).put hd h3) (x₀.trans h5)
    · rename_i l hf
      have hfv := opd_sound hr ha hxf
      rw [hf] at hfv
      have he := hfv.yield_inv
      have hargs := (opds_sound hr ha hxs).map_toArray
      obtain ⟨f', tmps', as', bd', h1, h2⟩ := hs I w _ hr hargs
      have hrun : (execOp A.eval ⟨dst, .call c, ty, pos, after, guard⟩).run X.P w = (Instr.yield l (c.args.map A.eval)).run X.P w := by
        simp only [execOp, Sem.run_bind, resolve, hcal, he, Deferred.ofValue, Sem.run_pure, Result.andThen_ok, invoke]
        simp
      rw [hrun, h1]
      refine ⟨by simp [Fence.wide], RoundIn.mono (show RoundIn (Fw r) (0 - 1) X.P l f' tmps' as' bd' w _ from h2) fun e w' h => ?_⟩
      obtain ⟨v, cv, I', σ', rfl, hk, h3, h4, h5⟩ := h
      exact hR _ _ I' _ _ hk (by rw [Act.size_put]; exact hn) h4 ((ha.ext h5).put hd h3) (x₀.trans h5)
    · exact hs.elim
  · by_cases hdf : ∃ f xs, i = .defer f xs
    · obtain ⟨f, xs, rfl⟩ := hdf
      obtain ⟨dst, op, ty, pos, after, guard⟩ := o
      obtain ⟨c, x, hop, hcal, hxf, hxs⟩ := lowOp_defer hl
      simp only at hop
      subst hop
      simp only [stepI] at hs
      obtain ⟨hfun, hk⟩ := hs
      obtain ⟨fn, first, captured, hf⟩ := isFunc_inv hfun
      have hfv := opd_sound hr ha hxf
      have hfv' := hfv
      rw [hf] at hfv
      obtain ⟨vs, us, he, hvs, hus⟩ := hfv.func_inv
      have hargs := (opds_sound hr ha hxs).map_toArray
      have hrun : (execOp A.eval ⟨dst, .defer c, ty, pos, after, guard⟩).run X.P w = .ok (.defer { target := .fn (.func fn) us, args := vs ++ c.args.map A.eval }) w := by
        simp only [execOp, Sem.run_bind, resolve, hcal, he, Deferred.ofValue, Sem.run_pure, Result.andThen_ok]
      rw [hrun]
      have ha' : ARel w I { a with defers := (ev X a f, xs.map (ev X a)) :: a.defers } { A with defers := { target := .fn (.func fn) us, args := vs ++ c.args.map A.eval } :: A.defers } := by
        refine ⟨ha.tmps, ha.size, by simp [ha.len], fun i f' xs' hi => ?_⟩
        rcases i with _ | i
        · simp only [List.getElem?_cons_zero, Option.some.injEq, Prod.mk.injEq] at hi
          obtain ⟨rfl, rfl⟩ := hi
          rw [hf]
          exact ⟨fn, c.args.map A.eval, us, vs, rfl, by rw [he, hf] at hfv'; exact hfv', hargs⟩
        · exact ha.defers i f' xs' (by simpa using hi)
      exact hR _ _ I _ _ hk (by rw [Act.size_put]; exact hn) hr (ha'.put hd (.undef _)) x₀
    · obtain ⟨v, w', I', a', σ', h1, hk, h2, h3, h4⟩ := step_sound hr ha hd hl (fun f xs h => hc ⟨f, xs, h⟩) (fun f xs h => hdf ⟨f, xs, h⟩) hs
      rcases h1 with h1 | ⟨h1, rfl⟩
      · rw [h1]; exact hR _ _ I' _ _ hk (by rw [Act.size_put]; exact hn) h2 h3 (x₀.trans h4)
      · rw [h1]; exact hR _ _ I' _ _ hk (by rw [Act.size_put]; exact hn) h2 h3 (x₀.trans h4)

end
end Go.Scr
