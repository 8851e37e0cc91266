/- Regions that draw their order: the quiet operations may be taken first: part 20 of a program logic over the model. No condition but that the region was lowered. -/
import Derived.Test.YtagjgpkomcmkbaaGreatDoorEcoreS
namespace Go.Scr
open Go

section
variable {X : Ctx} {σ : AH}

theorem ECalls.mono {f : FuncId} {args : List AV} {R R' : AV → AH → Prop} (h : ECalls X f args σ R) (hr : ∀ v σ', R v σ' → R' v σ') : ECalls X f args σ R' := by
  intro I w cargs h1 h2
  have key : ∀ e w', (∃ v cv I' σ', e = Ending.returned cv ∧ R v σ' ∧ VRel w' I' v cv ∧ Rel X I' σ' w' ∧ Ext I w I' w') → ∃ v cv I' σ', e = Ending.returned cv ∧ R' v σ' ∧ VRel w' I' v cv ∧ Rel X I' σ' w' ∧ Ext I w I' w' :=
    fun e w' ⟨v, cv, I', σ', g1, g2, g3⟩ => ⟨v, cv, I', σ', g1, hr _ _ g2, g3⟩
  rcases h I w cargs h1 h2 with ⟨c1, c2⟩ | ⟨v, w', c1, c2⟩
  · exact .inl ⟨c1, c2.mono key⟩
  · exact .inr ⟨v, w', c1, key _ _ c2⟩


theorem optK_iff {α : Type} {o : Option α} {k : α → Prop} : optK o k ↔ ∃ v, o = some v ∧ k v := by
  cases o <;> simp [optK]
theorem optK_mono {α : Type} {o : Option α} {k k' : α → Prop} (h : optK o k) (hk : ∀ v, k v → k' v) : optK o k' := by
  rw [optK_iff] at *
  obtain ⟨v, h1, h2⟩ := h
  exact ⟨v, h1, hk v h2⟩

theorem newRowA_mono {mode : Nat} {ag : Bool} {z n : Nat} {cs : List AV} {K K' : AV → AH → Prop} (hk : ∀ v σ', K v σ' → K' v σ') (h : newRowA mode ag z n cs σ K) : newRowA mode ag z n cs σ K' := by
  unfold newRowA at *
  split at h
  · exact ⟨h.1, hk _ _ h.2⟩
  · exact ⟨h.1, fun b hb => hk _ _ (h.2 b hb)⟩
  · exact fun b hb => hk _ _ (h b hb)

theorem appendA_mono {mode z bytes : Nat} {x : AV} {ys : List AV} {K K' : AV → AH → Prop} (hk : ∀ v σ', K v σ' → K' v σ') (h : appendA mode z bytes x ys σ K) : appendA mode z bytes x ys σ K' := by
  unfold appendA at *
  split at h
  · split at h
    · rename_i hy
      simp only [hy, if_true]
      exact hk _ _ h
    · rename_i hy
      simp only [hy, if_false]
      refine ⟨h.1, ?_⟩
      have h2 := h.2
      split at h2
      · rename_i hm
        simp only [hm, if_true]
        exact fun b hb => hk _ _ (h2 b hb)
      · rename_i hm
        simp only [hm, if_false]
        exact fun b hb => hk _ _ (h2 b hb)
  · obtain ⟨h1, h2⟩ := h
    refine ⟨h1, ?_⟩
    split at h2
    · exact ⟨h2.1, h2.2.1, fun b e' hb => hk _ _ (h2.2.2 b e' hb)⟩
    · exact h2.elim
  · obtain ⟨h1, h1', h2⟩ := h
    refine ⟨h1, h1', ?_⟩
    split at h2
    · exact ⟨h2.1, h2.2.1, fun b hb => hk _ _ (h2.2.2 b hb)⟩
    · exact h2.elim
  · exact h.elim

theorem mksliceA_mono {z bytes : Nat} {zero : List AV} {l c : AV} {K K' : AV → AH → Prop} (hk : ∀ v σ', K v σ' → K' v σ') (h : mksliceA z bytes zero l c σ K) : mksliceA z bytes zero l c σ K' := by
  unfold mksliceA at *
  split at h
  · obtain ⟨h1, h2, h3, h4, h5⟩ := h
    exact ⟨h1, h2, h3, h4, fun b hb => hk _ _ (h5 b hb)⟩
  · exact h.elim

theorem rngA_mono {x : AV} {K K' : AV → AH → Prop} (hk : ∀ v σ', K v σ' → K' v σ') (h : rngA σ K x) : rngA σ K' x := by
  unfold rngA at *
  split at h
  · exact fun b hb => hk _ _ (h b hb)
  · split at h
    · exact fun b hb => hk _ _ (h b hb)
    · exact h.elim
  · exact h.elim
theorem nxtA_mono {x : AV} {K K' : AV → AH → Prop} (hk : ∀ v σ', K v σ' → K' v σ') (h : nxtA σ K x) : nxtA σ K' x := by
  unfold nxtA at *
  split at h
  · split at h
    · exact hk _ _ h
    · split at h
      · exact ⟨h.1, h.2.1, fun ho => hk _ _ (h.2.2.1 ho), fun e he hc => hk _ _ (h.2.2.2 e he hc)⟩
      · exact h.elim
    · exact h.elim
  · exact h.elim

theorem EYield.mono {l : Nat} {args : List AV} {R R' : AV → AH → Prop} (h : EYield X l args σ R) (hr : ∀ v σ', R v σ' → R' v σ') : EYield X l args σ R' := by
  intro I w cargs h1 h2
  obtain ⟨f, tmps, as, bd, g1, g2⟩ := h I w cargs h1 h2
  refine ⟨f, tmps, as, bd, g1, g2.mono fun e w' hq => ?_⟩
  obtain ⟨v, cv, I', σ', p1, p2, p3⟩ := hq
  exact ⟨v, cv, I', σ', p1, hr _ _ p2, p3⟩

theorem ECallV.mono {f : AV} {args : List AV} {R R' : AV → AH → Prop} (hk : ∀ v σ', R v σ' → R' v σ') (h : ECallV X f args σ R) : ECallV X f args σ R' := by
  unfold ECallV at *
  split at h
  · exact h.mono hk
  · exact h.mono hk
  · exact h.elim

theorem stepV_mono {e : Opd → AV} {K K' : AV → AH → Prop} (hk : ∀ v σ', K v σ' → K' v σ') {i : I1} (hs : stepV X e σ K i) : stepV X e σ K' i := by
  cases i <;> simp only [stepV] at hs ⊢
  case store => exact optK_mono hs fun σ' => hk _ σ'
  case alloc => exact fun b hb => hk _ _ (hs b hb)
  case box => exact ⟨hs.1, fun b hb => hk _ _ (hs.2 b hb)⟩
  case blds => exact optK_mono hs fun cs => newRowA_mono hk
  case mkmap => exact fun b hb => hk _ _ (hs b hb)
  case mkslice => exact mksliceA_mono hk hs
  case append => exact optK_mono hs fun ys hy => ⟨hy.1, appendA_mono hk hy.2⟩
  case mapupd => exact optK_mono hs fun σ' => hk _ σ'
  case ment => exact optK_mono hs fun r => hk _ _
  case msto => exact optK_mono hs fun σ' => hk _ σ'
  case rng => exact rngA_mono hk hs
  case nxt => exact nxtA_mono hk hs
  case call => exact hs.mono hk
  case frz => exact optK_mono hs fun r => hk _ _
  all_goals exact optK_mono hs fun v => hk v σ

theorem map_opt_congr {e e' : Opd → AV} {o : Option Opd} (h : ∀ x ∈ o.toList, e x = e' x) : o.map e = o.map e' := by
  cases o with
  | none => rfl
  | some x => simp [h x (by simp)]
theorem map_parts_congr {e e' : Opd → AV} {ps : List (Nat × Nat × Opd)} (h : ∀ x ∈ ps.map fun p => p.2.2, e x = e' x) : ps.map (fun p => (p.1, p.2.1, e p.2.2)) = ps.map fun p => (p.1, p.2.1, e' p.2.2) := by
  apply List.map_congr_left
  intro p hp
  rw [h p.2.2 (List.mem_map.2 ⟨p, hp, rfl⟩)]

theorem quietV_congr {e e' : Opd → AV} {i : I1} (h : ∀ o ∈ i.opds, e o = e' o) : quietV e σ i = quietV e' σ i := by
  cases i <;> simp only [I1.opds] at h <;> try rfl
  case mkf f xs ys =>
    simp only [quietV]
    rw [List.map_congr_left fun x hx => h x (List.mem_append_left _ hx), List.map_congr_left fun x hx => h x (List.mem_append_right _ hx)]
  case slc z x lo hi =>
    simp only [quietV]
    rw [h x (by simp), map_opt_congr (o := lo) fun y hy => h y (by simp [Option.mem_toList.1 hy]), map_opt_congr (o := hi) fun y hy => h y (by simp [Option.mem_toList.1 hy])]
  case sls x lo hi =>
    simp only [quietV]
    rw [h x (by simp), map_opt_congr (o := lo) fun y hy => h y (by simp [Option.mem_toList.1 hy]), map_opt_congr (o := hi) fun y hy => h y (by simp [Option.mem_toList.1 hy])]
  case mx xs => simp only [quietV]; rw [List.map_congr_left h]
  case mn xs => simp only [quietV]; rw [List.map_congr_left h]
  case build zero ps => simp only [quietV]; rw [map_parts_congr h]
  all_goals simp only [List.mem_cons, List.not_mem_nil, or_false, forall_eq_or_imp, forall_eq] at h
  all_goals simp only [quietV, h]

theorem stepV_congr {e e' : Opd → AV} {K : AV → AH → Prop} {i : I1} (h : ∀ o ∈ i.opds, e o = e' o) (hs : stepV X e σ K i) : stepV X e' σ K i := by
  have hq := quietV_congr (σ := σ) h
  cases i <;> simp only [stepV] at hs ⊢ <;> simp only [I1.opds] at h
  case blds => rw [← map_parts_congr h]; exact hs
  case call f xs =>
    rw [← h f (by simp), ← List.map_congr_left fun x hx => h x (by simp [hx])]
    exact hs
  all_goals try simp only [List.mem_cons, List.not_mem_nil, or_false, forall_eq_or_imp, forall_eq] at h
  case store => rw [← h.1, ← h.2]; exact hs
  case box => rw [← h]; exact hs
  case mkslice => rw [← h.1, ← h.2]; exact hs
  case append => rw [← h.1, ← h.2]; exact hs
  case mapupd => rw [← h.1, ← h.2.1, ← h.2.2]; exact hs
  case ment => rw [← h.1, ← h.2]; exact hs
  case msto => rw [← h.1, ← h.2.1, ← h.2.2]; exact hs
  case rng => rw [← h]; exact hs
  case nxt => rw [← h]; exact hs
  case frz => rw [← h]; exact hs
  all_goals first | exact hs | (rw [← hq]; exact hs)

/-- What a calm instruction answers. -/
def calmV (e : Opd → AV) (σ : AH) : I1 → Option AV
  | .blds 0 ag z n zero parts => match fillA (List.replicate n zero).flatten (parts.map fun p => (p.1, p.2.1, e p.2.2)) with
    | some cs => if grpOk ag cs = true then some (.list z none (groupA ag z n cs)) else none
    | none => none
  | i => quietV e σ i

theorem calmV_congr {e e' : Opd → AV} {i : I1} (h : ∀ o ∈ i.opds, e o = e' o) : calmV e σ i = calmV e' σ i := by
  unfold calmV
  split
  · rw [map_parts_congr h]
  · exact quietV_congr h
theorem calmV_free {e : Opd → AV} {i : I1} (h : i.reads = false) (ρ : AH) : calmV e σ i = calmV e ρ i := by
  cases i
  case blds mode ag z n zero parts => cases mode <;> rfl
  all_goals first | rfl | simp [I1.reads] at h

theorem stepV_calm {e : Opd → AV} {K : AV → AH → Prop} {i : I1} (hc : i.calm = true) : stepV X e σ K i ↔ ∃ v, calmV e σ i = some v ∧ K v σ := by
  cases i
  case blds mode ag z n zero parts =>
    cases mode with
    | succ m => simp [I1.calm, I1.quiet] at hc
    | zero =>
      simp only [stepV, calmV, newRowA]
      cases fillA (List.replicate n zero).flatten (parts.map fun p => (p.1, p.2.1, e p.2.2)) with
      | none => simp [optK]
      | some cs => by_cases hg : grpOk ag cs = true <;> simp [optK, hg]
  case mov => simp [stepV, calmV, quietV, optK]
  case mkf => simp [stepV, calmV, quietV, optK]
  all_goals first | exact optK_iff | simp [I1.calm, I1.quiet] at hc

/-- What a calm operation lays down, its guard looked at. -/
def valL (X : Ctx) (l : L1) (a : AAct) (σ : AH) : Option AV :=
  match l.guard with
  | none => calmV (ev X a) σ l.op
  | some (s, want) => match a.get s with
    | .bool b => if b = want then calmV (ev X a) σ l.op else some (.tuple [])
    | .tuple [] => some (.tuple [])
    | _ => none

theorem stepI_eq {dst : Option Nat} {a : AAct} {K : AAct → AH → Prop} {i : I1} (h : ∀ f xs, i ≠ .defer f xs) : stepI X dst a σ K i = stepV X (ev X a) σ (fun v σ' => K (a.put dst v) σ') i := by
  cases i <;> first | rfl | exact absurd rfl (h _ _)

theorem calm_ne {i : I1} (h : i.calm = true) : (∀ f xs, i ≠ .defer f xs) ∧ ∀ j, i ≠ .same j := by
  constructor
  · rintro f xs rfl; simp [I1.calm, I1.quiet] at h
  · rintro j rfl; simp [I1.calm, I1.quiet] at h

theorem stepG_calm {l : L1} {a : AAct} {K : AAct → AH → Prop} (hc : l.op.calm = true) : stepG X l a σ K ↔ ∃ v, valL X l a σ = some v ∧ K (a.put l.dst v) σ := by
  unfold stepG valL
  rw [stepI_eq (calm_ne hc).1, stepV_calm hc]
  rcases l.guard with _ | ⟨s, want⟩
  · exact Iff.rfl
  · simp only []
    generalize a.get s = g
    cases g
    case bool b =>
      simp only []
      split <;> simp
    case tuple l => cases l <;> simp
    all_goals simp

theorem stepL_calm {l : L1} {a : AAct} {K : AAct → AH → Prop} (hc : l.op.calm = true) : stepL X l a σ K ↔ ∃ v, valL X l a σ = some v ∧ K (a.put l.dst v) σ := by
  rw [← stepG_calm hc]
  unfold stepL
  split
  · rename_i i hi
    exact absurd hi ((calm_ne hc).2 i)
  · exact Iff.rfl

/-- Two frames that are one, but for one place. -/
def Off (D : Option Nat) (a b : AAct) : Prop := (∀ t, D ≠ some t → b.get t = a.get t) ∧ b.defers = a.defers ∧ b.n = a.n

theorem Off.put {D : Option Nat} {a b : AAct} (h : Off D a b) (d : Option Nat) (v : AV) : Off D (a.put d v) (b.put d v) := by
  cases d with
  | none => exact h
  | some d =>
    refine ⟨fun t ht => ?_, h.2.1, h.2.2⟩
    rw [AAct.get_put, AAct.get_put, h.1 t ht]

theorem get_put_ne {a : AAct} {d : Option Nat} {v : AV} {t : Nat} (h : d ≠ some t) : (a.put d v).get t = a.get t := by
  cases d with
  | none => rfl
  | some d =>
    rw [AAct.get_put, if_neg]
    rintro rfl
    exact h rfl

theorem ev_off {D : Option Nat} {a b : AAct} (h : Off D a b) {o : Opd} (ho : ∀ d, D = some d → d ∉ o.slots) : ev X b o = ev X a o := by
  cases o with
  | t n => exact h.1 n fun hd => ho n hd (by simp [Opd.slots])
  | c v => rfl
  | g n => rfl

theorem mem_uses {l : L1} {o : Opd} (ho : o ∈ l.op.opds) {d : Nat} (hd : d ∈ o.slots) : d ∈ l.uses :=
  List.mem_append_left _ (List.mem_flatMap.2 ⟨o, ho, hd⟩)
theorem guard_uses {l : L1} {s : Nat} {want : Bool} (h : l.guard = some (s, want)) : s ∈ l.uses := by simp [L1.uses, h]

theorem opds_off {D : Option Nat} {a b : AAct} (h : Off D a b) {l : L1} (hu : ∀ d, D = some d → d ∉ l.uses) : ∀ o ∈ l.op.opds, ev X b o = ev X a o :=
  fun _ ho => ev_off h fun d hd hs => hu d hd (mem_uses ho hs)

theorem valL_off {D : Option Nat} {a b : AAct} (h : Off D a b) {l : L1} (hu : ∀ d, D = some d → d ∉ l.uses) : valL X l b σ = valL X l a σ := by
  unfold valL
  rw [calmV_congr (opds_off h hu)]
  split
  · rfl
  · rename_i s want hg
    rw [h.1 s fun hd => hu s hd (guard_uses hg)]

theorem stepG_off {D : Option Nat} {a b : AAct} (ho : Off D a b) {l : L1} (hu : ∀ d, D = some d → d ∉ l.uses) {K1 K2 : AAct → AH → Prop}
    (hK : ∀ a' b' σ', Off D a' b' → (∀ t, l.dst ≠ some t → a'.get t = a.get t ∧ b'.get t = b.get t) → K1 b' σ' → K2 a' σ') (hs : stepG X l b σ K1) : stepG X l a σ K2 := by
  have hev := opds_off (X := X) ho hu
  have step : stepI X l.dst b σ K1 l.op → stepI X l.dst a σ K2 l.op := fun hs => by
    by_cases hd : ∃ f xs, l.op = .defer f xs
    · obtain ⟨f, xs, hop⟩ := hd
      rw [hop] at hs hev ⊢
      simp only [stepI] at hs ⊢
      have h1 : ev X b f = ev X a f := hev f (by simp [I1.opds])
      have h2 : xs.map (ev X b) = xs.map (ev X a) := List.map_congr_left fun x hx => hev x (by simp [I1.opds, hx])
      rw [h1, h2] at hs
      have h3 : Off D { a with defers := (ev X a f, xs.map (ev X a)) :: a.defers } { b with defers := (ev X a f, xs.map (ev X a)) :: b.defers } := ⟨fun t ht => ho.1 t ht, by simp [ho.2.1], ho.2.2⟩
      exact ⟨hs.1, hK _ _ _ (h3.put _ _) (fun t ht => ⟨get_put_ne ht, get_put_ne ht⟩) hs.2⟩
    · rw [stepI_eq fun f xs h => hd ⟨f, xs, h⟩] at hs ⊢
      exact stepV_mono (fun v σ' hk => hK _ _ _ (ho.put _ _) (fun t ht => ⟨get_put_ne ht, get_put_ne ht⟩) hk) (stepV_congr hev hs)
  unfold stepG at hs ⊢
  split at hs
  · exact step hs
  · rename_i s want hg
    rw [ho.1 s fun hd => hu s hd (guard_uses hg)] at hs
    split at hs
    · split at hs
      · rename_i hb
        simp only [hb, if_true]
        exact step hs
      · rename_i hb
        simp only [hb, if_false]
        exact hK _ _ _ (ho.put _ _) (fun t ht => ⟨get_put_ne ht, get_put_ne ht⟩) hs
    · exact hK _ _ _ (ho.put _ _) (fun t ht => ⟨get_put_ne ht, get_put_ne ht⟩) hs
    · exact hs.elim

theorem wpR_off {D : Option Nat} : ∀ {ls : List L1} {σ : AH} {a b : AAct}, Off D a b → (∀ l ∈ ls, (∀ d, D = some d → d ∉ l.uses) ∧ ∀ i, l.op ≠ .same i) → ∀ {K1 K2 : AAct → AH → Prop},
    (∀ a' b' σ', Off D a' b' → (∀ t, (∀ l ∈ ls, l.dst ≠ some t) → a'.get t = a.get t ∧ b'.get t = b.get t) → K1 b' σ' → K2 a' σ') → wpR X K1 ls b σ → wpR X K2 ls a σ
  | [], _, _, _, ho, _, _, _, hK, hs => hK _ _ _ ho (fun _ _ => ⟨rfl, rfl⟩) hs
  | l :: ls, σ, a, b, ho, hu, K1, K2, hK, hs => by
    have hl := hu l (by simp)
    have e : ∀ {K : AAct → AH → Prop} {a : AAct}, stepL X l a σ K = stepG X l a σ K := fun {K a} => by
      unfold stepL
      split
      · rename_i i hi
        exact absurd hi (hl.2 i)
      · rfl
    simp only [wpR] at hs ⊢
    rw [e] at hs ⊢
    refine stepG_off ho hl.1 (fun a' b' σ' ho' hf hk => ?_) hs
    refine wpR_off ho' (fun m hm => hu m (by simp [hm])) (fun a'' b'' σ'' ho'' hf' hk' => ?_) hk
    refine hK a'' b'' σ'' ho'' (fun t ht => ?_) hk'
    obtain ⟨p1, p2⟩ := hf t (ht l (by simp))
    obtain ⟨q1, q2⟩ := hf' t fun m hm => ht m (by simp [hm])
    exact ⟨q1.trans p1, q2.trans p2⟩

theorem stepS_off {D : Option Nat} {a b : AAct} (ho : Off D a b) {l : L1} (hu : ∀ d, D = some d → d ∉ l.uses ∧ l.dst ≠ some d) (hs : stepS X l l.op b σ fun _ _ => True) : stepS X l l.op a σ fun _ _ => True := by
  have hev := opds_off (X := X) ho fun d hd => (hu d hd).1
  have step : sameV X l.dst b σ l.op → sameV X l.dst a σ l.op := fun hs =>
    stepV_mono (fun v σ' hk => ⟨fun d hd => by rw [hk.1 d hd]; exact ho.1 d fun h => (hu d h).2 hd, hk.2⟩) (stepV_congr hev hs)
  unfold stepS at hs ⊢
  refine ⟨?_, trivial⟩
  have hs := hs.1
  split at hs
  · exact step hs
  · rename_i s want hg
    rw [ho.1 s fun hd => (hu s hd).1 (guard_uses hg)] at hs
    split at hs
    · split at hs
      · rename_i hb
        simp only [hb, if_true]
        exact step hs
      · rename_i hb
        simp only [hb, if_false]
    · trivial
    · exact hs.elim

/-- A calm operation that would answer what it answered. -/
theorem same_val {l : L1} (hc : l.op.calm = true) {a b : AAct} {ρ : AH} (hu : ∀ t ∈ l.uses, b.get t = a.get t) {v : AV} (hv : valL X l a ρ = some v) (hd : ∀ d, l.dst = some d → b.get d = v)
    (hs : stepS X l l.op b σ fun _ _ => True) : ∃ v', valL X l b σ = some v' ∧ ∀ d, l.dst = some d → v' = v := by
  have step : sameV X l.dst b σ l.op → ∃ v', calmV (ev X b) σ l.op = some v' ∧ ∀ d, l.dst = some d → v' = v := fun hs => by
    obtain ⟨v', h1, h2⟩ := (stepV_calm hc).1 hs
    exact ⟨v', h1, fun d h => by rw [h2.1 d h]; exact hd d h⟩
  unfold stepS at hs
  unfold valL at hv ⊢
  have hs := hs.1
  split at hs
  · rename_i hg
    rw [hg]
    exact step hs
  · rename_i s want hg
    rw [hg] at hv ⊢
    simp only at hv ⊢
    have hgs := hu s (guard_uses hg)
    rw [← hgs] at hv
    split at hs
    · rename_i bb hb
      rw [hb] at hv ⊢
      simp only at hv ⊢
      split at hs
      · rename_i hw
        rw [if_pos hw]
        exact step hs
      · rename_i hw
        rw [if_neg hw] at hv ⊢
        exact ⟨_, hv, fun _ _ => rfl⟩
    · rename_i hb
      rw [hb] at hv ⊢
      exact ⟨_, hv, fun _ _ => rfl⟩
    · exact hs.elim

end
end Go.Scr
