/- An interpreter for lowered texts, and that what it answers is what the program answers: part 26 of a program logic over the model: one instruction. No condition. -/
import Derived.Test.YtagjgpkomcmkbaaGreatDoorEcoreY
namespace Go.Scr
open Go

def appendS (mode z bytes : Nat) (x : AV) (ys : List AV) (s : SH) : Option (AV × SH) :=
  match x with
  | .nil => match ys with
    | [] => some (.nil, s)
    | _ :: _ => if ys.length * bytes ≤ 140737488355328 ∧ s.room = true then
        (if mode = 2 then (if bdL s.next (AV.flat ys) = true then some (.slice z s.next 0 ys.length, s.push (.cells (AV.flat ys))) else none)
         else (if bdL s.next ys = true then some (.list z (some (s.next, 0)) ys, s.pushT) else none)) else none
  | .list z' (some t) xs => if z = z' ∧ s.t.contains t.1 = true ∧ (xs.length + ys.length) * bytes ≤ 140737488355328 ∧ (s.disown t.1).room = true ∧ (s.h.lookup t.1).isNone = true ∧ bdL s.next (xs ++ ys) = true then some (.list z (some (s.next, 0)) (xs ++ ys), (s.disown t.1).pushT) else none
  | .slice z' b₀ o n => match s.h.lookup b₀ with
    | some (.cells vs) => if z = z' ∧ o = 0 ∧ n * z ≤ vs.length ∧ (n + ys.length) * bytes ≤ 140737488355328 ∧ (s.drop b₀).room = true ∧ s.t.contains b₀ = false ∧ bdL s.next (vs.take (n * z) ++ AV.flat ys) = true then
        some (.slice z s.next 0 (n + ys.length), (s.drop b₀).push (.cells (vs.take (n * z) ++ AV.flat ys))) else none
    | _ => none
  | _ => none

def frzS (s : SH) (ag : Bool) (z : Nat) : AV → Option (AV × SH)
  | .nil => some (.nil, s)
  | .list z' t xs => some (.list z' t xs, s)
  | .slice z' b o n => match s.h.lookup b with
    | some (.cells vs) => if z = z' ∧ o = 0 ∧ (ag = true ∨ z = 1) ∧ vs.length = n * z ∧ grpOk ag vs = true then some (.list z none (groupA ag z n vs), s.drop b) else none
    | _ => none
  | _ => none

/-- One instruction, reckoned: not a call, nor what is deferred. -/
def stepSV (s : SH) (e : Opd → AV) : I1 → Option (AV × SH)
  | .store n x v => match e x with
    | .ptr b o => match s.h.lookup b with
      | some (.cells vs) => if (e v).cells.length = n ∧ o + n ≤ vs.length ∧ (e v).cells.all AV.one = true then some (.undef, s.set b (.cells (vs.take o ++ (e v).cells ++ vs.drop (o + n)))) else none
      | _ => none
    | _ => none
  | .alloc zero => if s.room = true ∧ bdL s.next zero = true then some (.ptr s.next 0, s.push (.cells zero)) else none
  | .box x => if s.room = true ∧ (e x).ok = true ∧ bdL s.next (e x).cells = true then some (.ptr s.next 0, s.push (.cells (e x).cells)) else none
  | .blds mode ag z n zero parts => match fillA (List.replicate n zero).flatten (parts.map fun p => (p.1, p.2.1, e p.2.2)) with
    | none => none
    | some cs => match mode with
      | 0 => if grpOk ag cs = true then some (.list z none (groupA ag z n cs), s) else none
      | 1 => if grpOk ag cs = true ∧ s.room = true ∧ bdL s.next cs = true then some (.list z (some (s.next, 0)) (groupA ag z n cs), s.pushT) else none
      | _ + 2 => if s.room = true ∧ bdL s.next cs = true then some (.slice z s.next 0 n, s.push (.cells cs)) else none
  | .mkmap => if s.room = true then some (.map (some s.next), s.push (.map [] 0)) else none
  | .mkslice z bytes zero l c => match e l, e c with
    | .int _ l, .int _ c => if (0 ≤ l ∧ l ≤ c ∧ c ≤ 9223372036854775807 ∧ c * bytes ≤ 140737488355328) ∧ s.room = true ∧ bdL s.next (List.replicate c.toNat zero).flatten = true then
        some (.slice z s.next 0 l.toNat, s.push (.cells (List.replicate c.toNat zero).flatten)) else none
    | _, _ => none
  | .append mode ag z bytes x y => match elemsA s.toAH ag z (e y) with
    | some ys => if (AV.flat ys).all AV.one = true then appendS mode z bytes (e x) ys s else none
    | none => none
  | .mapupd ag ks mm k v => match e mm with
    | .map (some r) => match s.h.lookup r with
      | some (.map es clock) => if !keyOk ag ks (e k) then none else match updA ag ks (e k) (e v) clock es with
        | some (es', c) => some (.undef, s.set r (.map es' c))
        | none => none
      | _ => none
    | _ => none
  | .frz ag z x => frzS s ag z (e x)
  | .ment ag ks zero mm k => match e mm with
    | .map (some r) => match s.h.lookup r with
      | some (.map es clock) => if !keyOk ag ks (e k) then none else match idxA ag ks (e k) es 0 with
        | some none => some (.tuple [zero, .int .i64 clock], s.set r (.map (es ++ [(e k, zero, clock)]) (clock + 1)))
        | some (some j) => match es[j]? with
          | some (_, v, n) => some (.tuple [v, .int .i64 n], s.set r (.map (es.set j (e k, v, n)) clock))
          | none => none
        | none => none
      | _ => none
    | _ => none
  | .msto mm st v => match e mm with
    | .map (some r) => match s.h.lookup r, e st with
      | some (.map es clock), .int _ b => match es.findIdx? fun e => (e.2.2 : Int) == b with
        | some i => match es[i]? with
          | some (k, _, n) => some (.undef, s.set r (.map (es.set i (k, e v, n)) clock))
          | none => none
        | none => none
      | _, _ => none
    | _ => none
  | .rng x => match e x with
    | .map none => if s.room = true then some (.ptr s.next 0, s.push (.miter none 0 [] 0)) else none
    | .map (some r) => match s.h.lookup r with
      | some (.map _ clock) => if s.room = true ∧ Nat.blt r s.next = true then some (.ptr s.next 0, s.push (.miter (some r) clock [] clock)) else none
      | _ => none
    | _ => none
  | .nxt _ | .call _ _ | .defer _ _ | .same _ => none
  | i => (quietV e s.toAH i).map fun v => (v, s)

/-- Does it ask for a new name? Then what is about must be looked at. -/
def I1.names : I1 → Bool
  | .alloc _ | .box _ | .blds _ _ _ _ _ _ | .mkmap | .mkslice _ _ _ _ _ | .append _ _ _ _ _ _ | .rng _ | .call _ _ => true
  | _ => false

section
variable {X : Ctx} {m : Nm} {φ : AH} {s : SH} {σ : AH}

theorem elemsA_ren (hh : Reads m s.toAH σ) {ag : Bool} {z : Nat} {x : AV} {ys : List AV} (h : elemsA s.toAH ag z x = some ys) : elemsA σ ag z (ren m x) = some (renL m ys) := by
  unfold elemsA at h
  split at h
  · simp only [Option.some.injEq] at h
    subst h
    rfl
  · split at h
    · rename_i hz
      simp only [Option.some.injEq] at h
      subst h
      simp only [ren, elemsA, hz, if_true]
    · simp at h
  · split at h
    · rename_i hz
      subst hz
      split at h
      · rename_i vs hb
        have := hh _ _ hb
        split at h
        · rename_i hc
          simp only [Option.some.injEq] at h
          subst h
          simp only [ren, elemsA, if_true, this, renO, len_ren, grpOk_ren, hc, and_self, ← drop_ren, group_ren]
        · simp at h
      · simp at h
    · simp at h
  · simp at h

theorem updA_ren {ag : Bool} {ks : List Nat} {k v : AV} {c : Nat} : ∀ {es es' : List (AV × AV × Nat)} {c' : Nat}, updA ag ks k v c es = some (es', c') →
    updA ag ks (ren m k) (ren m v) c (es.map fun x => (ren m x.1, ren m x.2.1, x.2.2)) = some (es'.map (fun x => (ren m x.1, ren m x.2.1, x.2.2)), c')
  | [], es', c', h => by
    simp only [updA, Option.some.injEq, Prod.mk.injEq] at h
    obtain ⟨rfl, rfl⟩ := h
    rfl
  | (k', v', n) :: es, es', c', h => by
    simp only [updA] at h
    simp only [List.map_cons, updA]
    split at h
    · rename_i he
      simp only [Option.some.injEq, Prod.mk.injEq] at h
      obtain ⟨rfl, rfl⟩ := h
      rw [keyEq_ren he]
      rfl
    · rename_i he
      rw [keyEq_ren he]
      split at h
      · rename_i es'' c'' hu
        simp only [Option.some.injEq, Prod.mk.injEq] at h
        obtain ⟨rfl, rfl⟩ := h
        simp only [updA_ren hu]
        rfl
      · simp at h
    · simp at h

theorem idxA_ren {ag : Bool} {ks : List Nat} {k : AV} : ∀ {es : List (AV × AV × Nat)} {i : Nat} {o : Option Nat}, idxA ag ks k es i = some o → idxA ag ks (ren m k) (es.map fun x => (ren m x.1, ren m x.2.1, x.2.2)) i = some o
  | [], i, o, h => h
  | (k', v', n) :: es, i, o, h => by
    simp only [idxA] at h
    simp only [List.map_cons, idxA]
    split at h
    · rename_i he
      rw [keyEq_ren he]
      exact h
    · rename_i he
      rw [keyEq_ren he]
      exact idxA_ren h
    · simp at h

theorem Sim.pushD (h : Sim m φ s σ) {b₀ : Nat} {o₀ : AObj} (hb₀ : s.h.lookup b₀ = some o₀) (hroom : (s.drop b₀).room = true) (hnt : s.t.contains b₀ = false) {b : Nat} (hb : b = (m b₀).1 ∨ σ.fresh b) {o : AObj} (ho : bdO s.next o = true) :
    Sim (m.upd s.next (b, 0)) φ ((s.drop b₀).push o) ((σ.drop (m b₀).1).set b (renO m o)) := by
  have hd := h.drop hb₀
  refine hd.push hroom ?_ ho
  rcases hb with rfl | hb
  · refine ⟨fun x hx he => ?_, ?_, ?_⟩
    · have hx' : s.live x = true ∧ x ≠ b₀ := by
        simp only [SH.live, SH.drop, lookup_filter, Bool.or_eq_true] at hx ⊢
        rcases hx with hx | hx
        · split at hx
          · simp at hx
          · rename_i hne
            exact ⟨.inl hx, hne⟩
        · refine ⟨.inr hx, fun e => ?_⟩
          subst e
          rw [hnt] at hx
          simp at hx
      exact hx'.2 (h.inj x b₀ hx'.1 (live_heap hb₀) he)
    · cases hq : φ.heap (m b₀).1 with
      | none => rfl
      | some o => exact absurd rfl ((h.fheap _ o hq).2 b₀ (live_heap hb₀))
    · cases hq : φ.tip (m b₀).1 with
      | none => rfl
      | some e => exact absurd rfl ((h.ftip _ e hq).2 b₀ (live_heap hb₀))
  · refine hd.apart ⟨?_, hb.2⟩
    simp only [AH.drop]
    split
    · rfl
    · exact hb.1

theorem Sim.pushN (h : Sim m φ s σ) {B : Nat} (hB : s.t.contains B = true) (hroom : (s.disown B).room = true) (hnh : s.h.lookup B = none) {b e : Nat} (hb : b = (m B).1 ∨ σ.fresh b) :
    Sim (m.upd s.next (b, e)) φ (s.disown B).pushT ((σ.disown (m B).1).own b e) := by
  have hd := h.disown hB
  refine hd.pushT hroom ?_
  rcases hb with rfl | hb
  · refine ⟨fun x hx he => ?_, ?_, ?_⟩
    · simp only [SH.live, SH.disown, contains_filter, Bool.or_eq_true, Bool.and_eq_true, Bool.not_eq_true', beq_eq_false_iff_ne] at hx
      rcases hx with hx | hx
      · obtain ⟨o, ho⟩ := Option.isSome_iff_exists.1 hx
        have hxB := h.inj x B (live_heap ho) (live_tip hB) he
        subst hxB
        rw [show s.h.lookup x = some o from ho] at hnh
        simp at hnh
      · exact hx.1 (h.inj x B (live_tip hx.2) (live_tip hB) he)
    · cases hq : φ.heap (m B).1 with
      | none => rfl
      | some o => exact absurd rfl ((h.fheap _ o hq).2 B (live_tip hB))
    · cases hq : φ.tip (m B).1 with
      | none => rfl
      | some e => exact absurd rfl ((h.ftip _ e hq).2 B (live_tip hB))
  · refine hd.apart ⟨hb.1, ?_⟩
    simp only [AH.disown]
    split
    · rfl
    · exact hb.2

theorem noneL {s : SH} {b : Nat} (h : (s.h.lookup b).isNone = true) : s.h.lookup b = none := by simpa using h

/-- What comes behind an instruction, said of what is reckoned. -/
def After (m : Nm) (φ : AH) (s s' : SH) (i : I1) (v : AV) (K : AV → AH → Prop) : Prop := ∀ m' σ', Nm.agree s.next m m' → (i.names = false → m' = m) → Sim m' φ s' σ' → K (ren m' v) σ'

theorem After.same {i : I1} {v : AV} {K : AV → AH → Prop} {s' : SH} (hK : After m φ s s' i v K) {σ' : AH} (h' : Sim m φ s' σ') : K (ren m v) σ' :=
  hK m σ' (Nm.agree.refl _ _) (fun _ => rfl) h'

theorem appendS_sound {mode z bytes : Nat} {ag : Bool} {x : AV} {ys : List AV} {o1 o2 : Opd} {v : AV} {s' : SH} (hs : appendS mode z bytes x ys s = some (v, s')) (h : Sim m φ s σ) {K : AV → AH → Prop}
    (hK : After m φ s s' (.append mode ag z bytes o1 o2) v K) : appendA mode z bytes (ren m x) (renL m ys) σ K ∧ s.next ≤ s'.next := by
  unfold appendS at hs
  split at hs
  · split at hs
    · simp only [Option.some.injEq, Prod.mk.injEq] at hs
      obtain ⟨rfl, rfl⟩ := hs
      exact ⟨by simpa [ren, appendA, renL] using hK.same h, Nat.le_refl _⟩
    · rename_i y ys'
      split at hs
      · rename_i hc
        have hne : ¬ renL m (y :: ys') = [] := by simp [renL]
        split at hs
        · rename_i hm
          split at hs
          · rename_i hb
            simp only [Option.some.injEq, Prod.mk.injEq] at hs
            obtain ⟨rfl, rfl⟩ := hs
            refine ⟨?_, by simp [SH.push]⟩
            simp only [ren, appendA, hne, if_false, len_ren, hm, if_true]
            refine ⟨hc.1, fun b hf => ?_⟩
            have := hK _ _ (Nm.agree_upd m s.next (b, 0)) (fun hn => by simp [I1.names] at hn) (h.push hc.2 (h.apart hf) (o := .cells (AV.flat (y :: ys'))) hb)
            simpa [ren, Nm.upd, renO, flat_ren] using this
          · simp at hs
        · rename_i hm
          split at hs
          · rename_i hb
            simp only [Option.some.injEq, Prod.mk.injEq] at hs
            obtain ⟨rfl, rfl⟩ := hs
            refine ⟨?_, by simp [SH.pushT]⟩
            simp only [ren, appendA, hne, if_false, len_ren, hm]
            refine ⟨hc.1, fun b hf => ?_⟩
            have hag := Nm.agree_upd m s.next (b, (y :: ys').length * z)
            have := hK _ _ hag (fun hn => by simp [I1.names] at hn) (h.pushT hc.2 (e := (y :: ys').length * z) (h.apart hf))
            simp only [ren, Option.map_some, renL_agree hag hb] at this
            simpa [Nm.upd] using this
          · simp at hs
      · simp at hs
  · rename_i z' t xs
    split at hs
    · rename_i hc
      obtain ⟨rfl, ht, hby, hroom, hnh, hb⟩ := hc
      simp only [Option.some.injEq, Prod.mk.injEq] at hs
      obtain ⟨rfl, rfl⟩ := hs
      refine ⟨?_, by simp [SH.pushT, SH.disown]⟩
      simp only [ren, appendA, Option.map_some, len_ren]
      refine ⟨trivial, h.tips _ ht, hby, fun b e' hbb => ?_⟩
      have hag := Nm.agree_upd m s.next (b, e')
      have := hK _ _ hag (fun hn => by simp [I1.names] at hn) (h.pushN ht hroom (noneL hnh) hbb (e := e'))
      simp only [ren, Option.map_some, renL_agree hag hb, app_ren] at this
      simpa [Nm.upd] using this
    · simp at hs
  · rename_i z' b₀ o n
    split at hs
    · rename_i vs hb₀
      split at hs
      · rename_i hc
        obtain ⟨rfl, rfl, hle, hby, hroom, hnt, hb⟩ := hc
        simp only [Option.some.injEq, Prod.mk.injEq] at hs
        obtain ⟨rfl, rfl⟩ := hs
        refine ⟨?_, by simp [SH.push, SH.drop]⟩
        have hh := h.heap _ _ hb₀
        simp only [ren, appendA, hh, renO, len_ren]
        refine ⟨trivial, trivial, hle, hby, fun b hbb => ?_⟩
        have := hK _ _ (Nm.agree_upd m s.next (b, 0)) (fun hn => by simp [I1.names] at hn) (h.pushD hb₀ hroom hnt hbb (o := .cells (vs.take (n * z) ++ AV.flat ys)) hb)
        simpa [ren, Nm.upd, renO, flat_ren, app_ren, take_ren] using this
      · simp at hs
    · simp at hs
  · simp at hs

theorem frzS_sound {ag : Bool} {z : Nat} {x v : AV} {s' : SH} {o : Opd} (hs : frzS s ag z x = some (v, s')) (h : Sim m φ s σ) {K : AV → AH → Prop} (hK : After m φ s s' (.frz ag z o) v K) :
    (optK (frzA σ ag z (ren m x)) fun r => K r.1 r.2) ∧ s.next ≤ s'.next := by
  unfold frzS at hs
  split at hs
  · simp only [Option.some.injEq, Prod.mk.injEq] at hs
    obtain ⟨rfl, rfl⟩ := hs
    exact ⟨by simpa [ren, frzA, optK] using hK.same h, Nat.le_refl _⟩
  · simp only [Option.some.injEq, Prod.mk.injEq] at hs
    obtain ⟨rfl, rfl⟩ := hs
    exact ⟨by simpa [ren, frzA, optK] using hK.same h, Nat.le_refl _⟩
  · split at hs
    · rename_i vs hb
      split at hs
      · rename_i hc
        obtain ⟨rfl, rfl, hag, hlen, hg⟩ := hc
        simp only [Option.some.injEq, Prod.mk.injEq] at hs
        obtain ⟨rfl, rfl⟩ := hs
        refine ⟨?_, Nat.le_refl _⟩
        have hh := h.heap _ _ hb
        have := hK.same (h.drop hb)
        simpa [ren, frzA, hag, hh, renO, len_ren, hlen, grpOk_ren, hg, group_ren, optK] using this
      · simp at hs
    · simp at hs
  · simp at hs

theorem fillA_ren' {e : Opd → AV} {ps : List (Nat × Nat × Opd)} {cs cs' : List AV} (h : fillA cs (ps.map fun p => (p.1, p.2.1, e p.2.2)) = some cs') :
    fillA (renL m cs) (ps.map fun p => (p.1, p.2.1, ren m (e p.2.2))) = some (renL m cs') := by
  have := fillA_ren (m := m) h
  rw [List.map_map] at this
  exact this

theorem flatten_closed {n : Nat} {zero : List AV} (h : bdL 0 zero = true) : renL m (List.replicate n zero).flatten = (List.replicate n zero).flatten := by
  induction n with
  | zero => rfl
  | succ n ih => rw [List.replicate_succ, List.flatten_cons, app_ren, ih, renL_closed m h]

/-- One instruction does what is reckoned. -/
theorem stepSV_sound {e : Opd → AV} {i : I1} {v : AV} {s' : SH} (hs : stepSV s e i = some (v, s')) (hc : i.closed = true) (h : Sim m φ s σ) {K : AV → AH → Prop} (hK : After m φ s s' i v K) :
    stepV X (fun o => ren m (e o)) σ K i ∧ s.next ≤ s'.next := by
  have quiet : ∀ {j : I1}, j.closed = true → (quietV e s.toAH j).map (fun v => (v, s)) = some (v, s') → After m φ s s' j v K → (optK (quietV (fun o => ren m (e o)) σ j) fun v => K v σ) ∧ s.next ≤ s'.next := fun {j} hc hs hK => by
    simp only [Option.map_eq_some_iff, Prod.mk.injEq] at hs
    obtain ⟨u, hu, rfl, rfl⟩ := hs
    rw [quietV_ren h.reads hc hu]
    exact ⟨hK.same h, Nat.le_refl _⟩
  cases i <;> simp only [stepSV, stepV] at hs ⊢ <;> try (exact quiet hc hs hK)
  case store n x y =>
    split at hs
    · rename_i b o hx
      split at hs
      · rename_i vs hb
        split at hs
        · rename_i hq
          simp only [Option.some.injEq, Prod.mk.injEq] at hs
          obtain ⟨rfl, rfl⟩ := hs
          refine ⟨?_, Nat.le_refl _⟩
          have hh := h.heap _ _ hb
          have := hK.same (h.set hb (.cells (vs.take o ++ (e y).cells ++ vs.drop (o + n))))
          simp only [hx, ren, storeA, hh, renO, cells_ren, len_ren, hq, all_one_ren, and_self, if_true, optK]
          simpa [ren, renO, app_ren, take_ren, drop_ren] using this
        · simp at hs
      · simp at hs
    · simp at hs
  case alloc zero =>
    split at hs
    · rename_i hq
      simp only [Option.some.injEq, Prod.mk.injEq] at hs
      obtain ⟨rfl, rfl⟩ := hs
      refine ⟨fun b hf => ?_, by simp [SH.push]⟩
      have := hK _ _ (Nm.agree_upd m s.next (b, 0)) (fun hn => by simp [I1.names] at hn) (h.push hq.1 (h.apart hf) (o := .cells zero) hq.2)
      simpa [ren, Nm.upd, renO, renL_closed m (show bdL 0 zero = true from hc)] using this
    · simp at hs
  case box x =>
    split at hs
    · rename_i hq
      simp only [Option.some.injEq, Prod.mk.injEq] at hs
      obtain ⟨rfl, rfl⟩ := hs
      refine ⟨⟨by rw [ok_ren]; exact hq.2.1, fun b hf => ?_⟩, by simp [SH.push]⟩
      have := hK _ _ (Nm.agree_upd m s.next (b, 0)) (fun hn => by simp [I1.names] at hn) (h.push hq.1 (h.apart hf) (o := .cells (e x).cells) hq.2.2)
      simpa [ren, Nm.upd, renO, cells_ren] using this
    · simp at hs
  case blds mode ag z n zero ps =>
    split at hs
    · simp at hs
    · rename_i cs hcs
      have hcs' := fillA_ren' (m := m) hcs
      rw [flatten_closed (show bdL 0 zero = true from hc)] at hcs'
      rw [hcs']
      simp only [optK, newRowA]
      split at hs
      · split at hs
        · rename_i hg
          simp only [Option.some.injEq, Prod.mk.injEq] at hs
          obtain ⟨rfl, rfl⟩ := hs
          refine ⟨⟨by rw [grpOk_ren]; exact hg, ?_⟩, Nat.le_refl _⟩
          have := hK.same h
          simpa [ren, group_ren] using this
        · simp at hs
      · split at hs
        · rename_i hg
          simp only [Option.some.injEq, Prod.mk.injEq] at hs
          obtain ⟨rfl, rfl⟩ := hs
          refine ⟨⟨by rw [grpOk_ren]; exact hg.1, fun b hf => ?_⟩, by simp [SH.pushT]⟩
          have hag := Nm.agree_upd m s.next (b, n * z)
          have := hK _ _ hag (fun hn => by simp [I1.names] at hn) (h.pushT hg.2.1 (e := n * z) (h.apart hf))
          simp only [ren, Option.map_some, ← group_ren, renL_agree hag hg.2.2] at this
          simpa [Nm.upd] using this
        · simp at hs
      · split at hs
        · rename_i hg
          simp only [Option.some.injEq, Prod.mk.injEq] at hs
          obtain ⟨rfl, rfl⟩ := hs
          refine ⟨fun b hf => ?_, by simp [SH.push]⟩
          have := hK _ _ (Nm.agree_upd m s.next (b, 0)) (fun hn => by simp [I1.names] at hn) (h.push hg.1 (h.apart hf) (o := .cells cs) hg.2)
          simpa [ren, Nm.upd, renO] using this
        · simp at hs
  case mkmap =>
    split at hs
    · rename_i hq
      simp only [Option.some.injEq, Prod.mk.injEq] at hs
      obtain ⟨rfl, rfl⟩ := hs
      refine ⟨fun b hf => ?_, by simp [SH.push]⟩
      have := hK _ _ (Nm.agree_upd m s.next (b, 0)) (fun hn => by simp [I1.names] at hn) (h.push hq (h.apart hf) (o := .map [] 0) rfl)
      simpa [ren, Nm.upd, renO] using this
    · simp at hs
  case mkslice z bytes zero l c =>
    split at hs
    · rename_i k1 l' k2 c' hl hcc
      split at hs
      · rename_i hq
        obtain ⟨⟨q1, q2, q3, q4⟩, hroom, hb⟩ := hq
        simp only [Option.some.injEq, Prod.mk.injEq] at hs
        obtain ⟨rfl, rfl⟩ := hs
        refine ⟨?_, by simp [SH.push]⟩
        simp only [hl, hcc, ren, mksliceA]
        refine ⟨q1, q2, q3, q4, fun b hf => ?_⟩
        have := hK _ _ (Nm.agree_upd m s.next (b, 0)) (fun hn => by simp [I1.names] at hn) (h.push hroom (h.apart hf) (o := .cells (List.replicate c'.toNat zero).flatten) hb)
        simpa [ren, Nm.upd, renO, flatten_closed (show bdL 0 zero = true from hc)] using this
      · simp at hs
    · simp at hs
  case append mode ag z bytes x y =>
    split at hs
    · rename_i ys hys
      rw [elemsA_ren h.reads hys]
      split at hs
      · rename_i hone
        obtain ⟨p1, p2⟩ := appendS_sound hs h hK
        exact ⟨⟨by rw [flat_ren, all_one_ren]; exact hone, p1⟩, p2⟩
      · simp at hs
    · simp at hs
  case mapupd ag ks mm k y =>
    split at hs
    · rename_i r hr
      split at hs
      · rename_i es clock hb
        split at hs
        · simp at hs
        · rename_i hk
          have hk : keyOk ag ks (e k) = true := by simpa using hk
          split at hs
          · rename_i es' c' hu
            simp only [Option.some.injEq, Prod.mk.injEq] at hs
            obtain ⟨rfl, rfl⟩ := hs
            refine ⟨?_, Nat.le_refl _⟩
            have hh := h.heap _ _ hb
            have := hK.same (h.set hb (.map es' c'))
            simp only [hr, ren, Option.map_some, mapupdA, hh, renO, keyOk_ren hk, Bool.not_true, Bool.false_eq_true, if_false, updA_ren hu, optK]
            exact this
          · simp at hs
      · simp at hs
    · simp at hs
  case frz ag z x => exact frzS_sound hs h hK
  case ment ag ks zero mm k =>
    split at hs
    · rename_i r hr
      split at hs
      · rename_i es clock hb
        split at hs
        · simp at hs
        · rename_i hk
          have hk : keyOk ag ks (e k) = true := by simpa using hk
          have hh := h.heap _ _ hb
          have hz : ren m zero = zero := ren_closed m hc
          split at hs
          · rename_i hi
            simp only [Option.some.injEq, Prod.mk.injEq] at hs
            obtain ⟨rfl, rfl⟩ := hs
            refine ⟨?_, Nat.le_refl _⟩
            have := hK.same (h.set hb (.map (es ++ [(e k, zero, clock)]) (clock + 1)))
            simp only [hr, ren, Option.map_some, mentA, hh, renO, keyOk_ren hk, Bool.not_true, Bool.false_eq_true, if_false, idxA_ren hi, optK]
            simpa [ren, renL, renO, hz] using this
          · rename_i j hi
            split at hs
            · rename_i k' v' n' hj
              simp only [Option.some.injEq, Prod.mk.injEq] at hs
              obtain ⟨rfl, rfl⟩ := hs
              refine ⟨?_, Nat.le_refl _⟩
              have := hK.same (h.set hb (.map (es.set j (e k, v', n')) clock))
              simp only [hr, ren, Option.map_some, mentA, hh, renO, keyOk_ren hk, Bool.not_true, Bool.false_eq_true, if_false, idxA_ren hi, List.getElem?_map, hj, optK]
              simpa [ren, renL, renO, List.map_set] using this
            · simp at hs
          · simp at hs
      · simp at hs
    · simp at hs
  case msto mm st y =>
    split at hs
    · rename_i r hr
      split at hs
      · rename_i es clock k0 b hb hst
        split at hs
        · rename_i i hi
          split at hs
          · rename_i k' v' n' hj
            simp only [Option.some.injEq, Prod.mk.injEq] at hs
            obtain ⟨rfl, rfl⟩ := hs
            refine ⟨?_, Nat.le_refl _⟩
            have hh := h.heap _ _ hb
            have hi' : (es.map fun x => (ren m x.1, ren m x.2.1, x.2.2)).findIdx? (fun e => (e.2.2 : Int) == b) = some i := by
              rw [List.findIdx?_map]
              exact hi
            have := hK.same (h.set hb (.map (es.set i (k', e y, n')) clock))
            simp only [hr, ren, Option.map_some, mstoA, hh, renO, hst, hi', List.getElem?_map, hj, optK]
            simpa [ren, renL, renO, List.map_set] using this
          · simp at hs
        · simp at hs
      · simp at hs
    · simp at hs
  case rng x =>
    split at hs
    · rename_i hx
      split at hs
      · rename_i hroom
        simp only [Option.some.injEq, Prod.mk.injEq] at hs
        obtain ⟨rfl, rfl⟩ := hs
        refine ⟨?_, by simp [SH.push]⟩
        simp only [hx, ren, Option.map_none, rngA]
        intro b hf
        have := hK _ _ (Nm.agree_upd m s.next (b, 0)) (fun hn => by simp [I1.names] at hn) (h.push hroom (h.apart hf) (o := .miter none 0 [] 0) rfl)
        simpa [ren, Nm.upd, renO] using this
      · simp at hs
    · rename_i r hx
      split at hs
      · rename_i es clock hb
        split at hs
        · rename_i hroom
          simp only [Option.some.injEq, Prod.mk.injEq] at hs
          obtain ⟨rfl, rfl⟩ := hs
          refine ⟨?_, by simp [SH.push]⟩
          have hh := h.heap _ _ hb
          simp only [hx, ren, Option.map_some, rngA, hh, renO]
          intro b hf
          have := hK _ _ (Nm.agree_upd m s.next (b, 0)) (fun hn => by simp [I1.names] at hn) (h.push hroom.1 (h.apart hf) (o := .miter (some r) clock [] clock) hroom.2)
          simpa [ren, Nm.upd, renO] using this
        · simp at hs
      · simp at hs
    · simp at hs
  all_goals simp at hs

end
end Go.Scr
