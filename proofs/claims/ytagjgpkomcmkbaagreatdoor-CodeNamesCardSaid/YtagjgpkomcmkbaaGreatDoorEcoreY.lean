/- An interpreter for lowered texts, and that what it answers is what the program answers: part 25 of a program logic over the model: memory. No condition. -/
import Derived.Test.YtagjgpkomcmkbaaGreatDoorEcoreX
namespace Go.Scr
open Go

/-- A heap that is reckoned with: the objects, the rows of which the last cells are a slice's own, and the next name. -/
structure SH where
  h : List (Nat × AObj)
  t : List Nat
  next : Nat

def setO (b : Nat) (o : AObj) : List (Nat × AObj) → List (Nat × AObj)
  | [] => [(b, o)]
  | x :: l => if x.1 = b then (b, o) :: l else x :: setO b o l

def bdO (n : Nat) : AObj → Bool
  | .cells vs => bdL n vs
  | .map es _ => es.all fun x => bd n x.1 && bd n x.2.1
  | .siter _ _ => true
  | .dfr => true
  | .loop env _ _ => env.all fun p => bd n p.2
  | .miter r _ _ _ => (match r with | none => true | some b => Nat.blt b n)

namespace SH
def toAH (s : SH) : AH := ⟨fun b => s.h.lookup b, fun _ => none⟩
def set (s : SH) (b : Nat) (o : AObj) : SH := { s with h := setO b o s.h }
def drop (s : SH) (b : Nat) : SH := { s with h := s.h.filter fun x => !(x.1 == b) }
def disown (s : SH) (b : Nat) : SH := { s with t := s.t.filter fun x => !(x == b) }
def push (s : SH) (o : AObj) : SH := { s with h := (s.next, o) :: s.h, next := s.next + 1 }
def pushT (s : SH) : SH := { s with t := s.next :: s.t, next := s.next + 1 }
def live (s : SH) (b : Nat) : Bool := (s.h.lookup b).isSome || s.t.contains b
/-- May the next name be given? -/
def room (s : SH) : Bool := s.h.all (fun p => bdO s.next p.2) && !s.live s.next
end SH

theorem lookup_setO (b : Nat) (o : AObj) (x : Nat) : ∀ l : List (Nat × AObj), (setO b o l).lookup x = if x = b then some o else l.lookup x
  | [] => by
    simp only [setO, List.lookup_cons, List.lookup_nil]
    by_cases h : x = b
    · subst h; simp
    · have : (x == b) = false := by simpa using h
      simp [this, h]
  | (y, v) :: l => by
    simp only [setO]
    split
    · rename_i hy
      simp only [List.lookup_cons]
      by_cases h : x = b
      · subst h; simp
      · have h1 : (x == b) = false := by simpa using h
        have h2 : (x == y) = false := by rw [hy]; exact h1
        simp [h1, h2, h]
    · rename_i hy
      simp only [List.lookup_cons]
      by_cases h : x = y
      · have : ¬ x = b := fun e => hy (h.symm.trans e)
        simp [h, hy]
      · have h1 : (x == y) = false := by simpa using h
        simp only [h1]
        exact lookup_setO b o x l

theorem lookup_filter (b x : Nat) : ∀ l : List (Nat × AObj), (l.filter fun y => !(y.1 == b)).lookup x = if x = b then none else l.lookup x
  | [] => by simp
  | (y, v) :: l => by
    by_cases hy : y = b
    · have hf : ((y, v) :: l).filter (fun y => !(y.1 == b)) = l.filter fun y => !(y.1 == b) := by simp [hy]
      rw [hf, lookup_filter b x l]
      by_cases h : x = b
      · simp [h]
      · have h1 : (x == y) = false := by rw [hy]; simpa using h
        simp [h, List.lookup_cons, h1]
    · have hf : ((y, v) :: l).filter (fun y => !(y.1 == b)) = (y, v) :: l.filter fun y => !(y.1 == b) := by simp [hy]
      rw [hf]
      simp only [List.lookup_cons]
      by_cases h : x = y
      · subst h
        simp [hy]
      · have h1 : (x == y) = false := by simpa using h
        simp only [h1]
        exact lookup_filter b x l

/-- What is reckoned lies in the heap under its names, and apart from it what was there. -/
structure Sim (m : Nm) (φ : AH) (s : SH) (σ : AH) : Prop where
  heap : ∀ b o, s.h.lookup b = some o → σ.heap (m b).1 = some (renO m o)
  tips : ∀ b, s.t.contains b = true → σ.tip (m b).1 = some (m b).2
  inj : ∀ b b', s.live b = true → s.live b' = true → (m b).1 = (m b').1 → b = b'
  fheap : ∀ b o, φ.heap b = some o → σ.heap b = some o ∧ ∀ x, s.live x = true → (m x).1 ≠ b
  ftip : ∀ b e, φ.tip b = some e → σ.tip b = some e ∧ ∀ x, s.live x = true → (m x).1 ≠ b

section
variable {m : Nm} {φ : AH} {s : SH} {σ : AH}

theorem Sim.reads (h : Sim m φ s σ) : Reads m s.toAH σ := h.heap

theorem live_heap {b : Nat} {o : AObj} (h : s.h.lookup b = some o) : s.live b = true := by simp [SH.live, h]
theorem live_tip {b : Nat} (h : s.t.contains b = true) : s.live b = true := by simp only [SH.live, h, Bool.or_true]

theorem Sim.set (h : Sim m φ s σ) {b : Nat} {o' : AObj} (hb : s.h.lookup b = some o') (o : AObj) : Sim m φ (s.set b o) (σ.set (m b).1 (renO m o)) := by
  have hl : ∀ x, (s.set b o).live x = s.live x := fun x => by
    simp only [SH.live, SH.set, lookup_setO]
    by_cases hx : x = b
    · subst hx; simp [hb]
    · simp [hx]
  refine ⟨fun x o1 hx => ?_, h.tips, fun x y hx hy => ?_, fun x o1 hx => ?_, fun x e hx => ?_⟩
  · simp only [SH.set, lookup_setO] at hx
    simp only [AH.set]
    split at hx
    · rename_i he
      subst he
      simp only [Option.some.injEq] at hx
      subst hx
      simp
    · rename_i hne
      rw [if_neg fun he => hne (h.inj x b (live_heap hx) (live_heap hb) he)]
      exact h.heap x o1 hx
  · rw [hl] at hx hy
    exact h.inj x y hx hy
  · obtain ⟨h1, h2⟩ := h.fheap x o1 hx
    refine ⟨?_, fun y hy => by rw [hl] at hy; exact h2 y hy⟩
    simp only [AH.set]
    rw [if_neg fun he => h2 b (live_heap hb) he.symm]
    exact h1
  · obtain ⟨h1, h2⟩ := h.ftip x e hx
    exact ⟨h1, fun y hy => by rw [hl] at hy; exact h2 y hy⟩

theorem Sim.drop (h : Sim m φ s σ) {b : Nat} {o : AObj} (hb : s.h.lookup b = some o) : Sim m φ (s.drop b) (σ.drop (m b).1) := by
  have hl : ∀ x, (s.drop b).live x = true → s.live x = true := fun x hx => by
    simp only [SH.live, SH.drop, lookup_filter, Bool.or_eq_true] at hx ⊢
    rcases hx with hx | hx
    · split at hx
      · simp at hx
      · exact .inl hx
    · exact .inr hx
  refine ⟨fun x o1 hx => ?_, h.tips, fun x y hx hy => h.inj x y (hl x hx) (hl y hy), fun x o1 hx => ?_, fun x e hx => ?_⟩
  · simp only [SH.drop, lookup_filter] at hx
    simp only [AH.drop]
    split at hx
    · simp at hx
    · rename_i hne
      rw [if_neg fun he => hne (h.inj x b (live_heap hx) (live_heap hb) he)]
      exact h.heap x o1 hx
  · obtain ⟨h1, h2⟩ := h.fheap x o1 hx
    refine ⟨?_, fun y hy => h2 y (hl y hy)⟩
    simp only [AH.drop]
    rw [if_neg fun he => h2 b (live_heap hb) he.symm]
    exact h1
  · obtain ⟨h1, h2⟩ := h.ftip x e hx
    exact ⟨h1, fun y hy => h2 y (hl y hy)⟩

theorem contains_filter (l : List Nat) (b x : Nat) : (l.filter fun y => !(y == b)).contains x = (!(x == b) && l.contains x) := by
  rw [Bool.eq_iff_iff]
  simp only [List.contains_iff_mem, List.mem_filter, Bool.and_eq_true]
  exact ⟨fun h => ⟨h.2, h.1⟩, fun h => ⟨h.2, h.1⟩⟩

theorem Sim.disown (h : Sim m φ s σ) {b : Nat} (hb : s.t.contains b = true) : Sim m φ (s.disown b) (σ.disown (m b).1) := by
  have hl : ∀ x, (s.disown b).live x = true → s.live x = true := fun x hx => by
    simp only [SH.live, SH.disown, contains_filter, Bool.or_eq_true, Bool.and_eq_true] at hx ⊢
    exact hx.imp id fun h => h.2
  refine ⟨h.heap, fun x hx => ?_, fun x y hx hy => h.inj x y (hl x hx) (hl y hy), fun x o1 hx => ?_, fun x e hx => ?_⟩
  · simp only [SH.disown, contains_filter, Bool.and_eq_true, Bool.not_eq_true', beq_eq_false_iff_ne] at hx
    simp only [AH.disown]
    rw [if_neg fun he => hx.1 (h.inj x b (live_tip hx.2) (live_tip hb) he)]
    exact h.tips x hx.2
  · obtain ⟨h1, h2⟩ := h.fheap x o1 hx
    exact ⟨h1, fun y hy => h2 y (hl y hy)⟩
  · obtain ⟨h1, h2⟩ := h.ftip x e hx
    refine ⟨?_, fun y hy => h2 y (hl y hy)⟩
    simp only [AH.disown]
    rw [if_neg fun he => h2 b (live_tip hb) he.symm]
    exact h1

/-- One more name. -/
def Nm.upd (m : Nm) (n : Nat) (x : Nat × Nat) : Nm := fun y => if y = n then x else m y
theorem Nm.agree_upd (m : Nm) (n : Nat) (x : Nat × Nat) : Nm.agree n m (m.upd n x) := fun y hy => by
  simp only [Nm.upd]
  rw [if_neg (by omega)]

theorem mapEs_agree {n : Nat} {m m' : Nm} (h : Nm.agree n m m') {es : List (AV × AV × Nat)} (hb : es.all (fun x => bd n x.1 && bd n x.2.1) = true) :
    (es.map fun x => (ren m' x.1, ren m' x.2.1, x.2.2)) = es.map fun x => (ren m x.1, ren m x.2.1, x.2.2) := by
  apply List.map_congr_left
  intro x hx
  have := List.all_eq_true.1 hb x hx
  simp only [Bool.and_eq_true] at this
  rw [ren_agree h this.1, ren_agree h this.2]
theorem renO_agree {n : Nat} {m m' : Nm} (h : Nm.agree n m m') {o : AObj} (hb : bdO n o = true) : renO m' o = renO m o := by
  cases o with
  | cells vs => simp only [bdO] at hb; simp [renO, renL_agree h hb]
  | map es c => simp only [bdO] at hb; simp only [renO, mapEs_agree h hb]
  | siter l p => rfl
  | dfr => rfl
  | loop env lr st =>
    simp only [bdO, List.all_eq_true] at hb
    simp only [renO]
    congr 1
    apply List.map_congr_left
    intro p hp
    rw [ren_agree h (hb p hp)]
  | miter r a b c =>
    cases r with
    | none => rfl
    | some x =>
      simp only [bdO, Nat.blt_eq] at hb
      simp [renO, h x hb]

theorem lookup_mem {b : Nat} {o : AObj} : ∀ {l : List (Nat × AObj)}, l.lookup b = some o → (b, o) ∈ l
  | [], h => by simp at h
  | (y, v) :: l, h => by
    simp only [List.lookup_cons] at h
    by_cases hy : b = y
    · subst hy
      simp only [beq_self_eq_true, Option.some.injEq] at h
      subst h
      simp
    · have : (b == y) = false := by simpa using hy
      rw [this] at h
      exact List.mem_cons_of_mem _ (lookup_mem h)

theorem room_inv (h : s.room = true) : (∀ b o, s.h.lookup b = some o → bdO s.next o = true) ∧ s.live s.next = false := by
  simp only [SH.room, Bool.and_eq_true, Bool.not_eq_true', List.all_eq_true] at h
  exact ⟨fun b o hb => h.1 (b, o) (lookup_mem hb), h.2⟩

/-- A block that none of the others is. -/
def Apart (m : Nm) (φ : AH) (s : SH) (b : Nat) : Prop := (∀ x, s.live x = true → (m x).1 ≠ b) ∧ φ.heap b = none ∧ φ.tip b = none

theorem Sim.apart (h : Sim m φ s σ) {b : Nat} (hf : σ.fresh b) : Apart m φ s b := by
  refine ⟨fun x hx he => ?_, ?_, ?_⟩
  · simp only [SH.live, Bool.or_eq_true] at hx
    rcases hx with hx | hx
    · obtain ⟨o, ho⟩ := Option.isSome_iff_exists.1 hx
      have := h.heap x o ho
      rw [he, hf.1] at this
      simp at this
    · have := h.tips x hx
      rw [he, hf.2] at this
      simp at this
  · cases hq : φ.heap b with
    | none => rfl
    | some o => have := (h.fheap b o hq).1; rw [hf.1] at this; simp at this
  · cases hq : φ.tip b with
    | none => rfl
    | some e => have := (h.ftip b e hq).1; rw [hf.2] at this; simp at this

theorem live_push (o : AObj) (x : Nat) : (s.push o).live x = (x == s.next || s.live x) := by
  simp only [SH.live, SH.push, List.lookup_cons]
  cases hx : x == s.next <;> simp
theorem live_pushT (x : Nat) : s.pushT.live x = (x == s.next || s.live x) := by
  simp only [SH.live, SH.pushT, List.contains_cons]
  cases hx : x == s.next <;> simp

theorem upd_live (hroom : s.room = true) {x : Nat} (hx : s.live x = true) (p : Nat × Nat) : m.upd s.next p x = m x := by
  simp only [Nm.upd]
  rw [if_neg]
  rintro rfl
  rw [(room_inv hroom).2] at hx
  simp at hx

theorem inj_upd (h : Sim m φ s σ) (hroom : s.room = true) {b : Nat} (hap : Apart m φ s b) (e : Nat) {x y : Nat} (hx : (x == s.next || s.live x) = true) (hy : (y == s.next || s.live y) = true)
    (he : (m.upd s.next (b, e) x).1 = (m.upd s.next (b, e) y).1) : x = y := by
  have hn : ∀ z, z = s.next → (m.upd s.next (b, e) z).1 = b := fun z hz => by simp [Nm.upd, hz]
  simp only [Bool.or_eq_true, beq_iff_eq] at hx hy
  rcases hx with hx | hx <;> rcases hy with hy | hy
  · exact hx.trans hy.symm
  · rw [hn x hx, upd_live hroom hy] at he
    exact absurd he.symm (hap.1 y hy)
  · rw [hn y hy, upd_live hroom hx] at he
    exact absurd he (hap.1 x hx)
  · rw [upd_live hroom hx, upd_live hroom hy] at he
    exact h.inj x y hx hy he

theorem Sim.push (h : Sim m φ s σ) (hroom : s.room = true) {b : Nat} (hap : Apart m φ s b) {o : AObj} (ho : bdO s.next o = true) : Sim (m.upd s.next (b, 0)) φ (s.push o) (σ.set b (renO m o)) := by
  have hag := Nm.agree_upd m s.next (b, 0)
  have hne : ∀ x, s.live x = true → ¬ (m x).1 = b := hap.1
  refine ⟨fun x o1 hx => ?_, fun x hx => ?_, fun x y hx hy => ?_, fun x o1 hx => ?_, fun x e hx => ?_⟩
  · simp only [SH.push, List.lookup_cons] at hx
    split at hx
    · rename_i hq
      obtain rfl : x = s.next := by simpa using hq
      simp only [Option.some.injEq] at hx
      subst hx
      simp [Nm.upd, AH.set, ← renO_agree hag ho]
    · rw [upd_live hroom (live_heap hx)]
      simp only [AH.set]
      rw [if_neg (hne x (live_heap hx)), renO_agree hag ((room_inv hroom).1 x o1 hx)]
      exact h.heap x o1 hx
  · have hx' : s.t.contains x = true := hx
    rw [upd_live hroom (live_tip hx')]
    exact h.tips x hx'
  · rw [live_push] at hx hy
    exact inj_upd h hroom hap 0 hx hy
  · obtain ⟨h1, h2⟩ := h.fheap x o1 hx
    have hxb : ¬ x = b := fun he => by rw [he, hap.2.1] at hx; simp at hx
    refine ⟨by simp only [AH.set]; rw [if_neg hxb]; exact h1, fun y hy => ?_⟩
    rw [live_push] at hy
    simp only [Bool.or_eq_true, beq_iff_eq] at hy
    rcases hy with rfl | hy
    · simp only [Nm.upd, if_true]
      exact Ne.symm hxb
    · rw [upd_live hroom hy]; exact h2 y hy
  · obtain ⟨h1, h2⟩ := h.ftip x e hx
    have hxb : ¬ x = b := fun he => by rw [he, hap.2.2] at hx; simp at hx
    refine ⟨h1, fun y hy => ?_⟩
    rw [live_push] at hy
    simp only [Bool.or_eq_true, beq_iff_eq] at hy
    rcases hy with rfl | hy
    · simp only [Nm.upd, if_true]
      exact Ne.symm hxb
    · rw [upd_live hroom hy]; exact h2 y hy

theorem Sim.pushT (h : Sim m φ s σ) (hroom : s.room = true) {b e : Nat} (hap : Apart m φ s b) : Sim (m.upd s.next (b, e)) φ s.pushT (σ.own b e) := by
  have hag := Nm.agree_upd m s.next (b, e)
  have hne : ∀ x, s.live x = true → ¬ (m x).1 = b := hap.1
  refine ⟨fun x o1 hx => ?_, fun x hx => ?_, fun x y hx hy => ?_, fun x o1 hx => ?_, fun x e' hx => ?_⟩
  · have hx' : s.h.lookup x = some o1 := hx
    rw [upd_live hroom (live_heap hx'), renO_agree hag ((room_inv hroom).1 x o1 hx')]
    exact h.heap x o1 hx'
  · simp only [SH.pushT, List.contains_cons, Bool.or_eq_true, beq_iff_eq] at hx
    by_cases hxn : x = s.next
    · subst hxn
      simp [Nm.upd, AH.own]
    · have hx := hx.resolve_left hxn
      rw [upd_live hroom (live_tip hx)]
      simp only [AH.own]
      rw [if_neg (hne x (live_tip hx))]
      exact h.tips x hx
  · rw [live_pushT] at hx hy
    exact inj_upd h hroom hap e hx hy
  · obtain ⟨h1, h2⟩ := h.fheap x o1 hx
    have hxb : ¬ x = b := fun he => by rw [he, hap.2.1] at hx; simp at hx
    refine ⟨h1, fun y hy => ?_⟩
    rw [live_pushT] at hy
    simp only [Bool.or_eq_true, beq_iff_eq] at hy
    rcases hy with rfl | hy
    · simp only [Nm.upd, if_true]
      exact Ne.symm hxb
    · rw [upd_live hroom hy]; exact h2 y hy
  · obtain ⟨h1, h2⟩ := h.ftip x e' hx
    have hxb : ¬ x = b := fun he => by rw [he, hap.2.2] at hx; simp at hx
    refine ⟨by simp only [AH.own]; rw [if_neg hxb]; exact h1, fun y hy => ?_⟩
    rw [live_pushT] at hy
    simp only [Bool.or_eq_true, beq_iff_eq] at hy
    rcases hy with rfl | hy
    · simp only [Nm.upd, if_true]
      exact Ne.symm hxb
    · rw [upd_live hroom hy]; exact h2 y hy

end
end Go.Scr
