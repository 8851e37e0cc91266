/- Regions that draw their order: part 21 of a program logic over the model: the game of all orders, and the order that is enough. No condition but that the region was lowered. -/
import Derived.Test.YtagjgpkomcmkbaaGreatDoorEcoreV
namespace Go.Scr
open Go

section
variable {X : Ctx} {σ : AH}

theorem stepI_mono {dst : Option Nat} {a : AAct} {K K' : AAct → AH → Prop} (hk : ∀ a σ, K a σ → K' a σ) {i : I1} (hs : stepI X dst a σ K i) : stepI X dst a σ K' i := by
  by_cases hd : ∃ f xs, i = .defer f xs
  · obtain ⟨f, xs, rfl⟩ := hd
    exact ⟨hs.1, hk _ _ hs.2⟩
  · rw [stepI_eq fun f xs h => hd ⟨f, xs, h⟩] at hs ⊢
    exact stepV_mono (fun v σ' => hk _ _) hs

theorem stepL_mono {l : L1} {a : AAct} {K K' : AAct → AH → Prop} (hk : ∀ a σ, K a σ → K' a σ) (hs : stepL X l a σ K) : stepL X l a σ K' := by
  unfold stepL at hs ⊢
  split at hs
  · exact ⟨hs.1, hk _ _ hs.2⟩
  · unfold stepG at hs ⊢
    split at hs
    · exact stepI_mono hk hs
    · split at hs
      · split at hs
        · rename_i hb
          simp only [hb, if_true]
          exact stepI_mono hk hs
        · rename_i hb
          simp only [hb, if_false]
          exact hk _ _ hs
      · exact hk _ _ hs
      · exact hs.elim

theorem wpR_mono {K K' : AAct → AH → Prop} (hk : ∀ a σ, K a σ → K' a σ) : ∀ {l : List L1} {a : AAct} {σ : AH}, wpR X K l a σ → wpR X K' l a σ
  | [], _, _, hs => hk _ _ hs
  | _ :: _, _, _, hs => stepL_mono (fun _ _ h => wpR_mono hk h) hs

theorem ready_waits {ops : Array Oper} {listed : Array Bool} {j k : Nat} (h : j ∈ Region.ready .any ops listed) (hw : waits ops j k = true) : listed.getD k false = true := by
  rw [mem_ready] at h
  obtain ⟨_, o, ho, hall⟩ := h
  unfold waits at hw
  rw [ho] at hw
  simp only [Array.any_eq_true'] at hw
  obtain ⟨e, he, hb⟩ := hw
  simp only [Bool.and_eq_true, beq_iff_eq] at hb
  rw [← hb.2]
  exact hall e he hb.1

def Closed (ops : Array Oper) (listed : Array Bool) : Prop := ∀ j, listed.getD j false = true → ∀ k, waits ops j k = true → listed.getD k false = true

theorem Closed.set {ops : Array Oper} {listed : Array Bool} (h : Closed ops listed) {j : Nat} (hj : j ∈ Region.ready .any ops listed) : Closed ops (listed.setIfInBounds j true) := by
  intro i hi k hw
  refine getD_set_true ?_
  by_cases hij : j = i
  · subst hij
    exact ready_waits hj hw
  · rw [getD_set_ne false hij] at hi
    exact h i hi k hw

theorem anc_listed {ops : Array Oper} {listed : Array Bool} (hc : Closed ops listed) : ∀ (f : Nat) (l : List Nat), (∀ j ∈ l, ∀ k, waits ops j k = true → listed.getD k false = true) → ∀ k ∈ anc ops f l, listed.getD k false = true
  | 0, _, _, k, hk => by simp [anc] at hk
  | f + 1, l, hl, k, hk => by
    simp only [anc] at hk
    split at hk
    · simp at hk
    · rename_i m _
      have hm : ∀ x ∈ (List.range ops.size).filter (fun k => l.any fun j => waits ops j k), listed.getD x false = true := fun x hx => by
        simp only [List.mem_filter, List.any_eq_true] at hx
        obtain ⟨_, j, hj, hw⟩ := hx
        exact hl j hj x hw
      rcases List.mem_append.1 hk with hk | hk
      · exact hm k hk
      · exact anc_listed hc f _ (fun j hj k hw => hc j (hm j hj) k hw) k hk

theorem getD_flip {listed : Array Bool} {j : Nat} (h : listed.getD j true = false) : listed.getD j false = false := by
  simp only [Array.getD_eq_getD_getElem?] at h ⊢
  cases hq : listed[j]? with
  | none => rfl
  | some b => rw [hq] at h; simpa using h

theorem ready_not {ops : Array Oper} {listed : Array Bool} {j : Nat} (h : j ∈ Region.ready .any ops listed) : ¬ listed.getD j false = true := by
  rw [mem_ready] at h
  rw [getD_flip h.1]
  simp

theorem grdOk_spec {ops : Array Oper} {ls : List L1} (h : grdOk ops ls = true) {i k : Nat} {l m : L1} (hi : ls[i]? = some l) (hk : ls[k]? = some m) {d : Nat} (hd : m.dst = some d) :
    (i ≠ k → l.dst ≠ some d) ∧ (d ∈ l.uses → i ≠ k ∧ waits ops i k = true) := by
  unfold grdOk at h
  rw [List.all_eq_true] at h
  have h1 := h i (List.mem_range.2 (List.getElem?_eq_some_iff.1 hi).1)
  rw [List.all_eq_true] at h1
  have h2 := h1 k (List.mem_range.2 (List.getElem?_eq_some_iff.1 hk).1)
  simp only [hi, hk, hd, Bool.and_eq_true, Bool.or_eq_true, beq_iff_eq, bne_iff_ne, Bool.not_eq_true'] at h2
  obtain ⟨p, q⟩ := h2
  refine ⟨fun hne => p.resolve_left hne, fun hu => ?_⟩
  rcases q with q | q
  · have : l.uses.contains d = true := List.contains_iff_mem.2 hu
    rw [q] at this
    simp at this
  · exact q

def HeldOk (X : Ctx) (ops : Array Oper) (ls : List L1) (j : Nat) (held : List Nat) (a : AAct) (σ : AH) : Prop :=
  ∀ i ∈ held, i ∉ anc ops ops.size [j] → ∀ m, ls[i]? = some m → m.op.reads = true → stepS X m m.op a σ fun _ _ => True

/-- All the orders there are; 'held': those that were taken ahead. -/
def Game (X : Ctx) (h : Hints) (ops : Array Oper) (ls : List L1) (K : AAct → AH → Prop) : Nat → Array Bool → List Nat → AAct → AH → Prop
  | 0, listed, _, a, σ => Region.ready .any ops listed = [] ∧ K a σ
  | f + 1, listed, held, a, σ => (Region.ready .any ops listed = [] → K a σ) ∧ ∀ j ∈ Region.ready .any ops listed, ∀ l, ls[j]? = some l →
      wpR X (fun a' σ' => (calmL h l = false → HeldOk X ops ls j held a' σ') ∧ Game X h ops ls K f (listed.setIfInBounds j true) held a' σ') (withFrz h [l]) a σ

theorem mem_withFrz {h : Hints} {l m : L1} (hm : m ∈ withFrz h [l]) : m = l ∨ ∃ d ag z, l.dst = some d ∧ m = ⟨some d, .frz ag z (.t d), none⟩ := by
  simp only [withFrz] at hm
  split at hm
  · rename_i d hd
    split at hm
    · simp only [List.mem_cons, List.not_mem_nil, or_false] at hm
      rcases hm with rfl | rfl
      · exact .inl rfl
      · exact .inr ⟨d, _, _, hd, rfl⟩
    · simp only [List.mem_cons, List.not_mem_nil, or_false] at hm
      exact .inl hm
  · simp only [List.mem_cons, List.not_mem_nil, or_false] at hm
    exact .inl hm

theorem withFrz_calm {h : Hints} {l : L1} (hc : calmL h l = true) : withFrz h [l] = [l] := by
  simp only [calmL, frzFree, Bool.and_eq_true] at hc
  have h2 := hc.2
  simp only [withFrz]
  split
  · rename_i d hd
    rw [hd] at h2
    simp only [Option.isNone_iff_eq_none] at h2
    rw [h2]
  · rfl

theorem withFrz_ok {h : Hints} {l : L1} (hn : ∀ i, l.op ≠ .same i) {D : Option Nat} (hD : ∀ d, D = some d → d ∉ l.uses ∧ l.dst ≠ some d) : ∀ m ∈ withFrz h [l], (∀ d, D = some d → d ∉ m.uses) ∧ ∀ i, m.op ≠ .same i := by
  intro m hm
  rcases mem_withFrz hm with rfl | ⟨d, ag, z, hd, rfl⟩
  · exact ⟨fun d h => (hD d h).1, hn⟩
  · refine ⟨fun d' h => ?_, fun i h => by simp at h⟩
    have := (hD d' h).2
    rw [hd] at this
    simp only [L1.uses, I1.opds, Opd.slots, List.flatMap_cons, List.flatMap_nil, List.append_nil, List.mem_cons, List.not_mem_nil, or_false]
    rintro rfl
    exact this rfl

theorem withFrz_dst {h : Hints} {l m : L1} (hm : m ∈ withFrz h [l]) : m.dst = l.dst := by
  rcases mem_withFrz hm with rfl | ⟨d, ag, z, hd, rfl⟩
  · rfl
  · exact hd.symm

section
variable {h : Hints} {ops : Array Oper} {ls : List L1} {K : AAct → AH → Prop}

theorem HeldOk.ext {j : Nat} {held held' : List Nat} (hs : ∀ x ∈ held', x ∈ held) {a b : AAct} (ho : Off none a b) (hh : HeldOk X ops ls j held b σ) : HeldOk X ops ls j held' a σ :=
  fun i hi hn m hm hr => stepS_off ho (fun d hd => by simp at hd) (hh i (hs i hi) hn m hm hr)

theorem Game.ext (hK : ∀ a b σ, Off none a b → K b σ → K a σ) (hns : ∀ l ∈ ls, ∀ i, l.op ≠ .same i) : ∀ (f : Nat) {listed : Array Bool} {held held' : List Nat} {a b : AAct} {σ : AH}, (∀ x ∈ held', x ∈ held) → Off none a b →
    Game X h ops ls K f listed held b σ → Game X h ops ls K f listed held' a σ
  | 0, _, _, _, _, _, _, _, ho, hg => ⟨hg.1, hK _ _ _ ho hg.2⟩
  | f + 1, _, _, _, _, _, _, hs, ho, hg => by
    refine ⟨fun hn => hK _ _ _ ho (hg.1 hn), fun j hj l hl => ?_⟩
    refine wpR_off ho (withFrz_ok (hns l (List.mem_of_getElem? hl)) fun d hd => by simp at hd) (fun a' b' σ' ho' _ hk => ?_) (hg.2 j hj l hl)
    exact ⟨fun hc => (hk.1 hc).ext hs ho', Game.ext hK hns f hs ho' hk.2⟩

theorem Off.of_put (a : AAct) (d : Option Nat) (v : AV) : Off d a (a.put d v) :=
  ⟨fun _ ht => get_put_ne ht, by cases d <;> rfl, by cases d <;> rfl⟩

/-- A quiet operation that is ready may be taken first. -/
theorem take_first (hK : ∀ a b σ, Off none a b → K b σ → K a σ) (hok : grdOk ops ls = true) (hns : ∀ l ∈ ls, ∀ i, l.op ≠ .same i) : ∀ (f : Nat) {listed : Array Bool} {held : List Nat} {a : AAct} {σ : AH} {i : Nat} {l : L1} {v : AV},
    Closed ops listed → (∀ x ∈ held, listed.getD x false = true) → i ∈ Region.ready .any ops listed → ls[i]? = some l → calmL h l = true → valL X l a σ = some v →
    Game X h ops ls K f (listed.setIfInBounds i true) (i :: held) (a.put l.dst v) σ → Game X h ops ls K (f + 1) listed held a σ := by
  intro f
  induction f with
  | zero =>
    intro listed held a σ i l v hcl hheld hi hl hcalm hv hg
    refine ⟨fun hn => by simp [hn] at hi, fun j hj lj hlj => ?_⟩
    by_cases hji : j = i
    · subst hji
      rw [hl] at hlj
      simp only [Option.some.injEq] at hlj
      subst hlj
      rw [withFrz_calm hcalm]
      refine (stepL_calm (by simp only [calmL, Bool.and_eq_true] at hcalm; exact hcalm.1)).2 ⟨v, hv, fun hc => by rw [hcalm] at hc; simp at hc, ?_⟩
      exact Game.ext hK hns 0 (fun x hx => by simp [hx]) ⟨fun _ _ => rfl, rfl, rfl⟩ hg
    · have := ready_mono hj hji
      rw [hg.1] at this
      simp at this
  | succ f ih =>
    intro listed held a σ i l v hcl hheld hi hl hcalm hv hg
    have hcalm1 : l.op.calm = true := by simp only [calmL, Bool.and_eq_true] at hcalm; exact hcalm.1
    refine ⟨fun hn => by simp [hn] at hi, fun j hj lj hlj => ?_⟩
    by_cases hji : j = i
    · subst hji
      rw [hl] at hlj
      simp only [Option.some.injEq] at hlj
      subst hlj
      rw [withFrz_calm hcalm]
      refine (stepL_calm hcalm1).2 ⟨v, hv, fun hc => by rw [hcalm] at hc; simp at hc, ?_⟩
      exact Game.ext hK hns (f + 1) (fun x hx => by simp [hx]) ⟨fun _ _ => rfl, rfl, rfl⟩ hg
    · have g := hg.2 j (ready_mono hj hji) lj hlj
      have hli := ready_not hi
      have hlj' := ready_not hj
      have hself : ∀ t ∈ l.uses, l.dst ≠ some t := fun t ht hd => ((grdOk_spec hok hl hl hd).2 ht).1 rfl
      have hD : ∀ d, l.dst = some d → d ∉ lj.uses ∧ lj.dst ≠ some d := fun d hd => by
        obtain ⟨p, q⟩ := grdOk_spec hok hlj hl hd
        exact ⟨fun hu => hli (ready_waits hj (q hu).2), p hji⟩
      have hD2 : ∀ t ∈ l.uses, lj.dst ≠ some t := fun t ht hd => hlj' (ready_waits hi ((grdOk_spec hok hl hlj hd).2 ht).2)
      have rest : ∀ (a' b' : AAct) (σ' : AH), Off l.dst a' b' → (∀ t, lj.dst ≠ some t → a'.get t = a.get t ∧ b'.get t = (a.put l.dst v).get t) → (calmL h lj = true → σ' = σ) →
          ((calmL h lj = false → HeldOk X ops ls j (i :: held) b' σ') ∧ Game X h ops ls K f ((listed.setIfInBounds i true).setIfInBounds j true) (i :: held) b' σ') →
          (calmL h lj = false → HeldOk X ops ls j held a' σ') ∧ Game X h ops ls K (f + 1) (listed.setIfInBounds j true) held a' σ' := by
        intro a' b' σ' ho hf hσ hk
        obtain ⟨hc, hG⟩ := hk
        have hua : ∀ t ∈ l.uses, a'.get t = a.get t := fun t ht => (hf t (hD2 t ht)).1
        have hub : ∀ t ∈ l.uses, b'.get t = a.get t := fun t ht => by rw [(hf t (hD2 t ht)).2, get_put_ne (hself t ht)]
        have hbd : ∀ d, l.dst = some d → b'.get d = v := fun d hd => by
          rw [(hf d (hD d hd).2).2, hd, AAct.get_put, if_pos rfl]
        have same : valL X l a' σ = valL X l a σ := by
          unfold valL
          rw [calmV_congr fun o ho => ?_]
          · split
            · rfl
            · rename_i s want hg'
              rw [hua s (guard_uses hg')]
          · cases o with
            | t n => exact hua n (mem_uses ho (by simp [Opd.slots]))
            | c v => rfl
            | g n => rfl
        obtain ⟨v', hv', hvv⟩ : ∃ v', valL X l a' σ' = some v' ∧ ∀ d, l.dst = some d → v' = v := by
          by_cases hr : l.op.reads = true
          · by_cases hcj : calmL h lj = true
            · rw [hσ hcj, same]
              exact ⟨v, hv, fun _ _ => rfl⟩
            · have hnot : i ∉ anc ops ops.size [j] := fun hm => hli (anc_listed hcl ops.size [j] (fun x hx k hw => by
                simp only [List.mem_cons, List.not_mem_nil, or_false] at hx
                subst hx
                exact ready_waits hj hw) i hm)
              have hst := hc (by simpa using hcj) i (by simp) hnot l hl hr
              obtain ⟨v', h1, h2⟩ := same_val hcalm1 hub hv hbd hst
              exact ⟨v', by rw [← valL_off ho fun d hd hu => hself d hu hd]; exact h1, h2⟩
          · refine ⟨v, ?_, fun _ _ => rfl⟩
            rw [← hv, ← same]
            unfold valL
            rw [calmV_free (by simpa using hr) σ]
        refine ⟨fun hcj x hx hn m hm hr => ?_, ?_⟩
        · refine stepS_off ho (fun d hd => ?_) (hc hcj x (by simp [hx]) hn m hm hr)
          have hxi : x ≠ i := fun he => hli (by rw [← he]; exact hheld x hx)
          obtain ⟨p, q⟩ := grdOk_spec hok hm hl hd
          exact ⟨fun hu => hli (hcl x (hheld x hx) i (q hu).2), p hxi⟩
        · refine ih (hcl.set hj) (fun x hx => getD_set_true (hheld x hx)) (ready_mono hi (Ne.symm hji)) hl hcalm hv' ?_
          rw [Array.setIfInBounds_comm _ _ hji]
          refine Game.ext hK hns f (fun x hx => hx) ⟨fun t _ => ?_, ?_, ?_⟩ hG
          · by_cases hd : l.dst = some t
            · rw [hbd t hd, hd, AAct.get_put, if_pos rfl, hvv t hd]
            · rw [get_put_ne hd, ho.1 t hd]
          · rw [ho.2.1]; cases l.dst <;> rfl
          · rw [ho.2.2]; cases l.dst <;> rfl
      by_cases hcj : calmL h lj = true
      · have hcj1 : lj.op.calm = true := by simp only [calmL, Bool.and_eq_true] at hcj; exact hcj.1
        rw [withFrz_calm hcj] at g ⊢
        obtain ⟨vj, g1, g2⟩ := (stepL_calm hcj1).1 g
        rw [valL_off (Off.of_put a l.dst v) fun d hd => (hD d hd).1] at g1
        exact (stepL_calm hcj1).2 ⟨vj, g1, rest _ _ _ ((Off.of_put a l.dst v).put _ _) (fun t ht => ⟨get_put_ne ht, get_put_ne ht⟩) (fun _ => rfl) g2⟩
      · refine wpR_off (Off.of_put a l.dst v) (withFrz_ok (hns lj (List.mem_of_getElem? hlj)) hD) (fun a' b' σ' ho hf hk => ?_) g
        exact rest a' b' σ' ho (fun t ht => hf t fun m hm => by rw [withFrz_dst hm]; exact ht) (fun hc => absurd hc hcj) hk

theorem wpR_sames : ∀ {l : List L1} {a : AAct} {σ : AH}, (∀ m ∈ l, ∃ i, m.op = .same i) → wpR X K l a σ → (∀ m ∈ l, ∀ i, m.op = .same i → stepS X m i a σ fun _ _ => True) ∧ K a σ
  | [], _, _, _, hs => ⟨fun m hm => by simp at hm, hs⟩
  | m :: l, a, σ, hsame, hs => by
    obtain ⟨i, hi⟩ := hsame m (by simp)
    simp only [wpR, stepL, hi] at hs
    obtain ⟨h1, h2⟩ := hs
    obtain ⟨g1, g2⟩ := wpR_sames (fun m hm => hsame m (by simp [hm])) h2
    refine ⟨fun m' hm' j hj => ?_, g2⟩
    rcases List.mem_cons.1 hm' with rfl | hm'
    · rw [hi] at hj
      simp only [I1.same.injEq] at hj
      subst hj
      exact ⟨h1, trivial⟩
    · exact g1 m' hm' j hj

theorem wpT_br {F : Nat → GT} {a : AAct} : ∀ {l : List Nat}, wpT X K (grdBr F l) a σ → ∀ j ∈ l, wpT X K (F j) a σ
  | [], _, j, hj => by simp at hj
  | [x], hs, j, hj => by
    simp only [List.mem_cons, List.not_mem_nil, or_false] at hj
    subst hj
    exact hs
  | x :: y :: l, hs, j, hj => by
    rcases List.mem_cons.1 hj with rfl | hj
    · exact hs.1
    · exact wpT_br hs.2 j hj

theorem held_sames {held before : List Nat} {a : AAct} (hs : wpR X K (sames ls before held) a σ) : (∀ i ∈ held, i ∉ before → ∀ m, ls[i]? = some m → m.op.reads = true → stepS X m m.op a σ fun _ _ => True) ∧ K a σ := by
  have hall : ∀ m ∈ sames ls before held, ∃ i, m.op = .same i := fun m hm => by
    unfold sames at hm
    rw [List.mem_filterMap] at hm
    obtain ⟨i, _, hi⟩ := hm
    split at hi
    · simp at hi
    · split at hi
      · split at hi
        · simp only [Option.some.injEq] at hi
          subst hi
          exact ⟨_, rfl⟩
        · simp at hi
      · simp at hi
  obtain ⟨h1, h2⟩ := wpR_sames hall hs
  refine ⟨fun i hi hb m hm hr => ?_, h2⟩
  have : (⟨m.dst, .same m.op, m.guard⟩ : L1) ∈ sames ls before held := by
    unfold sames
    rw [List.mem_filterMap]
    refine ⟨i, hi, ?_⟩
    rw [if_neg (by simpa using hb), hm]
    simp [hr]
  exact h1 _ this m.op rfl

theorem count_set {listed : Array Bool} {j : Nat} (h : listed.getD j true = false) {f : Nat} (hc : listed.toList.count false ≤ f + 1) : (listed.setIfInBounds j true).toList.count false ≤ f := by
  rw [Array.getD_eq_getD_getElem?] at h
  have hlt : j < listed.size := by
    rcases Nat.lt_or_ge j listed.size with h' | h'
    · exact h'
    · rw [Array.getElem?_eq_none h'] at h; simp at h
  rw [Array.getElem?_eq_getElem hlt] at h
  simp only [Option.getD_some] at h
  rw [Array.toList_setIfInBounds, List.count_set (by simpa using hlt)]
  have : listed.toList[j]'(by simpa using hlt) = false := by simpa using h
  rw [this]
  simp only [beq_self_eq_true, if_true]
  have h0 : (if (true == false) = true then 1 else 0) = 0 := by simp
  rw [h0]
  omega

/-- The order that is enough is enough. -/
theorem grd_game (hK : ∀ a b σ, Off none a b → K b σ → K a σ) (hok : grdOk ops ls = true) (hns : ∀ l ∈ ls, ∀ i, l.op ≠ .same i) : ∀ (f : Nat) {listed : Array Bool} {held : List Nat} {a : AAct} {σ : AH},
    Closed ops listed → (∀ x ∈ held, listed.getD x false = true) → listed.toList.count false ≤ f → wpT X K (grd h ops ls f listed held) a σ → Game X h ops ls K f listed held a σ
  | 0, listed, held, a, σ, hcl, hheld, hcount, hs => by
    refine ⟨?_, hs⟩
    apply List.eq_nil_iff_forall_not_mem.2
    intro j hj
    rw [mem_ready] at hj
    have h1 := hj.1
    rw [Array.getD_eq_getD_getElem?] at h1
    cases hq : listed[j]? with
    | none => rw [hq] at h1; simp at h1
    | some b =>
      rw [hq] at h1
      simp only [Option.getD_some] at h1
      subst h1
      have : false ∈ listed.toList := by simpa using Array.mem_of_getElem? hq
      have := List.count_pos_iff.2 this
      omega
  | f + 1, listed, held, a, σ, hcl, hheld, hcount, hs => by
    simp only [grd] at hs
    split at hs
    · rename_i j hfind
      have hj := List.mem_of_find?_eq_some hfind
      have hp := List.find?_some hfind
      split at hp
      · rename_i l hl
        rw [hl] at hs
        have hcalm1 : l.op.calm = true := by simp only [calmL, Bool.and_eq_true] at hp; exact hp.1
        obtain ⟨v, hv, hs⟩ := (stepL_calm hcalm1).1 (show stepL X l a σ _ from hs)
        refine take_first hK hok hns f hcl hheld hj hl hp hv (grd_game hK hok hns f (hcl.set hj) (fun x hx => ?_) (count_set (mem_ready.1 hj).1 hcount) hs)
        rcases List.mem_cons.1 hx with rfl | hx
        · have := (mem_ready.1 hj).1
          rw [Array.getD_eq_getD_getElem?] at this ⊢
          have hlt : x < listed.size := by
            rcases Nat.lt_or_ge x listed.size with h' | h'
            · exact h'
            · rw [Array.getElem?_eq_none h'] at this; simp at this
          simp [hlt]
        · exact getD_set_true (hheld x hx)
      · simp at hp
    · refine ⟨fun hn => by rw [hn] at hs; exact hs, fun j hj l hl => ?_⟩
      have hb := wpT_br hs j hj
      simp only [wpT, hl, Option.toList_some, wpR_append] at hb
      refine wpR_mono (fun a' σ' hk => ?_) hb
      obtain ⟨h1, h2⟩ := held_sames hk
      exact ⟨fun _ => h1, grd_game hK hok hns f (hcl.set hj) (fun x hx => getD_set_true (hheld x hx)) (count_set (mem_ready.1 hj).1 hcount) h2⟩

theorem lowOpers_get {P : Program} {n : Nat} : ∀ {l : List Oper} {ls : List L1}, lowOpers P h n ops l = some ls → (∀ (i : Nat) (o : Oper), l[i]? = some o → ∃ m, ls[i]? = some m ∧ lowOper P h n ops o = some m) ∧ ∀ m ∈ ls, ∃ o, lowOper P h n ops o = some m
  | [], ls, hl => by
    simp only [lowOpers, Option.some.injEq] at hl
    subst hl
    exact ⟨fun i o hi => by simp at hi, fun m hm => by simp at hm⟩
  | o :: l, ls, hl => by
    obtain ⟨l1, ls', rfl, hl1, hls⟩ := lowOpers_cons hl
    obtain ⟨g1, g2⟩ := lowOpers_get hls
    refine ⟨fun i o' hi => ?_, fun m hm => ?_⟩
    · rcases i with _ | i
      · simp only [List.getElem?_cons_zero, Option.some.injEq] at hi
        subst hi
        exact ⟨l1, rfl, hl1⟩
      · exact g1 i o' (by simpa using hi)
    · rcases List.mem_cons.1 hm with rfl | hm
      · exact ⟨o, hl1⟩
      · exact g2 m hm

/-- What one operation does, and what is frozen of it. -/
theorem one_sound {n : Nat} {I₀ : Imm} {w₀ : World} {o : Oper} {l : L1} {r : Option Nat} (hp : r = none ∨ plainO o = true) (hl : lowOper X.P h n ops o = some l) {R : Act → World → Prop} (hR : Behind X n I₀ w₀ K R) {Q : Exit → Act → World → Prop}
    {a : AAct} {I : Imm} {A : Act} {w : World} (hs : wpR X K (withFrz h [l]) a σ) (hn : A.tmps.size = n) (hr : Rel X I σ w) (ha : ARel w I a A) (x : Ext I₀ w₀ I w) :
    if Region.wanted o (yielded ops A.tmps) = true then o.wpIn (Fw r) 0 X.P A w R Q else (∀ f, o.about X.P w A.eval = some f → (Fw r).fn f) ∧ R (A.put o.dst undef) w := by
  obtain ⟨K', hK', hs'⟩ : ∃ K' : AAct → AH → Prop, Behind X n I₀ w₀ K' R ∧ stepL X l a σ K' := by
    simp only [withFrz] at hs
    split at hs
    · rename_i d hd
      split at hs
      · rename_i ag z hfz
        refine ⟨_, ?_, hs⟩
        intro a' σ' I' A' w' hk hn' hr' ha' x'
        simp only [wpR, stepL, stepG, stepI, stepV, optK, ev] at hk
        split at hk
        · rename_i r hrr
          obtain ⟨v, σ₂⟩ := r
          obtain ⟨I₂, r2, a2, x2⟩ := frz_sound hr' ha' hrr
          exact hR _ _ I₂ _ _ hk hn' r2 a2 (x'.trans x2)
        · exact hk.elim
      · exact ⟨_, hR, hs⟩
    · exact ⟨_, hR, hs⟩
  rcases oper_wanted hl ha hn hs' with ⟨hw, mode, h1, h2, h3⟩ | ⟨hw, h2, h3⟩
  · rw [if_pos hw]
    exact oper_sound hr ha h1 h3 h2 x hn hK' hp
  · rw [if_neg (by rw [hw]; simp)]
    exact ⟨fun _ _ => trivial, hK' _ _ I _ _ h2 (by rw [Act.size_put]; exact hn) hr (ha.put h3 (tuple_nil _ _)) x⟩

theorem game_sound {n : Nat} {I₀ : Imm} {w₀ : World} {Q : Exit → Act → World → Prop} (hK : Behind X n I₀ w₀ K (Q .normal)) (hl : lowOpers X.P h n ops ops.toList = some ls) {r : Option Nat} (hp : r = none ∨ ops.toList.all plainO = true) :
    ∀ (f : Nat) (listed : Array Bool) (held : List Nat), Behind X n I₀ w₀ (Game X h ops ls K f listed held) (wpAnyIn (Fw r) 0 X.P .any ops Q f listed)
  | 0, listed, held => fun a σ I A w hs hn hr ha x => ⟨hs.1, hK a σ I A w hs.2 hn hr ha x⟩
  | f + 1, listed, held => fun a σ I A w hs hn hr ha x => by
    refine ⟨fun he => hK a σ I A w (hs.1 he) hn hr ha x, fun i hi => ?_⟩
    obtain ⟨_, o, ho, _⟩ := mem_ready.1 hi
    obtain ⟨l, hli, hlo⟩ := (lowOpers_get hl).1 i o (by simpa using ho)
    have hwp := hs.2 i hi l hli
    unfold wpOpIn
    rw [ho]
    refine one_sound (hp.imp id fun h => List.all_eq_true.1 h o (List.mem_of_getElem? (by simpa using ho))) hlo ?_ hwp hn hr ha x
    exact fun a' σ' I' A' w' hk hn' hr' ha' x' => game_sound hK hl hp f _ held a' σ' I' A' w' hk.2 hn' hr' ha' x'

/-- A region that draws its order. -/
theorem drw_sound (hm : X.P.follows .mixedOrders = true) {n id : Nat} (hok : grdOk ops ls = true) (hKe : ∀ a b σ, Off none a b → K b σ → K a σ) {I₀ : Imm} {w₀ : World} {Q : Exit → Act → World → Prop} (hK : Behind X n I₀ w₀ K (Q .normal))
    (hl : lowOpers X.P h n ops ops.toList = some ls) {r : Option Nat} (hp : r = none ∨ ops.toList.all plainO = true) : Behind X n I₀ w₀ (wpT X K (grd h ops ls ops.size (Array.replicate ops.size false) [])) ((Code.region id ops true).wpIn (Fw r) 0 X.P Q) := by
  intro a σ I A w hs hn hr ha x
  refine wpIn_region_any hm ?_
  have hns : ∀ l ∈ ls, ∀ i, l.op ≠ .same i := fun l hm => by
    obtain ⟨o, ho⟩ := (lowOpers_get hl).2 l hm
    obtain ⟨mode, h1, _⟩ := lowOper_inv ho
    exact lowAny_ne_same h1
  refine game_sound hK hl hp ops.size _ [] a σ I A w.drew (grd_game hKe hok hns ops.size ?_ (fun x hx => by simp at hx) ?_ hs) hn hr.drew (ha.ext (Ext.drew I w)) (x.trans (Ext.drew I w))
  · intro j hj
    exfalso
    rw [Array.getD_eq_getD_getElem?, Array.getElem?_replicate] at hj
    split at hj <;> simp at hj
  · simp

end
end
end Go.Scr
