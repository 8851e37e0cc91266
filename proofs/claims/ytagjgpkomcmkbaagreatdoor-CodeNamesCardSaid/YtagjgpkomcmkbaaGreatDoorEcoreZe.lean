/- The interpreter without its looks at names: code and functions: part 31 of a program logic over the model. Conditions: the texts' constants name nothing. -/
import Derived.Test.YtagjgpkomcmkbaaGreatDoorEcoreZd
namespace Go.Scr
open Go

/-- A frame and a heap that name only what was named. -/
def GoodR (G : Nat → Option AV) (n : Nat) (r : AAct × SH) : Prop := WF G r.2 ∧ bdA r.2.next r.1 = true ∧ n ≤ r.2.next
def GoodO (G : Nat → Option AV) (n : Nat) (o : Out) : Prop := WF G o.s ∧ bdA o.s.next o.a = true ∧ n ≤ o.s.next
def GoodV (G : Nat → Option AV) (n : Nat) (r : AV × SH) : Prop := WF G r.2 ∧ bd r.2.next r.1 = true ∧ n ≤ r.2.next
/-- One way to call answers what the other one answers. -/
def CallEq (G : Nat → Option AV) (f g : CallF) : Prop := ∀ c args s r, WF G s → bdL s.next args = true → f c args s = some r → (∀ l, c = .yl l → l < s.next) → g c args s = some r ∧ GoodV G s.next r

section
variable {G : Nat → Option AV} {s : SH}

theorem bdA_get {n : Nat} {a : AAct} (h : bdA n a = true) (t : Nat) : bd n (a.get t) = true := by
  simp only [bdA, Bool.and_eq_true, List.all_eq_true] at h
  have : ∀ l : List (Nat × AV), (∀ p ∈ l, bd n p.2 = true) → bd n ((l.lookup t).getD .undef) = true := by
    intro l hl
    induction l with
    | nil => rfl
    | cons x l ih =>
      obtain ⟨y, v⟩ := x
      simp only [List.lookup_cons]
      cases t == y
      · exact ih fun p hp => hl p (List.mem_cons_of_mem _ hp)
      · exact hl _ List.mem_cons_self
  exact this a.env h.1
theorem bdA_put {n : Nat} {a : AAct} (h : bdA n a = true) {d : Option Nat} {v : AV} (hv : bd n v = true) : bdA n (a.put d v) = true := by
  cases d with
  | none => exact h
  | some d =>
    simp only [bdA, AAct.put, List.all_cons, Bool.and_eq_true] at h ⊢
    exact ⟨⟨hv, h.1⟩, h.2⟩
theorem bdA_mono {n n' : Nat} (h : n ≤ n') {a : AAct} (ha : bdA n a = true) : bdA n' a = true := by
  simp only [bdA, bdD, Bool.and_eq_true, List.all_eq_true] at ha ⊢
  exact ⟨fun p hp => bd_mono h (ha.1 p hp), fun p hp => ⟨bd_mono h (ha.2 p hp).1, bdL_mono h (ha.2 p hp).2⟩⟩
theorem bdA_keep {n : Nat} {a : AAct} (h : bdA n a = true) (l : List Nat) : bdA n (a.keep l) = true := by
  have hd : bdD n a.defers = true := by simp only [bdA, Bool.and_eq_true] at h; exact h.2
  simp only [bdA, AAct.keep, Bool.and_eq_true, List.all_eq_true]
  refine ⟨fun p hp => ?_, hd⟩
  obtain ⟨t, _, rfl⟩ := List.mem_map.1 hp
  exact bdA_get h t
theorem bd_evG {n : Nat} {a : AAct} (ha : bdA n a = true) {o : Opd} (ho : okOpd G o = true) : bd n (evG G a o) = true := by
  cases o with
  | t t => exact bdA_get ha t
  | c v => exact bd_mono (Nat.zero_le _) (show bd 0 v = true from ho)
  | g g =>
    simp only [okOpd] at ho
    simp only [evG]
    cases hq : G g with
    | none => rfl
    | some v =>
      rw [hq] at ho
      have hv : bd n v = true := bd_mono (Nat.zero_le _) ho
      simp [bd, bdL, hv]

theorem goF_eq {f g : CallF} (hcall : CallEq G f g) {l : L1} (hok : l.op.closed = true ∧ ∀ o ∈ l.op.opds, okOpd G o = true) {a : AAct} (hw : WF G s) (ha : bdA s.next a = true) {r : AAct × SH} (h : goF G f l a s = some r) :
    goS G g l a s = some r ∧ GoodR G s.next r := by
  have hev : ∀ o ∈ l.op.opds, bd s.next (evG G a o) = true := fun o ho => bd_evG ha (hok.2 o ho)
  have hall : l.op.opds.all (okOpd G) = true := List.all_eq_true.2 hok.2
  unfold goF at h
  unfold goS
  have hcond : (l.op.closed && l.op.opds.all (okOpd G) && (!l.op.names || bdA s.next a)) = true := by simp [hok.1, hall, ha]
  rw [if_pos hcond]
  have put : ∀ {v : AV} {s' : SH} {d : Option Nat}, WF G s' → bd s'.next v = true → s.next ≤ s'.next → GoodR G s.next (a.put d v, s') := fun {v s' d} h1 h2 h3 => ⟨h1, bdA_put (bdA_mono h3 ha) h2, h3⟩
  split at h
  · rename_i fo xs hop
    rw [hop] at hev
    simp only [hop]
    have hxs : bdL s.next (xs.map (evG G a)) = true := bdL_map fun o ho => hev o (by simp [I1.opds, ho])
    have hf := hev fo (by simp [I1.opds])
    split at h
    · rename_i fid first cap hfe
      rw [hfe] at hf
      simp only [bd, Bool.and_eq_true] at hf
      simp only [hfe]
      simp only [Option.map_eq_some_iff] at h
      obtain ⟨⟨v, s'⟩, hr, rfl⟩ := h
      obtain ⟨h1, h2, h3, h4⟩ := hcall _ _ _ _ hw (bdL_app (bdL_app hf.1 hxs) hf.2) hr (fun l hl => by simp at hl)
      exact ⟨by rw [h1]; rfl, put h2 h3 h4⟩
    · rename_i y hfe
      rw [hfe] at hf
      simp only [hfe]
      simp only [Option.map_eq_some_iff] at h
      obtain ⟨⟨v, s'⟩, hr, rfl⟩ := h
      obtain ⟨h1, h2, h3, h4⟩ := hcall _ _ _ _ hw hxs hr (fun l hl => by cases hl; simpa [bd] using hf)
      exact ⟨by rw [h1]; rfl, put h2 h3 h4⟩
    · simp at h
  · rename_i fo xs hop
    rw [hop] at hev
    simp only [hop]
    have hxs : bdL s.next (xs.map (evG G a)) = true := bdL_map fun o ho => hev o (by simp [I1.opds, ho])
    have hf := hev fo (by simp [I1.opds])
    split at h
    · rename_i hfn
      simp only [Option.some.injEq] at h
      subst h
      refine ⟨by rw [if_pos hfn], hw, bdA_put ?_ rfl, Nat.le_refl _⟩
      simp only [bdA, bdD, List.all_cons, Bool.and_eq_true] at ha ⊢
      exact ⟨ha.1, ⟨hf, hxs⟩, ha.2⟩
    · simp at h
  · rename_i i hnc hnd
    simp only [Option.map_eq_some_iff] at h
    obtain ⟨⟨v, s'⟩, hr, rfl⟩ := h
    obtain ⟨h1, h2, h3⟩ := stepF_eq hw hok.1 hev hr
    have hmono : s.next ≤ s'.next := (stepSV_sound (X := ⟨default, 0, default, fun _ => none⟩) (K := fun _ _ => True) h1 hok.1 (sim_any s) fun _ _ _ _ _ => trivial).2
    split
    · rename_i fo xs hop
      exact absurd hop (hnc fo xs)
    · rename_i fo xs hop
      exact absurd hop (hnd fo xs)
    · exact ⟨by rw [h1]; rfl, put h3 h2 hmono⟩

theorem bindO_eq {α β : Type} {f g : α → Option (List β)} {P : β → Prop} : ∀ {xs : List α} {l : List β}, (∀ x ∈ xs, ∀ lx, f x = some lx → g x = some lx ∧ ∀ y ∈ lx, P y) → bindO f xs = some l → bindO g xs = some l ∧ ∀ y ∈ l, P y
  | [], l, _, h => by
    simp only [bindO, Option.some.injEq] at h
    subst h
    exact ⟨rfl, fun y hy => by simp at hy⟩
  | x :: xs, l, hfg, h => by
    simp only [bindO] at h ⊢
    split at h
    · rename_i lx hx
      obtain ⟨h1, h2⟩ := hfg x List.mem_cons_self lx hx
      split at h
      · rename_i l' hl'
        simp only [Option.some.injEq] at h
        subst h
        obtain ⟨h3, h4⟩ := bindO_eq (fun y hy => hfg y (List.mem_cons_of_mem _ hy)) hl'
        simp only [h1, h3]
        exact ⟨by first | trivial | rfl, fun y hy => (List.mem_append.1 hy).elim (h2 y) (h4 y)⟩
      · simp at h
    · simp at h

theorem nxtS_bd (hw : WF G s) {x : AV} (hx : bd s.next x = true) {os : List (AV × SH)} (h : nxtS s x = some os) : ∀ r ∈ os, GoodV G s.next r := by
  unfold nxtS at h
  split at h
  · rename_i b
    split at h
    · simp only [Option.some.injEq] at h
      subst h
      intro r hr
      simp only [List.mem_cons, List.not_mem_nil, or_false] at hr
      subst hr
      exact ⟨hw.drop b, rfl, Nat.le_refl _⟩
    · rename_i r since seen last hb
      obtain ⟨p1, p2, _⟩ := hw.look hb
      split at h
      · rename_i es clock hr
        have hes := bdE_map.1 (hw.look hr).2.1
        split at h
        · simp only [Option.some.injEq] at h
          subst h
          intro q hq
          split at hq
          · simp only [List.mem_cons, List.not_mem_nil, or_false] at hq
            subst hq
            exact ⟨hw.drop b, rfl, Nat.le_refl _⟩
          · obtain ⟨e, he, rfl⟩ := List.mem_map.1 hq
            have he := hes e (List.mem_filter.1 he).1
            exact ⟨hw.set p1 p2 trivial, by simp only [bd, bdL, SH.set, he.1, he.2]; rfl, Nat.le_refl _⟩
        · simp at h
      · simp at h
    · simp at h
  · simp at h

theorem golF_eq {f g : CallF} (hcall : CallEq G f g) {l : L1} (hok : l.op.closed = true ∧ ∀ o ∈ l.op.opds, okOpd G o = true) {a : AAct} (hw : WF G s) (ha : bdA s.next a = true) {os : List (AAct × SH)} (h : golF G f l a s = some os) :
    goL G g l a s = some os ∧ ∀ r ∈ os, GoodR G s.next r := by
  unfold golF at h
  unfold goL
  split at h
  · rename_i x hop
    rw [hop] at hok
    have hx := hok.2 x (by simp [I1.opds])
    simp only [hop, hx, if_true]
    simp only [Option.map_eq_some_iff] at h
    obtain ⟨os', h1, rfl⟩ := h
    refine ⟨by rw [h1]; rfl, fun r hr => ?_⟩
    obtain ⟨q, hq, rfl⟩ := List.mem_map.1 hr
    obtain ⟨g1, g2, g3⟩ := nxtS_bd hw (bd_evG ha hx) h1 q hq
    exact ⟨g1, bdA_put (bdA_mono g3 ha) g2, g3⟩
  · rename_i hne
    simp only [Option.map_eq_some_iff] at h
    obtain ⟨r, h1, rfl⟩ := h
    obtain ⟨h2, h3⟩ := goF_eq hcall hok hw ha h1
    refine ⟨?_, fun r' hr' => ?_⟩
    · split
      · rename_i x hop
        exact absurd hop (hne x)
      · rw [h2]; rfl
    · simp only [List.mem_cons, List.not_mem_nil, or_false] at hr'
      subst hr'
      exact h3

theorem oneF_eq {f g : CallF} (hcall : CallEq G f g) {l : L1} (hok : okL1 G l = true) {a : AAct} (hw : WF G s) (ha : bdA s.next a = true) {os : List (AAct × SH)} (h : oneF G f l a s = some os) :
    oneS G g l a s = some os ∧ ∀ r ∈ os, GoodR G s.next r := by
  unfold oneF at h
  unfold oneS
  split at h
  · rename_i i hop
    simp only [hop]
    simp only [okL1, okI, hop, Bool.and_eq_true] at hok
    have hchk : ∀ {d : Option Nat}, chkF G d i a s = true → chkS G d i a s = true := fun {d} hc => by
      unfold chkF at hc
      unfold chkS
      simp only [hok.1.1, hok.1.2, hok.2, Bool.true_and]
      exact hc
    split at h
    · rename_i hs
      simp only [Option.some.injEq] at h
      subst h
      have : sameS G l i a s = true := by
        unfold sameF at hs
        unfold sameS
        split at hs
        · rename_i hg
          simp only [hg]
          exact hchk hs
        · rename_i g' want hg
          simp only [hg]
          split at hs
          · rename_i b hb
            simp only [hb]
            split at hs
            · rename_i hbw
              simp only [hbw, if_true]
              exact hchk hs
            · rename_i hbw
              simp only [hbw, if_false]
          · rename_i hb
            simp only [hb]
          · simp at hs
      rw [if_pos this]
      refine ⟨rfl, fun r hr => ?_⟩
      simp only [List.mem_cons, List.not_mem_nil, or_false] at hr
      subst hr
      exact ⟨hw, ha, Nat.le_refl _⟩
    · simp at h
  · rename_i hns
    have hok' : l.op.closed = true ∧ ∀ o ∈ l.op.opds, okOpd G o = true := by
      unfold okL1 okI at hok
      split at hok
      · rename_i i hop
        exact absurd hop (hns i)
      · simp only [Bool.and_eq_true, List.all_eq_true] at hok
        exact hok
    have skip : ∀ r ∈ [(a.put l.dst (.tuple []), s)], GoodR G s.next r := fun r hr => by
      simp only [List.mem_cons, List.not_mem_nil, or_false] at hr
      subst hr
      exact ⟨hw, bdA_put ha rfl, Nat.le_refl _⟩
    split
    · rename_i i hop
      exact absurd hop (hns i)
    · split at h
      · rename_i hg
        simp only [hg]
        exact golF_eq hcall hok' hw ha h
      · rename_i g' want hg
        simp only [hg]
        split at h
        · rename_i b hb
          simp only [hb]
          split at h
          · rename_i hbw
            simp only [hbw, if_true]
            exact golF_eq hcall hok' hw ha h
          · rename_i hbw
            simp only [Option.some.injEq] at h
            subst h
            simp only [hbw, if_false]
            exact ⟨by first | trivial | rfl, skip⟩
        · rename_i hb
          simp only [Option.some.injEq] at h
          subst h
          simp only [hb]
          exact ⟨by first | trivial | rfl, skip⟩
        · simp at h

theorem GoodR.trans {n n' : Nat} {r : AAct × SH} (h : GoodR G n' r) (hn : n ≤ n') : GoodR G n r := ⟨h.1, h.2.1, Nat.le_trans hn h.2.2⟩
theorem GoodO.trans {n n' : Nat} {o : Out} (h : GoodO G n' o) (hn : n ≤ n') : GoodO G n o := ⟨h.1, h.2.1, Nat.le_trans hn h.2.2⟩

theorem regF_eq {f g : CallF} (hcall : CallEq G f g) : ∀ {l : List L1} {a : AAct} {s : SH} {os : List (AAct × SH)}, l.all (okL1 G) = true → WF G s → bdA s.next a = true → regF G f l a s = some os → regS G g l a s = some os ∧ ∀ r ∈ os, GoodR G s.next r
  | [], a, s, os, _, hw, ha, h => by
    simp only [regF, Option.some.injEq] at h
    subst h
    refine ⟨rfl, fun r hr => ?_⟩
    simp only [List.mem_cons, List.not_mem_nil, or_false] at hr
    subst hr
    exact ⟨hw, ha, Nat.le_refl _⟩
  | l :: ls, a, s, os, hok, hw, ha, h => by
    simp only [List.all_cons, Bool.and_eq_true] at hok
    simp only [regF] at h
    split at h
    · rename_i os1 h1
      obtain ⟨h2, h3⟩ := oneF_eq hcall hok.1 hw ha h1
      simp only [regS, h2]
      exact bindO_eq (P := GoodR G s.next) (fun r hr lx hlx => by
        obtain ⟨g1, g2⟩ := regF_eq hcall hok.2 (h3 r hr).1 (h3 r hr).2.1 hlx
        exact ⟨g1, fun y hy => (g2 y hy).trans (h3 r hr).2.2⟩) h
    · simp at h

theorem gtF_eq {f g : CallF} (hcall : CallEq G f g) : ∀ {t : GT} {a : AAct} {s : SH} {os : List (AAct × SH)}, okGT G t = true → WF G s → bdA s.next a = true → gtF G f t a s = some os → gtS G g t a s = some os ∧ ∀ r ∈ os, GoodR G s.next r
  | .done, a, s, os, _, hw, ha, h => by
    simp only [gtF, Option.some.injEq] at h
    subst h
    refine ⟨rfl, fun r hr => ?_⟩
    simp only [List.mem_cons, List.not_mem_nil, or_false] at hr
    subst hr
    exact ⟨hw, ha, Nat.le_refl _⟩
  | .st l t, a, s, os, hok, hw, ha, h => by
    simp only [okGT, Bool.and_eq_true] at hok
    simp only [gtF] at h
    split at h
    · rename_i os1 h1
      obtain ⟨h2, h3⟩ := regF_eq hcall hok.1 hw ha h1
      simp only [gtS, h2]
      exact bindO_eq (P := GoodR G s.next) (fun r hr lx hlx => by
        obtain ⟨g1, g2⟩ := gtF_eq hcall hok.2 (h3 r hr).1 (h3 r hr).2.1 hlx
        exact ⟨g1, fun y hy => (g2 y hy).trans (h3 r hr).2.2⟩) h
    · simp at h
  | .br t u, a, s, os, hok, hw, ha, h => by
    simp only [okGT, Bool.and_eq_true] at hok
    simp only [gtF] at h
    split at h
    · rename_i x y hx hy
      simp only [Option.some.injEq] at h
      subst h
      obtain ⟨g1, g2⟩ := gtF_eq hcall hok.1 hw ha hx
      obtain ⟨g3, g4⟩ := gtF_eq hcall hok.2 hw ha hy
      simp only [gtS, g1, g3]
      exact ⟨by first | trivial | rfl, fun r hr => (List.mem_append.1 hr).elim (g2 r) (g4 r)⟩
    · simp at h

theorem after_eq {f g : AAct → SH → Option (List Out)} {P : Out → Prop} {os l : List Out} (hfg : ∀ o ∈ os, o.ex = .normal → ∀ lx, f o.a o.s = some lx → g o.a o.s = some lx ∧ ∀ y ∈ lx, P y) (hP : ∀ o ∈ os, P o)
    (h : bindO (fun o => match o.ex with
      | .normal => f o.a o.s
      | _ => some [o]) os = some l) : bindO (fun o => match o.ex with
      | .normal => g o.a o.s
      | _ => some [o]) os = some l ∧ ∀ y ∈ l, P y := by
  refine bindO_eq (fun o ho lx hlx => ?_) h
  have one : some [o] = some lx → some [o] = some lx ∧ ∀ y ∈ lx, P y := fun h => by
    simp only [Option.some.injEq] at h
    subst h
    exact ⟨rfl, fun y hy => by simp only [List.mem_cons, List.not_mem_nil, or_false] at hy; subst hy; exact hP _ ho⟩
  cases hex : o.ex <;> rw [hex] at hlx
  case normal => exact hfg o ho hex lx hlx
  all_goals exact one hlx

theorem one_eq {α : Type} {f g : α → Option (AV × SH)} {P : AV × SH → Prop} {os : List α} {l : List (AV × SH)} (hfg : ∀ o ∈ os, ∀ r, f o = some r → g o = some r ∧ P r) (h : bindO (fun o => match f o with
      | some r => some [r]
      | none => none) os = some l) : bindO (fun o => match g o with
      | some r => some [r]
      | none => none) os = some l ∧ ∀ y ∈ l, P y := by
  refine bindO_eq (fun o ho lx hlx => ?_) h
  cases hf : f o with
  | none => rw [hf] at hlx; simp at hlx
  | some r =>
    rw [hf] at hlx
    simp only [Option.some.injEq] at hlx
    subst hlx
    obtain ⟨g1, g2⟩ := hfg o ho r hf
    refine ⟨by simp [g1], fun y hy => ?_⟩
    simp only [List.mem_cons, List.not_mem_nil, or_false] at hy
    subst hy
    exact g2

theorem loopS_eq {f g : AAct → SH → Option (List Out)} (hfg : ∀ a s os, WF G s → bdA s.next a = true → f a s = some os → g a s = some os ∧ ∀ o ∈ os, GoodO G s.next o) : ∀ {n : Nat} {a : AAct} {s : SH} {os : List Out}, WF G s → bdA s.next a = true →
    loopS f n a s = some os → loopS g n a s = some os ∧ ∀ o ∈ os, GoodO G s.next o
  | 0, _, _, _, _, _, h => by simp [loopS] at h
  | n + 1, a, s, os, hw, ha, h => by
    simp only [loopS] at h
    split at h
    · rename_i os1 h1
      obtain ⟨h2, h3⟩ := hfg a s os1 hw ha h1
      simp only [loopS, h2]
      exact after_eq (P := GoodO G s.next) (fun o ho _ lx hlx => by
        have hg := h3 o (merge_sub ho)
        obtain ⟨g1, g2⟩ := loopS_eq hfg hg.1 hg.2.1 hlx
        exact ⟨g1, fun y hy => (g2 y hy).trans hg.2.2⟩) (fun o ho => h3 o (merge_sub ho)) h
    · simp at h

theorem lcF_eq {ent : FuncId → Bool} {f g : CallF} (hcall : CallEq G f g) {n : Nat} : ∀ {lc : LC} {a : AAct} {s : SH} {os : List Out}, okLC G lc = true → WF G s → bdA s.next a = true → lcF G ent f n lc a s = some os →
    lcS G ent g n lc a s = some os ∧ ∀ o ∈ os, GoodO G s.next o
  | .skip, a, s, os, _, hw, ha, h => by
    simp only [lcF, Option.some.injEq] at h
    subst h
    exact ⟨rfl, fun o ho => by simp only [List.mem_cons, List.not_mem_nil, or_false] at ho; subst ho; exact ⟨hw, ha, Nat.le_refl _⟩⟩
  | .reg l keep, a, s, os, hok, hw, ha, h => by
    simp only [okLC] at hok
    simp only [lcF, Option.map_eq_some_iff] at h
    obtain ⟨os1, h1, rfl⟩ := h
    obtain ⟨h2, h3⟩ := regF_eq hcall hok hw ha h1
    simp only [lcS, h2, Option.map_some]
    refine ⟨by first | trivial | rfl, fun o ho => ?_⟩
    obtain ⟨r, hr, rfl⟩ := List.mem_map.1 ho
    exact ⟨(h3 r hr).1, bdA_keep (h3 r hr).2.1 _, (h3 r hr).2.2⟩
  | .drw t keep, a, s, os, hok, hw, ha, h => by
    simp only [okLC] at hok
    simp only [lcF, Option.map_eq_some_iff] at h
    obtain ⟨os1, h1, rfl⟩ := h
    obtain ⟨h2, h3⟩ := gtF_eq hcall hok hw ha h1
    simp only [lcS, h2, Option.map_some]
    refine ⟨by first | trivial | rfl, fun o ho => ?_⟩
    obtain ⟨r, hr, rfl⟩ := List.mem_map.1 ho
    exact ⟨(h3 r hr).1, bdA_keep (h3 r hr).2.1 _, (h3 r hr).2.2⟩
  | .seq x y, a, s, os, hok, hw, ha, h => by
    simp only [okLC, Bool.and_eq_true] at hok
    simp only [lcF] at h
    split at h
    · rename_i os1 h1
      obtain ⟨h2, h3⟩ := lcF_eq hcall hok.1 hw ha h1
      simp only [lcS, h2]
      exact after_eq (P := GoodO G s.next) (fun o ho _ lx hlx => by
        have hg := h3 o (merge_sub ho)
        obtain ⟨g1, g2⟩ := lcF_eq hcall hok.2 hg.1 hg.2.1 hlx
        exact ⟨g1, fun y hy => (g2 y hy).trans hg.2.2⟩) (fun o ho => h3 o (merge_sub ho)) h
    · simp at h
  | .cond c x y, a, s, os, hok, hw, ha, h => by
    simp only [okLC, Bool.and_eq_true] at hok
    simp only [lcF] at h
    simp only [lcS, hok.1.1, if_true]
    split at h
    · rename_i hb
      simp only [hb]
      exact lcF_eq hcall hok.1.2 hw ha h
    · rename_i hb
      simp only [hb]
      exact lcF_eq hcall hok.2 hw ha h
    · simp at h
  | .block id x, a, s, os, hok, hw, ha, h => by
    simp only [okLC] at hok
    simp only [lcF, Option.map_eq_some_iff] at h
    obtain ⟨os1, h1, rfl⟩ := h
    obtain ⟨h2, h3⟩ := lcF_eq hcall hok hw ha h1
    simp only [lcS, h2, Option.map_some]
    refine ⟨rfl, fun o ho => ?_⟩
    obtain ⟨r, hr, rfl⟩ := List.mem_map.1 ho
    have := h3 r hr
    split
    · split
      · exact this
      · exact this
    · exact this
  | .loop x, a, s, os, hok, hw, ha, h => by
    simp only [okLC] at hok
    simp only [lcF] at h
    simp only [lcS]
    exact loopS_eq (fun a s os hw ha h => lcF_eq hcall hok hw ha h) hw ha h
  | .scope x, a, s, os, hok, hw, ha, h => by
    simp only [okLC] at hok
    simp only [lcF] at h
    split at h
    · rename_i os1 h1
      obtain ⟨h2, h3⟩ := lcF_eq hcall hok hw ha h1
      simp only [lcS, h2]
      split at h
      · rename_i hall
        simp only [Option.some.injEq] at h
        subst h
        exact ⟨if_pos hall, h3⟩
      · simp at h
    · simp at h
  | .rfun g' ps x y, a, s, os, hok, hw, ha, h => by
    simp only [okLC, Bool.and_eq_true] at hok
    have hbg := bd_evG ha hok.1.1
    have hw1 : WF G (s.push .dfr) := hw.push rfl trivial
    have henv : bdO (s.push .dfr).next (.loop a.env ⟨a.n, ps, x, y⟩ .ready) = true := by
      have := bdA_mono (Nat.le_succ s.next) ha
      simp only [bdA, Bool.and_eq_true] at this
      exact this.1
    have hw2 : WF G ((s.push .dfr).push (.loop a.env ⟨a.n, ps, x, y⟩ .ready)) := hw1.push henv ⟨hok.1.2, hok.2⟩
    simp only [lcF] at h
    simp only [lcS]
    rw [if_pos (by simp only [hok.1.1, hbg, ha, hw.room, hw1.room, Bool.and_self])]
    split at h
    · rename_i fid first cap hf
      rw [hf] at hbg
      simp only [bd, Bool.and_eq_true] at hbg
      simp only [hf]
      split at h
      · rename_i hen
        rw [if_pos hen]
        split at h
        · rename_i r hr
          have hargs : bdL ((s.push .dfr).push (.loop a.env ⟨a.n, ps, x, y⟩ .ready)).next (first ++ [AV.yield (s.next + 1)] ++ cap) = true := by
            have hle : s.next ≤ ((s.push .dfr).push (.loop a.env ⟨a.n, ps, x, y⟩ .ready)).next := by simp only [SH.push]; omega
            refine bdL_app (bdL_app (bdL_mono hle hbg.1) ?_) (bdL_mono hle hbg.2)
            simp [bdL, bd, SH.push]
          obtain ⟨h1, h2, h3, h4⟩ := hcall _ _ _ _ hw2 hargs hr (fun l hl => by simp at hl)
          simp only [h1]
          simp only [Option.map_eq_some_iff] at h
          obtain ⟨o, ho, rfl⟩ := h
          simp only [ho, Option.map_some]
          have h5 : s.next + 2 ≤ r.2.next := h4
          refine ⟨by first | trivial | rfl, fun o' ho' => ?_⟩
          simp only [List.mem_cons, List.not_mem_nil, or_false] at ho'
          subst ho'
          have hA : bdA r.2.next { a with defers := (.ptr s.next 0, []) :: a.defers } = true := by
            have := bdA_mono (show s.next ≤ r.2.next by omega) ha
            simp only [bdA, bdD, List.all_cons, Bool.and_eq_true] at this ⊢
            exact ⟨this.1, ⟨by simp only [bd, Nat.blt_eq]; omega, rfl⟩, this.2⟩
          unfold rfunE at ho
          split at ho <;> simp only [Option.some.injEq, reduceCtorEq] at ho <;> subst ho <;> exact ⟨h2.drop _, hA, show s.next ≤ r.2.next by omega⟩
        · simp at h
      · simp at h
    · simp at h
  | .exit id, a, s, os, _, hw, ha, h => by
    simp only [lcF, Option.some.injEq] at h
    subst h
    exact ⟨rfl, fun o ho => by simp only [List.mem_cons, List.not_mem_nil, or_false] at ho; subst ho; exact ⟨hw, ha, Nat.le_refl _⟩⟩
  | .ret, a, s, os, _, hw, ha, h => by
    simp only [lcF, Option.some.injEq] at h
    subst h
    exact ⟨rfl, fun o ho => by simp only [List.mem_cons, List.not_mem_nil, or_false] at ho; subst ho; exact ⟨hw, ha, Nat.le_refl _⟩⟩

theorem settle_good {n : Nat} {rs : List (AV × SH)} {r : AV × SH} (h : settle n rs = some r) (hg : ∀ r' ∈ rs, GoodV G n r') : GoodV G n r := by
  have gh : ∀ {v : AV} {k : Nat} {h : List (Nat × AObj)}, ∀ p ∈ gcH n v k h, p ∈ h := by
    intro v k
    induction k with
    | zero => intro h p hp; exact hp
    | succ k ih => intro h p hp; exact (List.mem_filter.1 (ih p hp)).1
  unfold settle at h
  split at h
  · simp at h
  · simp only [Option.some.injEq] at h
    subst h
    exact hg _ List.mem_cons_self
  · rename_i r0 rs0 _
    split at h
    · simp only [Option.some.injEq] at h
      subst h
      obtain ⟨h1, h2, h3⟩ := hg r0 List.mem_cons_self
      exact ⟨h1.sub rfl (fun p hp => gh p hp) fun _ hb => hb, h2, h3⟩
    · simp at h

theorem putL_bd {n : Nat} : ∀ {ps : List Nat} {args : List AV} {a : AAct}, bdA n a = true → bdL n args = true → bdA n (putL ps args a) = true
  | [], _, _, ha, _ => by simpa [putL] using ha
  | _ :: _, [], _, ha, _ => by simpa [putL] using ha
  | t :: ps, v :: vs, a, ha, hv => by
    simp only [bdL, Bool.and_eq_true] at hv
    show bdA n (putL ps vs (a.put (some t) v)) = true
    exact putL_bd (bdA_put ha hv.1) hv.2

theorem rendS_good {l : Nat} {o : Out} {n : Nat} {r : AV × SH} (hg : GoodO G n o) (h : rendS l o = some r) : GoodV G n r := by
  unfold rendS at h
  split at h
  · rename_i env lr st hl
    obtain ⟨p1, p2, p3⟩ := hg.1.look hl
    split at h <;> simp only [Option.some.injEq, reduceCtorEq] at h <;> subst h <;> exact ⟨hg.1.set p1 p2 p3, rfl, hg.2.2⟩
  · simp at h

theorem roundF_eq {ent : FuncId → Bool} {f g : CallF} (hcall : CallEq G f g) {n l : Nat} {args : List AV} {r : AV × SH} (hw : WF G s) (hargs : bdL s.next args = true) (hl : l < s.next) (h : roundF G ent f n l args s = some r) :
    roundS G ent g n l args s = some r ∧ GoodV G s.next r := by
  unfold roundF at h
  unfold roundS
  split at h
  · rename_i env lr hlk
    obtain ⟨p1, p2, p3⟩ := hw.look hlk
    split at h
    · rename_i hlen
      simp only [hlk]
      rw [if_pos ⟨hlen, by simpa using hl⟩]
      have ha0 : bdA s.next ⟨env, [], lr.n⟩ = true := by
        simp only [bdA, Bool.and_eq_true]
        exact ⟨p2, rfl⟩
      split at h
      · rename_i os hos
        obtain ⟨h1, h2⟩ := lcF_eq hcall p3.1 hw (putL_bd ha0 hargs) hos
        simp only [h1]
        split at h
        · rename_i os2 hos2
          have := bindO_eq (g := rbodS (lcS G ent g n lr.bd) l) (P := GoodO G s.next) (fun o ho lx hlx => by
            have hg := h2 o (merge_sub ho)
            unfold rbodS at hlx ⊢
            split at hlx
            · rename_i env' lr' hex hl'
              obtain ⟨q1, q2, q3⟩ := hg.1.look hl'
              obtain ⟨g1, g2⟩ := lcF_eq hcall p3.2 (hg.1.set (o := .loop env' lr' .busy) q1 q2 q3) hg.2.1 hlx
              exact ⟨g1, fun y hy => (g2 y hy).trans hg.2.2⟩
            · simp at hlx) hos2
          obtain ⟨h3, h4⟩ := this
          simp only [h3]
          split at h
          · rename_i rs hrs
            refine ⟨Eq.trans (congrArg (fun q => match q with | some rs => settle s.next rs | none => none) hrs) h, settle_good h fun r' hr' => ?_⟩
            obtain ⟨o, ho, lx, hlx, hy⟩ := bindO_inv hrs r' hr'
            split at hlx
            · rename_i r'' hr''
              simp only [Option.some.injEq] at hlx
              subst hlx
              simp only [List.mem_cons, List.not_mem_nil, or_false] at hy
              subst hy
              exact rendS_good (h4 o (merge_sub ho)) hr''
            · simp at hlx
          · simp at h
        · simp at h
      · simp at h
    · simp at h
  · simp at h

theorem leaveF_eq {f g : CallF} (hcall : CallEq G f g) {a : AAct} : ∀ {ds : List (AV × List AV)} {s s' : SH}, WF G s → bdA s.next a = true → bdD s.next ds = true → leaveF f ds s = some s' → leaveS g a ds s = some s' ∧ WF G s' ∧ s.next ≤ s'.next
  | [], s, s', hw, _, _, h => by
    simp only [leaveF, Option.some.injEq] at h
    subst h
    exact ⟨rfl, hw, Nat.le_refl _⟩
  | (fv, xs) :: ds, s, s', hw, ha, hd, h => by
    have hd' := hd
    simp only [bdD, List.all_cons, Bool.and_eq_true] at hd'
    obtain ⟨⟨d1, d2⟩, d3⟩ := hd'
    have d3 : bdD s.next ds = true := d3
    simp only [leaveF] at h
    simp only [leaveS]
    rw [if_pos (by simp only [ha, d3, Bool.and_self])]
    split at h
    · rename_i fid first cap
      simp only [bd, Bool.and_eq_true] at d1
      split at h
      · rename_i r hr
        obtain ⟨h1, h2, h3, h4⟩ := hcall _ _ _ _ hw (bdL_app (bdL_app d1.1 d2) d1.2) hr (fun l hl => by simp at hl)
        simp only [h1]
        have hdm : bdD r.2.next ds = true := by
          simp only [bdD, Bool.and_eq_true, List.all_eq_true] at d3 ⊢
          exact fun p hp => ⟨bd_mono h4 (d3 p hp).1, bdL_mono h4 (d3 p hp).2⟩
        obtain ⟨g1, g2, g3⟩ := leaveF_eq hcall h2 (bdA_mono h4 ha) hdm h
        exact ⟨g1, g2, Nat.le_trans h4 g3⟩
      · simp at h
    · split at h
      · rename_i hr
        simp only [hr]
        exact leaveF_eq hcall (hw.drop _) ha d3 h
      · simp at h
    · simp at h

theorem loadA_bd (hw : WF G s) {n : Option Nat} {x v : AV} (hx : bd s.next x = true) (h : loadA s.toAH n x = some v) : bd s.next v = true := by
  have : quietV (fun _ => x) s.toAH (.load n (.t 0)) = some v := h
  exact quietV_bd hw rfl (fun o _ => hx) this

theorem resL_bd (hw : WF G s) {a : AAct} (ha : bdA s.next a = true) : ∀ {rvs : List RV} {l : List AV}, resL s.toAH a rvs = some l → bdL s.next l = true
  | [], l, h => by
    simp only [resL, Option.some.injEq] at h
    subst h
    rfl
  | .t t :: rs, l, h => by
    simp only [resL] at h
    split at h
    · rename_i l' hl'
      simp only [Option.some.injEq] at h
      subst h
      simp only [bdL, Bool.and_eq_true]
      exact ⟨bdA_get ha t, resL_bd hw ha hl'⟩
    · simp at h
  | .cell t n :: rs, l, h => by
    simp only [resL] at h
    split at h
    · rename_i v l' hv hl'
      simp only [Option.some.injEq] at h
      subst h
      simp only [bdL, Bool.and_eq_true]
      refine ⟨?_, resL_bd hw ha hl'⟩
      split at hv
      · rename_i b o hb
        have := bdA_get ha t
        rw [hb] at this
        exact loadA_bd hw this hv
      · simp at hv
    · simp at h
theorem packA_bd {n : Nat} {l : List AV} (h : bdL n l = true) : bd n (packA l) = true := by
  match l, h with
  | [], _ => rfl
  | [v], h => simpa [packA, bdL] using h
  | x :: y :: l, h => simpa [packA, bd] using h

theorem WF.unwalk (hw : WF G s) (n : Nat) : WF G (s.unwalk n) := by
  unfold SH.unwalk
  generalize (s.h.filterMap fun p => if Nat.ble n p.1 then (match p.2 with
    | .miter _ _ _ _ => some p.1
    | _ => none) else none) = l
  induction l generalizing s with
  | nil => exact hw
  | cons b l ih => exact ih (hw.drop b)

theorem endF_eq {f g : CallF} (hcall : CallEq G f g) {rvs : List RV} {n : Nat} {d : Bool} {o : Out} {r : AV × SH} {k : Nat} (hg : GoodO G k o) (h : endF f rvs n d o = some r) : endS g rvs n d o = some r ∧ GoodV G k r := by
  unfold endF at h
  unfold endS
  split at h
  · rename_i hex
    rw [if_pos hex]
    split at h
    · rename_i hds
      simp only [hds]
      refine ⟨h, ?_⟩
      simp only [Option.map_eq_some_iff] at h
      obtain ⟨l, hl, rfl⟩ := h
      refine ⟨hg.1.unwalk n, ?_, ?_⟩
      · show bd (o.s.unwalk n).next _ = true
        rw [next_unwalk]
        exact packA_bd (resL_bd hg.1 hg.2.1 hl)
      · show k ≤ (o.s.unwalk n).next
        rw [next_unwalk]
        exact hg.2.2
    · rename_i d0 ds hds
      split at h
      · rename_i hd
        simp only [hds]
        rw [if_pos ⟨hd, hg.2.1⟩]
        split at h
        · rename_i s2 hlv
          rw [hds] at hlv
          have hdd : bdD o.s.next (d0 :: ds) = true := by
            have := hg.2.1
            simp only [bdA, hds, Bool.and_eq_true] at this
            exact this.2
          obtain ⟨g1, g2, g3⟩ := leaveF_eq hcall hg.1 hg.2.1 hdd hlv
          simp only [g1]
          refine ⟨h, ?_⟩
          simp only [Option.map_eq_some_iff] at h
          obtain ⟨l, hl, rfl⟩ := h
          refine ⟨g2.unwalk n, ?_, ?_⟩
          · show bd (s2.unwalk n).next _ = true
            rw [next_unwalk]
            exact packA_bd (resL_bd g2 (bdA_mono g3 hg.2.1) hl)
          · show k ≤ (s2.unwalk n).next
            rw [next_unwalk]
            exact Nat.le_trans hg.2.2 g3
        · simp at h
      · simp at h
  · simp at h

theorem init_bd {n k : Nat} {args : List AV} (h : bdL n args = true) : bdA n (initA k args) = true := by
  have : ∀ (l : List AV) (i : Nat), bdL n l = true → (initEnv i l).all (fun p => bd n p.2) = true := by
    intro l
    induction l with
    | nil => intro i _; rfl
    | cons v l ih =>
      intro i h
      simp only [bdL, Bool.and_eq_true] at h
      simp only [initEnv, List.all_cons, Bool.and_eq_true]
      exact ⟨h.1, ih _ h.2⟩
  simp only [bdA, initA, Bool.and_eq_true]
  exact ⟨this args 0 h, rfl⟩

/-- What natives answer names only what was named. -/
def NatGood (G : Nat → Option AV) (nat : NatF) : Prop := ∀ f args s r, WF G s → bdL s.next args = true → nat f args s = some r → GoodV G s.next r

theorem callF_eq {T : Nat → Option (LC × List RV × Nat)} {nat : NatF} (hT : ∀ f lc rvs k, T f = some (lc, rvs, k) → okLC G lc = true) (hnat : NatGood G nat) {n : Nat} : ∀ (k : Nat) (d : Bool), CallEq G (callF T G nat n k d) (callS T G nat n k d)
  | 0, _ => fun c args s r _ _ h _ => by simp [callF] at h
  | k + 1, d => fun c args s r hw hargs h hyl => by
    have ihc := callF_eq hT hnat (n := n) k false
    have ihd := callF_eq hT hnat (n := n) k true
    cases c with
    | yl l =>
      simp only [callF] at h
      simp only [callS]
      split at h
      · simp at h
      · rename_i hd
        rw [if_neg hd]
        exact roundF_eq ihc hw hargs (hyl l rfl) h
    | fn f =>
      simp only [callF] at h
      simp only [callS]
      split at h
      · rename_i r' hr
        simp only [hr]
        simp only [Option.some.injEq] at h
        subst h
        refine ⟨rfl, ?_⟩
        split at hr
        · simp at hr
        · exact hnat f args s r' hw hargs hr
      rename_i hnone
      simp only [hnone]
      split at h
      · simp at h
      · rename_i lc rvs mm hTf
        simp only [hTf]
        split at h
        · rename_i hlen
          rw [if_pos hlen]
          split at h
          · rename_i os hos
            obtain ⟨h1, h2⟩ := lcF_eq ihc (hT _ _ _ _ hTf) hw (init_bd hargs) hos
            simp only [h1]
            split at h
            · rename_i rs hrs
              obtain ⟨h3, h4⟩ := one_eq (g := endS (callS T G nat n k true) rvs s.next d) (P := GoodV G s.next) (fun o ho r' hr' => endF_eq ihd (h2 o (merge_sub ho)) hr') hrs
              refine ⟨?_, settle_good h h4⟩
              refine Eq.trans ?_ h
              exact congrArg (fun q => match q with | some rs => settle s.next rs | none => none) h3
            · simp at h
          · simp at h
        · simp at h

theorem WF.empty : WF G ⟨[], [], 0⟩ := ⟨fun _ _ h => by simp at h, fun _ h => by simp at h⟩

end
end Go.Scr
