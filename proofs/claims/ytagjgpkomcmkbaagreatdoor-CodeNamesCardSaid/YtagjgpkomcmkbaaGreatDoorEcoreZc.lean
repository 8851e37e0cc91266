/- What is reckoned names only what was named: part 29 of a program logic over the model. No condition. -/
import Derived.Test.YtagjgpkomcmkbaaGreatDoorEcoreZb
namespace Go.Scr
open Go

/-- Two ways to name: they part from 'n' on. -/
def nm0 : Nm := fun x => (x, 0)
def nm1 (n : Nat) : Nm := fun x => (if x < n then x else x + 1, 0)
theorem nm_agree (n : Nat) : Nm.agree n nm0 (nm1 n) := fun x hx => by simp [nm0, nm1, hx]
theorem nm_part {n x : Nat} (h : (nm0 x).1 = (nm1 n x).1) : x < n := by
  simp only [nm0, nm1] at h
  split at h
  · assumption
  · omega

mutual
theorem bd_of_ren {n : Nat} : ∀ {v : AV}, ren nm0 v = ren (nm1 n) v → bd n v = true
  | .undef, _ | .bool _, _ | .int _ _, _ | .str _, _ | .nilptr, _ | .nil, _ | .nilFunc, _ | .nilIface, _ => rfl
  | .ptr b o, h => by
    simp only [ren, AV.ptr.injEq, and_true] at h
    simpa [bd] using nm_part h
  | .yield b, h => by
    simp only [ren, AV.yield.injEq] at h
    simpa [bd] using nm_part h
  | .rptr cs, h => by
    simp only [ren, AV.rptr.injEq] at h
    simpa [bd] using bdL_of_ren h
  | .list z none xs, h => by
    simp only [ren, AV.list.injEq, true_and, Option.map_none] at h
    simpa [bd] using bdL_of_ren h
  | .list z (some t) xs, h => by
    simp only [ren, AV.list.injEq, true_and, Option.map_some, Option.some.injEq] at h
    simp only [bd, Bool.and_eq_true, Nat.blt_eq]
    exact ⟨nm_part (congrArg Prod.fst h.1), bdL_of_ren h.2⟩
  | .slice z b o k, h => by
    simp only [ren, AV.slice.injEq, true_and, and_true] at h
    simpa [bd] using nm_part h
  | .map none, _ => rfl
  | .map (some b), h => by
    simp only [ren, AV.map.injEq, Option.map_some, Option.some.injEq] at h
    simpa [bd] using nm_part h
  | .func f xs ys, h => by
    simp only [ren, AV.func.injEq, true_and] at h
    simp only [bd, Bool.and_eq_true]
    exact ⟨bdL_of_ren h.1, bdL_of_ren h.2⟩
  | .iface t v, h => by
    simp only [ren, AV.iface.injEq, true_and] at h
    simpa [bd] using bd_of_ren h
  | .agg xs, h => by
    simp only [ren, AV.agg.injEq] at h
    simpa [bd] using bdL_of_ren h
  | .tuple xs, h => by
    simp only [ren, AV.tuple.injEq] at h
    simpa [bd] using bdL_of_ren h
theorem bdL_of_ren {n : Nat} : ∀ {l : List AV}, renL nm0 l = renL (nm1 n) l → bdL n l = true
  | [], _ => rfl
  | v :: l, h => by
    simp only [renL, List.cons.injEq] at h
    simp only [bdL, Bool.and_eq_true]
    exact ⟨bd_of_ren h.1, bdL_of_ren h.2⟩
end

theorem bdL_iff {n : Nat} {l : List AV} : bdL n l = true ↔ ∀ x ∈ l, bd n x = true := by
  induction l with
  | nil => simp [bdL]
  | cons v l ih => simp [bdL, ih]
theorem bdL_app {n : Nat} {l l' : List AV} (h : bdL n l = true) (h' : bdL n l' = true) : bdL n (l ++ l') = true := by
  rw [bdL_iff] at *
  exact fun x hx => (List.mem_append.1 hx).elim (h x) (h' x)
theorem bdL_take {n k : Nat} {l : List AV} (h : bdL n l = true) : bdL n (l.take k) = true := by
  rw [bdL_iff] at *
  exact fun x hx => h x (List.mem_of_mem_take hx)
theorem bdL_drop {n k : Nat} {l : List AV} (h : bdL n l = true) : bdL n (l.drop k) = true := by
  rw [bdL_iff] at *
  exact fun x hx => h x (List.mem_of_mem_drop hx)
theorem bd_cells {n : Nat} {v : AV} (h : bd n v = true) : bdL n v.cells = true := by
  cases v <;> first | simpa [AV.cells, bdL] using h | simpa [AV.cells, bd] using h
theorem bdL_flat {n : Nat} {l : List AV} (h : bdL n l = true) : bdL n (AV.flat l) = true := by
  rw [bdL_iff] at *
  intro x hx
  simp only [AV.flat, List.mem_flatMap] at hx
  obtain ⟨y, hy, hx⟩ := hx
  exact bdL_iff.1 (bd_cells (h y hy)) x hx
theorem bdL_map {n : Nat} {f : Opd → AV} {l : List Opd} (h : ∀ o ∈ l, bd n (f o) = true) : bdL n (l.map f) = true := by
  rw [bdL_iff]
  intro x hx
  obtain ⟨o, ho, rfl⟩ := List.mem_map.1 hx
  exact h o ho
theorem bdL_group {n : Nat} {ag : Bool} {z : Nat} : ∀ {k : Nat} {l : List AV}, bdL n l = true → bdL n (groupA ag z k l) = true
  | 0, _, _ => rfl
  | k + 1, l, h => by
    simp only [groupA, bdL, Bool.and_eq_true]
    refine ⟨?_, bdL_group (bdL_drop h)⟩
    split
    · simpa [bd] using bdL_take h
    · cases l with
      | nil => rfl
      | cons x l => simp only [bdL, Bool.and_eq_true] at h; exact h.1

/-- Are the constants that stand in it without names, and the listed variables it looks at? -/
def okI (G : Nat → Option AV) : I1 → Bool
  | .same i => i.quiet && i.closed && i.opds.all (okOpd G)
  | i => i.closed && i.opds.all (okOpd G)
def okL1 (G : Nat → Option AV) (l : L1) : Bool := okI G l.op
def okGT (G : Nat → Option AV) : GT → Bool
  | .done => true
  | .st l t => l.all (okL1 G) && okGT G t
  | .br t u => okGT G t && okGT G u
def okLC (G : Nat → Option AV) : LC → Bool
  | .skip | .exit _ | .ret => true
  | .reg l _ => l.all (okL1 G)
  | .drw t _ => okGT G t
  | .seq x y => okLC G x && okLC G y
  | .cond c x y => okOpd G c && okLC G x && okLC G y
  | .block _ x | .loop x | .scope x => okLC G x
  | .rfun g _ x y => okOpd G g && okLC G x && okLC G y

def okLr (G : Nat → Option AV) : AObj → Prop
  | .loop _ lr _ => okLC G lr.as = true ∧ okLC G lr.bd = true
  | _ => True

/-- A heap that names only what was named. -/
structure WF (G : Nat → Option AV) (s : SH) : Prop where
  obj : ∀ b o, (b, o) ∈ s.h → b < s.next ∧ bdO s.next o = true ∧ okLr G o
  tip : ∀ b, b ∈ s.t → b < s.next

section
variable {G : Nat → Option AV} {s : SH}

theorem WF.room (h : WF G s) : s.room = true := by
  simp only [SH.room, Bool.and_eq_true, List.all_eq_true, Bool.not_eq_true']
  refine ⟨fun p hp => (h.obj p.1 p.2 hp).2.1, ?_⟩
  simp only [SH.live, Bool.or_eq_false_iff]
  constructor
  · cases hq : s.h.lookup s.next with
    | none => rfl
    | some o => have := (h.obj _ _ (lookup_mem hq)).1; omega
  · cases hq : s.t.contains s.next with
    | false => rfl
    | true => have := h.tip _ (List.contains_iff_mem.1 hq); omega
theorem WF.look (h : WF G s) {b : Nat} {o : AObj} (hb : s.h.lookup b = some o) : b < s.next ∧ bdO s.next o = true ∧ okLr G o := h.obj b o (lookup_mem hb)
theorem bdO_mono {n n' : Nat} (h : n ≤ n') {o : AObj} (hb : bdO n o = true) : bdO n' o = true := by
  cases o with
  | cells vs => exact bdL_mono h hb
  | map es c =>
    simp only [bdO, List.all_eq_true, Bool.and_eq_true] at hb ⊢
    exact fun x hx => ⟨bd_mono h (hb x hx).1, bd_mono h (hb x hx).2⟩
  | siter _ _ => rfl
  | dfr => rfl
  | miter r a b c =>
    cases r with
    | none => rfl
    | some x => simp only [bdO, Nat.blt_eq] at hb ⊢; omega
  | loop env lr st =>
    simp only [bdO, List.all_eq_true] at hb ⊢
    exact fun x hx => bd_mono h (hb x hx)
theorem WF.push (h : WF G s) {o : AObj} (ho : bdO s.next o = true) (hl : okLr G o) : WF G (s.push o) where
  obj b o' hb := by
    simp only [SH.push, List.mem_cons, Prod.mk.injEq] at hb ⊢
    rcases hb with ⟨rfl, rfl⟩ | hb
    · exact ⟨by omega, bdO_mono (Nat.le_succ _) ho, hl⟩
    · obtain ⟨p1, p2, p3⟩ := h.obj b o' hb
      exact ⟨by omega, bdO_mono (Nat.le_succ _) p2, p3⟩
  tip b hb := Nat.lt_succ_of_lt (h.tip b hb)
theorem WF.pushT (h : WF G s) : WF G s.pushT where
  obj b o' hb := by
    obtain ⟨p1, p2, p3⟩ := h.obj b o' hb
    exact ⟨Nat.lt_succ_of_lt p1, bdO_mono (Nat.le_succ _) p2, p3⟩
  tip b hb := by
    simp only [SH.pushT, List.mem_cons] at hb ⊢
    rcases hb with rfl | hb
    · omega
    · exact Nat.lt_succ_of_lt (h.tip b hb)
theorem mem_setO {b : Nat} {o : AObj} {b' : Nat} {o' : AObj} : ∀ {l : List (Nat × AObj)}, (b', o') ∈ setO b o l → (b', o') = (b, o) ∨ (b', o') ∈ l
  | [], h => by simpa [setO] using h
  | x :: l, h => by
    simp only [setO] at h
    split at h
    · rcases List.mem_cons.1 h with h | h
      · exact .inl h
      · exact .inr (List.mem_cons_of_mem _ h)
    · rcases List.mem_cons.1 h with h | h
      · exact .inr (h ▸ List.mem_cons_self)
      · exact (mem_setO h).imp id (List.mem_cons_of_mem _)
theorem WF.set (h : WF G s) {b : Nat} {o : AObj} (hb : b < s.next) (ho : bdO s.next o = true) (hl : okLr G o) : WF G (s.set b o) where
  obj b' o' hb' := by
    rcases mem_setO hb' with hq | hq
    · obtain ⟨rfl, rfl⟩ := Prod.mk.inj hq
      exact ⟨hb, ho, hl⟩
    · exact h.obj b' o' hq
  tip b hb := h.tip b hb
theorem WF.sub (h : WF G s) {s' : SH} (hn : s'.next = s.next) (hh : ∀ p ∈ s'.h, p ∈ s.h) (ht : ∀ b ∈ s'.t, b ∈ s.t) : WF G s' where
  obj b o hb := by rw [hn]; exact h.obj b o (hh _ hb)
  tip b hb := by rw [hn]; exact h.tip b (ht b hb)
theorem WF.drop (h : WF G s) (b : Nat) : WF G (s.drop b) := h.sub rfl (fun _ hp => (List.mem_filter.1 hp).1) fun _ hb => hb
theorem WF.disown (h : WF G s) (b : Nat) : WF G (s.disown b) := h.sub rfl (fun _ hp => hp) fun _ hb => (List.mem_filter.1 hb).1

/-- A quiet instruction answers what names only what was named. -/
theorem quietV_bd (h : WF G s) {e : Opd → AV} {i : I1} (hc : i.closed = true) (he : ∀ o ∈ i.opds, bd s.next (e o) = true) {v : AV} (hv : quietV e s.toAH i = some v) : bd s.next v = true := by
  apply bd_of_ren
  let ρ : AH := ⟨fun b => (s.h.lookup b).map (renO nm0), fun _ => none⟩
  have r0 : Reads nm0 s.toAH ρ := fun b o hb => by
    have hb : s.h.lookup b = some o := hb
    simp [ρ, nm0, hb]
  have r1 : Reads (nm1 s.next) s.toAH ρ := fun b o hb => by
    have hb : s.h.lookup b = some o := hb
    obtain ⟨p1, p2, _⟩ := h.look hb
    rw [renO_agree (nm_agree s.next) p2]
    have : (nm1 s.next b).1 = b := by simp [nm1, p1]
    rw [this]
    simp [ρ, hb]
  have h0 := quietV_ren r0 hc hv
  have h1 := quietV_ren r1 hc hv
  have hcg : quietV (fun o => ren nm0 (e o)) ρ i = quietV (fun o => ren (nm1 s.next) (e o)) ρ i := quietV_congr fun o ho => (ren_agree (nm_agree s.next) (he o ho)).symm
  rw [h0, h1] at hcg
  exact Option.some.inj hcg

theorem fillA_bd {n : Nat} {cs cs' : List AV} {ps : List (Nat × Nat × AV)} (hc : bdL n cs = true) (hp : ∀ p ∈ ps, bd n p.2.2 = true) (h : fillA cs ps = some cs') : bdL n cs' = true := by
  apply bdL_of_ren
  have h0 := fillA_ren (m := nm0) h
  have h1 := fillA_ren (m := nm1 n) h
  have e1 : renL nm0 cs = renL (nm1 n) cs := (renL_agree (nm_agree n) hc).symm
  have e2 : (ps.map fun p => (p.1, p.2.1, ren nm0 p.2.2)) = ps.map fun p => (p.1, p.2.1, ren (nm1 n) p.2.2) := by
    apply List.map_congr_left
    intro p hp'
    rw [ren_agree (nm_agree n) (hp p hp')]
  rw [e1, e2, h1] at h0
  exact (Option.some.inj h0).symm

theorem elemsA_bd (h : WF G s) {ag : Bool} {z : Nat} {x : AV} {ys : List AV} (hx : bd s.next x = true) (hv : elemsA s.toAH ag z x = some ys) : bdL s.next ys = true := by
  unfold elemsA at hv
  split at hv
  · simp only [Option.some.injEq] at hv; subst hv; rfl
  · rename_i z' t xs
    split at hv
    · simp only [Option.some.injEq] at hv
      subst hv
      cases t <;> simp only [bd, Bool.and_eq_true] at hx <;> exact hx.2
    · simp at hv
  · split at hv
    · split at hv
      · rename_i vs hb
        split at hv
        · simp only [Option.some.injEq] at hv
          subst hv
          exact bdL_group (bdL_drop (h.look hb).2.1)
        · simp at hv
      · simp at hv
    · simp at hv
  · simp at hv

def bdE (n : Nat) (es : List (AV × AV × Nat)) : Prop := ∀ x ∈ es, bd n x.1 = true ∧ bd n x.2.1 = true
theorem bdE_map {n : Nat} {es : List (AV × AV × Nat)} {c : Nat} : bdO n (.map es c) = true ↔ bdE n es := by simp [bdO, bdE]
theorem updA_bd {n : Nat} {ag : Bool} {ks : List Nat} {k v : AV} (hk : bd n k = true) (hv : bd n v = true) {c : Nat} : ∀ {es es' : List (AV × AV × Nat)} {c' : Nat}, bdE n es → updA ag ks k v c es = some (es', c') → bdE n es'
  | [], es', c', _, h => by
    simp only [updA, Option.some.injEq, Prod.mk.injEq] at h
    obtain ⟨rfl, rfl⟩ := h
    intro x hx
    simp only [List.mem_cons, List.not_mem_nil, or_false] at hx
    subst hx
    exact ⟨hk, hv⟩
  | (k', v', i) :: es, es', c', he, h => by
    simp only [updA] at h
    split at h
    · simp only [Option.some.injEq, Prod.mk.injEq] at h
      obtain ⟨rfl, rfl⟩ := h
      intro x hx
      rcases List.mem_cons.1 hx with rfl | hx
      · exact ⟨hk, hv⟩
      · exact he x (List.mem_cons_of_mem _ hx)
    · split at h
      · rename_i es'' c'' hu
        simp only [Option.some.injEq, Prod.mk.injEq] at h
        obtain ⟨rfl, rfl⟩ := h
        intro x hx
        rcases List.mem_cons.1 hx with rfl | hx
        · exact he _ List.mem_cons_self
        · exact updA_bd hk hv (fun y hy => he y (List.mem_cons_of_mem _ hy)) hu x hx
      · simp at h
    · simp at h
theorem bdE_set {n : Nat} {es : List (AV × AV × Nat)} (h : bdE n es) {i : Nat} {x : AV × AV × Nat} (hx : bd n x.1 = true ∧ bd n x.2.1 = true) : bdE n (es.set i x) := fun y hy => by
  rcases List.mem_or_eq_of_mem_set hy with hy | rfl
  · exact h y hy
  · exact hx

end
end Go.Scr
