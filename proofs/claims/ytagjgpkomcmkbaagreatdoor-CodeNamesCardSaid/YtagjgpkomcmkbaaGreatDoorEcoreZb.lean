/- An interpreter for lowered texts, and that what it answers is what the program answers: part 28 of a program logic over the model: functions. No condition but that each function was lowered. -/
import Derived.Test.YtagjgpkomcmkbaaGreatDoorEcoreZa
namespace Go.Scr
open Go

section
variable {X : Ctx} {m : Nm} {φ : AH} {s : SH} {σ : AH} {G : Nat → Option AV}

theorem resL_ren (hh : Reads m s.toAH σ) {a : AAct} : ∀ {rvs : List RV} {l : List AV}, resL s.toAH a rvs = some l → resL σ (renA m a) rvs = some (renL m l)
  | [], l, h => by
    simp only [resL, Option.some.injEq] at h
    subst h
    rfl
  | .t t :: rs, l, h => by
    simp only [resL] at h ⊢
    split at h
    · rename_i l' hl'
      simp only [Option.some.injEq] at h
      subst h
      rw [resL_ren hh hl', get_renA]
      rfl
    · simp at h
  | .cell t n :: rs, l, h => by
    simp only [resL] at h ⊢
    split at h
    · rename_i v l' hv hl'
      simp only [Option.some.injEq] at h
      subst h
      rw [resL_ren hh hl', get_renA]
      split at hv
      · rename_i b o hb
        have := loadA_ren hh hv
        rw [hb]
        simp only [ren] at this ⊢
        rw [this]
        rfl
      · simp at hv
    · simp at h

theorem packA_ren (l : List AV) : packA (renL m l) = ren m (packA l) := by
  match l with
  | [] => rfl
  | [v] => rfl
  | _ :: _ :: _ => rfl

theorem le_refl' (σ : AH) : σ.le σ := ⟨fun _ _ h => h, fun _ _ h => h⟩

theorem finish_ren {a : AAct} {rvs : List RV} {l : List AV} (hl : resL s.toAH a rvs = some l) {m' : Nm} (h : Sim m' φ s σ) {R : AV → AH → Prop} (hR : R (ren m' (packA l)) σ) : finishA rvs R (renA m' a) σ := by
  unfold finishA
  rw [resL_ren h.reads hl]
  exact ⟨_, σ, .refl _, le_refl' σ, by rw [packA_ren]; exact hR⟩

theorem ECallsD.mono {f : FuncId} {args : List AV} {R R' : AH → Prop} (h : ECallsD X f args σ R) (hr : ∀ σ', R σ' → R' σ') : ECallsD X f args σ R' := by
  intro I w cargs h1 h2
  obtain ⟨c1, c2⟩ := h I w cargs h1 h2
  refine ⟨c1, c2.mono fun e u w' hq => ?_⟩
  obtain ⟨cv, I', σ', g1, g2, g3, g4⟩ := hq
  exact ⟨cv, I', σ', g1, g2, hr _ g3, g4⟩

theorem leaveS_sound {dcall : CallF} (hd : DefOk X dcall) {a : AAct} : ∀ {ds : List (AV × List AV)} {s s' : SH}, leaveS dcall a ds s = some s' →
    s.next ≤ s'.next ∧ ∀ {m φ σ}, Sim m φ s σ → ∀ {K : AH → Prop}, (∀ m' σ', Nm.agree s.next m m' → Sim m' φ s' σ' → K σ') → leaveA X K (renD m ds) σ
  | [], s, s', hs => by
    simp only [leaveS, Option.some.injEq] at hs
    subst hs
    exact ⟨Nat.le_refl _, fun {m φ σ} h {K} hK => hK m σ (Nm.agree.refl _ _) h⟩
  | (f, xs) :: ds, s, s', hs => by
    simp only [leaveS] at hs
    split at hs
    · rename_i hb
      simp only [Bool.and_eq_true] at hb
      split at hs
      · rename_i fid first cap
        split at hs
        · rename_i r hr
          obtain ⟨v, s1⟩ := r
          obtain ⟨p1, p2⟩ := hd _ _ _ _ _ hr
          obtain ⟨q1, q2⟩ := leaveS_sound hd hs
          refine ⟨Nat.le_trans p1 q1, fun {m φ σ} h {K} hK => ?_⟩
          simp only [renD, List.map_cons, leaveA, ren, ECallVD]
          have := p2 m φ σ h
          simp only [List.map_append] at this
          rw [renL_map, renL_map]
          refine this.mono fun σ' hq => ?_
          obtain ⟨m', g1, g2⟩ := hq
          have hds := renD_agree g1 hb.2
          simp only [renD] at hds
          rw [← hds]
          exact q2 g2 fun m'' σ'' hag h'' => hK m'' σ'' (g1.trans hag p1) h''
        · simp at hs
      · rename_i r o
        split at hs
        · rename_i hr
          obtain ⟨q1, q2⟩ := leaveS_sound hd hs
          refine ⟨q1, fun {m φ σ} h {K} hK => ?_⟩
          simp only [renD, List.map_cons, leaveA, ren]
          have hσ := h.heap _ _ hr
          exact ⟨hσ, q2 (h.drop hr) fun m'' σ'' hag h'' => hK m'' σ'' hag h''⟩
        · simp at hs
      · simp at hs
    · simp at hs

/-- How a function ends, of one that isn't deferred. -/
theorem endS_sound {dcall : CallF} (hd : DefOk X dcall) {rvs : List RV} {n : Nat} {o : Out} {v : AV} {s' : SH} (h : endS dcall rvs n false o = some (v, s')) :
    o.s.next ≤ s'.next ∧ ∀ {m φ σ}, Sim m φ o.s σ → ∀ {R : AV → AH → Prop}, (∀ m' σ', Nm.agree o.s.next m m' → Sim m' φ s' σ' → R (ren m' v) σ') → funPost X rvs R o.ex (renA m o.a) σ := by
  unfold endS at h
  split at h
  · rename_i hex
    have ends : ∀ {m : Nm} {σ : AH} {R : AV → AH → Prop}, leaveA X (finishA rvs R (renA m o.a)) (renA m o.a).defers σ → funPost X rvs R o.ex (renA m o.a) σ := fun {m σ R} hl => by
      cases hq : o.ex <;> rw [hq] at hex <;> first | exact hl | simp [endsS] at hex
    split at h
    · rename_i hds
      simp only [Option.map_eq_some_iff, Prod.mk.injEq] at h
      obtain ⟨l, hl, rfl, rfl⟩ := h
      refine ⟨Nat.le_of_eq (next_unwalk _ _).symm, fun {m φ σ} hsim {R} hR => ends ?_⟩
      have e : (renA m o.a).defers = [] := by simp [renA, renD, hds]
      rw [e]
      exact finish_ren hl hsim (hR m σ (Nm.agree.refl _ _) (hsim.unwalk n))
    · split at h
      · rename_i hdb
        split at h
        · rename_i s2 hlv
          simp only [Option.map_eq_some_iff, Prod.mk.injEq] at h
          obtain ⟨l, hl, rfl, rfl⟩ := h
          obtain ⟨q1, q2⟩ := leaveS_sound hd hlv
          refine ⟨by rw [next_unwalk]; exact q1, fun {m φ σ} hsim {R} hR => ends ?_⟩
          refine q2 hsim fun m' σ' hag h' => ?_
          rw [← renA_agree hag hdb.2]
          exact finish_ren hl h' (hR m' σ' hag (h'.unwalk n))
        · simp at h
      · simp at h
  · simp at h

/-- How a function ends that was deferred. -/
theorem endS_deferred {dcall : CallF} {rvs : List RV} {n : Nat} {o : Out} {v : AV} {s' : SH} (h : endS dcall rvs n true o = some (v, s')) :
    o.s.next ≤ s'.next ∧ ∀ {m φ σ}, Sim m φ o.s σ → ∀ {R : AH → Prop}, (∀ σ', Sim m φ s' σ' → R σ') → (match o.ex with
      | .normal => (renA m o.a).defers = [] ∧ finishA rvs (fun _ σ => R σ) (renA m o.a) σ
      | .ret => (renA m o.a).defers = [] ∧ finishA rvs (fun _ σ => R σ) (renA m o.a) σ
      | _ => False) := by
  unfold endS at h
  split at h
  · rename_i hex
    split at h
    · rename_i hds
      simp only [Option.map_eq_some_iff, Prod.mk.injEq] at h
      obtain ⟨l, hl, rfl, rfl⟩ := h
      refine ⟨Nat.le_of_eq (next_unwalk _ _).symm, fun {m φ σ} hsim {R} hR => ?_⟩
      have fin : (renA m o.a).defers = [] ∧ finishA rvs (fun _ σ => R σ) (renA m o.a) σ := ⟨by simp [renA, renD, hds], finish_ren hl hsim (hR σ (hsim.unwalk n))⟩
      cases hq : o.ex <;> rw [hq] at hex <;> first | exact fin | simp [endsS] at hex
    · simp at h
  · simp at h

/-- The second heap knows no more than the first one. -/
def Less (r r' : AV × SH) : Prop := r'.1 = r.1 ∧ r'.2.next = r.2.next ∧ r'.2.t = r.2.t ∧ ∀ b o, r'.2.h.lookup b = some o → r.2.h.lookup b = some o
theorem Less.refl (r : AV × SH) : Less r r := ⟨rfl, rfl, rfl, fun _ _ h => h⟩
theorem Less.sim {r r' : AV × SH} (h : Less r r') (hs : Sim m φ r.2 σ) : Sim m φ r'.2 σ := hs.forget h.2.2.2 h.2.2.1

theorem lookup_filter_sub {q : Nat → Bool} {b : Nat} {o : AObj} : ∀ {l : List (Nat × AObj)}, (l.filter fun p => q p.1).lookup b = some o → l.lookup b = some o
  | [], h => by simp at h
  | (y, v) :: l, h => by
    simp only [List.lookup_cons]
    by_cases hy : b = y
    · subst hy
      cases hq : q b with
      | true =>
        simp only [List.filter_cons, hq, if_true, List.lookup_cons, beq_self_eq_true] at h
        simp only [beq_self_eq_true]
        exact h
      | false =>
        exfalso
        have : ∀ l : List (Nat × AObj), (l.filter fun p => q p.1).lookup b = none := by
          intro l
          induction l with
          | nil => rfl
          | cons x l ih =>
            simp only [List.filter_cons]
            split
            · rename_i hx
              obtain ⟨x1, x2⟩ := x
              simp only [List.lookup_cons]
              have : (b == x1) = false := by
                cases hbx : b == x1 with
                | false => rfl
                | true =>
                  have : b = x1 := by simpa using hbx
                  simp only at hx
                  rw [← this, hq] at hx
                  simp at hx
              simp only [this]
              exact ih
            · exact ih
        rw [this] at h
        simp at h
    · have h1 : (b == y) = false := by simpa using hy
      simp only [h1]
      simp only [List.filter_cons] at h
      split at h
      · simp only [List.lookup_cons, h1] at h
        exact lookup_filter_sub h
      · exact lookup_filter_sub h

theorem gcH_sub {n : Nat} {v : AV} {b : Nat} {o : AObj} : ∀ {k : Nat} {h : List (Nat × AObj)}, (gcH n v k h).lookup b = some o → h.lookup b = some o
  | 0, _, h => h
  | _ + 1, hh, h => lookup_filter_sub (q := fun x => Nat.blt x n || (nmV v).contains x || hh.any fun q => q.1 != x && (nmO q.2).contains x) (gcH_sub h)

theorem gcS_less (n : Nat) (r : AV × SH) : Less r (gcS n r) := ⟨rfl, rfl, rfl, fun _ _ h => gcH_sub h⟩

theorem settle_less {n : Nat} {rs : List (AV × SH)} {r : AV × SH} (h : settle n rs = some r) : (∀ r' ∈ rs, Less r' r) ∧ ∃ r', r' ∈ rs := by
  unfold settle at h
  split at h
  · simp at h
  · simp only [Option.some.injEq] at h
    subst h
    exact ⟨fun r' hr' => by simp only [List.mem_cons, List.not_mem_nil, or_false] at hr'; subst hr'; exact .refl _, _, List.mem_cons_self⟩
  · rename_i r0 rs0 _
    split at h
    · rename_i hall
      simp only [Option.some.injEq] at h
      subst h
      refine ⟨fun r' hr' => ?_, _, List.mem_cons_self⟩
      rcases List.mem_cons.1 hr' with rfl | hr'
      · exact gcS_less n _
      · have := List.all_eq_true.1 hall r' hr'
        simp only [Bool.and_eq_true] at this
        rw [← show gcS n r' = gcS n r0 from Prod.ext (eqv_sound this.1) (eqSH_sound this.2)]
        exact gcS_less n _
    · simp at h

/-- All outcomes answer one thing. -/
theorem one_of {α : Type} {f : α → Option (AV × SH)} {os : List α} {n : Nat} {r : AV × SH} (h : (match bindO (fun o => match f o with
      | some r => some [r]
      | none => none) os with
    | some rs => settle n rs
    | none => none) = some r) : (∀ o ∈ os, ∃ r', f o = some r' ∧ Less r' r) ∧ ∃ o, o ∈ os := by
  split at h
  · rename_i rs hb
    obtain ⟨h1, r0, h2⟩ := settle_less h
    refine ⟨fun o ho => ?_, ?_⟩
    · obtain ⟨lx, hlx, hsub⟩ := bindO_mem hb o ho
      split at hlx
      · rename_i r' hr'
        simp only [Option.some.injEq] at hlx
        subst hlx
        exact ⟨r', hr', h1 r' (hsub r' (by simp))⟩
      · simp at hlx
    · obtain ⟨o, ho, _⟩ := bindO_inv hb _ h2
      exact ⟨o, ho⟩
  · simp at h

theorem rendS_sound {l : Nat} {o : Out} {v : AV} {s' : SH} (h : rendS l o = some (v, s')) : o.s.next = s'.next ∧ ∀ {m φ σ}, Sim m φ o.s σ → ∀ {R : AV → AH → Prop}, (∀ σ', Sim m φ s' σ' → R (ren m v) σ') → rpost (m l).1 R o.ex (renA m o.a) σ := by
  unfold rendS at h
  split at h
  · rename_i env lr st hl
    split at h
    · rename_i hex
      simp only [Option.some.injEq, Prod.mk.injEq] at h
      obtain ⟨rfl, rfl⟩ := h
      refine ⟨rfl, fun {m φ σ} hsim {R} hR => ?_⟩
      rw [hex]
      exact ⟨_, _, _, hsim.heap _ _ hl, hR _ (hsim.set hl (.loop env lr .ready))⟩
    · rename_i hex
      simp only [Option.some.injEq, Prod.mk.injEq] at h
      obtain ⟨rfl, rfl⟩ := h
      refine ⟨rfl, fun {m φ σ} hsim {R} hR => ?_⟩
      rw [hex]
      exact ⟨_, _, _, hsim.heap _ _ hl, hR _ (hsim.set hl (.loop env lr (.done none)))⟩
    · rename_i id hex
      simp only [Option.some.injEq, Prod.mk.injEq] at h
      obtain ⟨rfl, rfl⟩ := h
      refine ⟨rfl, fun {m φ σ} hsim {R} hR => ?_⟩
      rw [hex]
      exact ⟨_, _, _, hsim.heap _ _ hl, hR _ (hsim.set hl (.loop env lr (.done (some id))))⟩
    · simp at h
  · simp at h

theorem putL_renA : ∀ (ps : List Nat) (args : List AV) (a : AAct), renA m (putL ps args a) = putL ps (args.map (ren m)) (renA m a)
  | [], _, _ => by simp [putL]
  | _ :: _, [], _ => by simp [putL]
  | t :: ps, v :: vs, a => by
    simp only [putL, List.map_cons]
    rw [putL_renA ps vs, put_renA]

theorem roundS_sound (hm : X.P.follows .mixedOrders = true) (hG : X.G = G) {ent : FuncId → Bool} (hent : ∀ f, ent f = true → Enters X.P f) {call : CallF} (hcall : CallOk X call) {n l : Nat} {args : List AV} {s s' : SH} {v : AV}
    (h : roundS G ent call n l args s = some (v, s')) : s.next ≤ s'.next ∧ ∀ m φ σ, Sim m φ s σ → EYield X (m l).1 (args.map (ren m)) σ fun v' σ' => ∃ m', Nm.agree s.next m m' ∧ v' = ren m' v ∧ Sim m' φ s' σ' := by
  unfold roundS at h
  split at h
  · rename_i env lr hl
    split at h
    · rename_i hlen
      obtain ⟨hlen, hlt⟩ := hlen
      have hlt : l < s.next := by simpa using hlt
      split at h
      · rename_i os hos
        obtain ⟨p1, p2⟩ := lcS_sound hG hent hcall hos
        split at h
        · rename_i os2 hos2
          obtain ⟨hall, o2, ho2⟩ := one_of h
          have inner : ∀ {o : Out}, o ∈ os → o.ex = .normal ∧ ∃ env' lr', o.s.h.lookup l = some (.loop env' lr' .ready) ∧ ∃ lx, lcS G ent call n lr.bd o.a (o.s.set l (.loop env' lr' .busy)) = some lx ∧ ∀ y ∈ lx, ∃ r', rendS l y = some r' ∧ Less r' (v, s') := fun {o} ho => by
            obtain ⟨lx, hlx, hsub⟩ := bindO_mem hos2 o (merge_mem ho)
            unfold rbodS at hlx
            split at hlx
            · rename_i env' lr' hex hl'
              exact ⟨hex, env', lr', hl', lx, hlx, fun y hy => hall y (merge_mem (hsub y hy))⟩
            · simp at hlx
          constructor
          · have ho2 := merge_sub ho2
            obtain ⟨o, ho, lx, hlx, hy⟩ := bindO_inv hos2 o2 ho2
            have ho := merge_sub ho
            obtain ⟨_, env', lr', hl', lx', hlx', hall'⟩ := inner ho
            unfold rbodS at hlx
            split at hlx
            · rename_i env'' lr'' hex hl''
              have e := (lcS_sound hG hent hcall hlx).1 o2 hy
              obtain ⟨⟨v2, s2⟩, hr2, hle⟩ := hall o2 (merge_mem ho2)
              have e2 := (rendS_sound hr2).1
              have e5 := hle.2.1
              simp only at e5
              have e3 := p1 o ho
              have e4 : (o.s.set l (.loop env'' lr'' .busy)).next = o.s.next := rfl
              omega
            · simp at hlx
          · intro m φ σ hsim
            have hl0 : σ.heap (m l).1 = some (.loop (env.map fun p => (p.1, ren m p.2)) lr .ready) := hsim.heap _ _ hl
            refine EYield.of hm (env := env.map fun p => (p.1, ren m p.2)) (lr := lr) ⟨hl0, by simpa using hlen, ?_⟩
            have e : putL lr.ps (args.map (ren m)) ⟨env.map fun p => (p.1, ren m p.2), [], lr.n⟩ = renA m (putL lr.ps args ⟨env, [], lr.n⟩) := by
              rw [putL_renA]
              rfl
            rw [e]
            refine p2 hsim fun o ho m' σ' hag h' => ?_
            obtain ⟨hex, env', lr', hl', lx, hlx, hall'⟩ := inner ho
            obtain ⟨q1, q2⟩ := lcS_sound hG hent hcall hlx
            rw [hex]
            have h1 := h'.heap _ _ hl'
            rw [hag l hlt] at h1
            refine ⟨_, _, h1, ?_⟩
            have h2 := h'.set hl' (.loop env' lr' .busy)
            rw [hag l hlt] at h2
            refine q2 h2 fun y hy m'' σ'' hag' h'' => ?_
            have hlt' : l < (o.s.set l (.loop env' lr' .busy)).next := Nat.lt_of_lt_of_le hlt (p1 o ho)
            obtain ⟨⟨v2, s2⟩, hr2, hle⟩ := hall' y hy
            have h3 := (rendS_sound hr2).2 h'' (R := fun v' σ' => ∃ m', Nm.agree s.next m m' ∧ v' = ren m' v ∧ Sim m' φ s' σ') fun σ₃ h3 => ⟨m'', hag.trans hag' (p1 o ho), by rw [show v = v2 from hle.1], hle.sim h3⟩
            rw [hag' l hlt', hag l hlt] at h3
            exact h3
        · simp at h
      · simp at h
    · simp at h
  · simp at h

theorem callS_sound {T : Nat → Option (LC × List RV × Nat)} {nat : NatF} {n : Nat} (hm : X.P.follows .mixedOrders = true) (hG : X.G = G) (hT : ∀ f lc rvs k, T f = some (lc, rvs, k) → Nonempty (Lowered X f lc rvs k)) (hnat : NatOk X nat) :
    ∀ k, CallOk X (callS T G nat n k false) ∧ DefOk X (callS T G nat n k true)
  | 0 => ⟨fun c args s v s' h => by simp [callS] at h, fun f args s v s' h => by simp [callS] at h⟩
  | k + 1 => by
    obtain ⟨ihc, ihd⟩ := callS_sound hm hG hT hnat (n := n) k
    have hent : ∀ f, (T f).isSome = true → Enters X.P f := fun f hf => by
      obtain ⟨⟨lc, rvs, j⟩, hq⟩ := Option.isSome_iff_exists.1 hf
      obtain ⟨L⟩ := hT _ _ _ _ hq
      exact L.callFunc
    constructor
    · intro c args s v s' h
      cases c with
      | yl l =>
        simp only [callS, Bool.false_eq_true, if_false] at h
        exact roundS_sound hm hG hent ihc h
      | fn f =>
        simp only [callS, Bool.false_eq_true, if_false] at h
        split at h
        · rename_i r hr
          simp only [Option.some.injEq] at h
          subst h
          exact hnat f args s v s' hr
        split at h
        · simp at h
        · rename_i lc rvs mm hTf
          obtain ⟨L⟩ := hT _ _ _ _ hTf
          split at h
          · rename_i hlen
            split at h
            · rename_i os hlc
              obtain ⟨p1, p2⟩ := lcS_sound hG hent ihc hlc
              obtain ⟨hall, o0, ho0⟩ := one_of h
              refine ⟨?_, fun m φ σ hsim => ?_⟩
              · obtain ⟨⟨v2, s2⟩, hr2, hle⟩ := hall o0 ho0
                have e1 := (endS_sound ihd hr2).1
                have e2 : s'.next = s2.next := hle.2.1
                have e3 := p1 o0 (merge_sub ho0)
                omega
              refine ECalls.of L (by simpa using hlen) ?_
              rw [← init_renA]
              refine p2 hsim fun o ho m' σ' hag h' => ?_
              obtain ⟨⟨v2, s2⟩, hr2, hle⟩ := hall o (merge_mem ho)
              exact (endS_sound ihd hr2).2 h' fun m'' σ'' hag' h'' => ⟨m'', hag.trans hag' (p1 o ho), by rw [show v = v2 from hle.1], hle.sim h''⟩
            · simp at h
          · simp at h
    · intro f args s v s' h
      simp only [callS, if_true] at h
      split at h
      · simp at h
      · rename_i lc rvs mm hTf
        obtain ⟨L⟩ := hT _ _ _ _ hTf
        split at h
        · rename_i hlen
          split at h
          · rename_i os hlc
            obtain ⟨p1, p2⟩ := lcS_sound hG hent ihc hlc
            obtain ⟨hall, o0, ho0⟩ := one_of h
            refine ⟨?_, fun m φ σ hsim => ?_⟩
            · obtain ⟨⟨v2, s2⟩, hr2, hle⟩ := hall o0 ho0
              have e1 := (endS_deferred hr2).1
              have e2 : s'.next = s2.next := hle.2.1
              have e3 := p1 o0 (merge_sub ho0)
              omega
            refine ECallsD.of L (by simpa using hlen) ?_
            rw [← init_renA]
            refine p2 hsim fun o ho m' σ' hag h' => ?_
            obtain ⟨⟨v2, s2⟩, hr2, hle⟩ := hall o (merge_mem ho)
            exact (endS_deferred hr2).2 h' fun σ'' h'' => ⟨m', hag, hle.sim h''⟩
          · simp at h
        · simp at h

end
end Go.Scr
