/- The interpreter without its looks at names, and that it answers what the other one answers: part 30 of a program logic over the model. No condition. -/
import Derived.Test.YtagjgpkomcmkbaaGreatDoorEcoreZc
namespace Go.Scr
open Go

def appendF (mode z bytes : Nat) (x : AV) (ys : List AV) (s : SH) : Option (AV × SH) :=
  match x with
  | .nil => match ys with
    | [] => some (.nil, s)
    | _ :: _ => if ys.length * bytes ≤ 140737488355328 then
        (if mode = 2 then some (.slice z s.next 0 ys.length, s.push (.cells (AV.flat ys)))
         else some (.list z (some (s.next, 0)) ys, s.pushT)) else none
  | .list z' (some t) xs => if z = z' ∧ s.t.contains t.1 = true ∧ (xs.length + ys.length) * bytes ≤ 140737488355328 ∧ (s.h.lookup t.1).isNone = true then some (.list z (some (s.next, 0)) (xs ++ ys), (s.disown t.1).pushT) else none
  | .slice z' b₀ o n => match s.h.lookup b₀ with
    | some (.cells vs) => if z = z' ∧ o = 0 ∧ n * z ≤ vs.length ∧ (n + ys.length) * bytes ≤ 140737488355328 ∧ s.t.contains b₀ = false then
        some (.slice z s.next 0 (n + ys.length), (s.drop b₀).push (.cells (vs.take (n * z) ++ AV.flat ys))) else none
    | _ => none
  | _ => none

def stepF (s : SH) (e : Opd → AV) : I1 → Option (AV × SH)
  | .alloc zero => some (.ptr s.next 0, s.push (.cells zero))
  | .box x => if (e x).ok = true then some (.ptr s.next 0, s.push (.cells (e x).cells)) else none
  | .blds mode ag z n zero parts => match fillA (List.replicate n zero).flatten (parts.map fun p => (p.1, p.2.1, e p.2.2)) with
    | none => none
    | some cs => match mode with
      | 0 => if grpOk ag cs = true then some (.list z none (groupA ag z n cs), s) else none
      | 1 => if grpOk ag cs = true then some (.list z (some (s.next, 0)) (groupA ag z n cs), s.pushT) else none
      | _ + 2 => some (.slice z s.next 0 n, s.push (.cells cs))
  | .mkmap => some (.map (some s.next), s.push (.map [] 0))
  | .mkslice z bytes zero l c => match e l, e c with
    | .int _ l, .int _ c => if 0 ≤ l ∧ l ≤ c ∧ c ≤ 9223372036854775807 ∧ c * bytes ≤ 140737488355328 then
        some (.slice z s.next 0 l.toNat, s.push (.cells (List.replicate c.toNat zero).flatten)) else none
    | _, _ => none
  | .append mode ag z bytes x y => match elemsA s.toAH ag z (e y) with
    | some ys => if (AV.flat ys).all AV.one = true then appendF mode z bytes (e x) ys s else none
    | none => none
  | .rng x => match e x with
    | .map none => some (.ptr s.next 0, s.push (.miter none 0 [] 0))
    | .map (some r) => match s.h.lookup r with
      | some (.map _ clock) => some (.ptr s.next 0, s.push (.miter (some r) clock [] clock))
      | _ => none
    | _ => none
  | i => stepSV s e i

def goF (G : Nat → Option AV) (call : CallF) (l : L1) (a : AAct) (s : SH) : Option (AAct × SH) :=
  match l.op with
  | .call f xs => match evG G a f with
    | .func fid first cap => (call (.fn fid) (first ++ xs.map (evG G a) ++ cap) s).map fun r => (a.put l.dst r.1, r.2)
    | .yield y => (call (.yl y) (xs.map (evG G a)) s).map fun r => (a.put l.dst r.1, r.2)
    | _ => none
  | .defer f xs => if isFunc (evG G a f) = true then some (AAct.put { a with defers := (evG G a f, xs.map (evG G a)) :: a.defers } l.dst .undef, s) else none
  | i => (stepF s (evG G a) i).map fun r => (a.put l.dst r.1, r.2)

def chkF (G : Nat → Option AV) (dst : Option Nat) (i : I1) (a : AAct) (s : SH) : Bool :=
  match quietV (evG G a) s.toAH i with
  | some v => (match dst with
    | none => true
    | some d => eqv v (a.get d))
  | none => false

def sameF (G : Nat → Option AV) (l : L1) (i : I1) (a : AAct) (s : SH) : Bool :=
  match l.guard with
  | none => chkF G l.dst i a s
  | some (g, want) => match a.get g with
    | .bool b => if b = want then chkF G l.dst i a s else true
    | .tuple [] => true
    | _ => false

def golF (G : Nat → Option AV) (call : CallF) (l : L1) (a : AAct) (s : SH) : Option (List (AAct × SH)) :=
  match l.op with
  | .nxt x => (nxtS s (evG G a x)).map fun os => os.map fun r => (a.put l.dst r.1, r.2)
  | _ => (goF G call l a s).map fun r => [r]

def oneF (G : Nat → Option AV) (call : CallF) (l : L1) (a : AAct) (s : SH) : Option (List (AAct × SH)) :=
  match l.op with
  | .same i => if sameF G l i a s = true then some [(a, s)] else none
  | _ => match l.guard with
    | none => golF G call l a s
    | some (g, want) => match a.get g with
      | .bool b => if b = want then golF G call l a s else some [(a.put l.dst (.tuple []), s)]
      | .tuple [] => some [(a.put l.dst (.tuple []), s)]
      | _ => none

def regF (G : Nat → Option AV) (call : CallF) : List L1 → AAct → SH → Option (List (AAct × SH))
  | [], a, s => some [(a, s)]
  | l :: ls, a, s => match oneF G call l a s with
    | some os => bindO (fun r => regF G call ls r.1 r.2) os
    | none => none

def gtF (G : Nat → Option AV) (call : CallF) : GT → AAct → SH → Option (List (AAct × SH))
  | .done, a, s => some [(a, s)]
  | .st l t, a, s => match regF G call l a s with
    | some os => bindO (fun r => gtF G call t r.1 r.2) os
    | none => none
  | .br t u, a, s => match gtF G call t a s, gtF G call u a s with
    | some x, some y => some (x ++ y)
    | _, _ => none

def lcF (G : Nat → Option AV) (ent : FuncId → Bool) (call : CallF) (n : Nat) : LC → AAct → SH → Option (List Out)
  | .skip, a, s => some [⟨.normal, a, s⟩]
  | .reg l keep, a, s => (regF G call l a s).map fun os => os.map fun r => ⟨.normal, r.1.keep keep, r.2⟩
  | .drw t keep, a, s => (gtF G call t a s).map fun os => os.map fun r => ⟨.normal, r.1.keep keep, r.2⟩
  | .seq x y, a, s => match lcF G ent call n x a s with
    | some os => bindO (fun o => match o.ex with
      | .normal => lcF G ent call n y o.a o.s
      | _ => some [o]) (merge os)
    | none => none
  | .cond c x y, a, s => match evG G a c with
    | .bool true => lcF G ent call n x a s
    | .bool false => lcF G ent call n y a s
    | _ => none
  | .block id x, a, s => (lcF G ent call n x a s).map fun os => os.map fun o => match o.ex with
    | .exit i => if i = id then ⟨.normal, o.a, o.s⟩ else o
    | _ => o
  | .loop x, a, s => loopS (lcF G ent call n x) n a s
  | .scope x, a, s => match lcF G ent call n x a s with
    | some os => if os.all (fun o => match o.ex with | .goto _ => false | _ => true) = true then some os else none
    | none => none
  | .rfun g ps x y, a, s => match evG G a g with
    | .func fid first cap => if ent fid = true then (match call (.fn fid) (first ++ [.yield (s.next + 1)] ++ cap) ((s.push .dfr).push (.loop a.env ⟨a.n, ps, x, y⟩ .ready)) with
      | some r => (rfunE { a with defers := (.ptr s.next 0, []) :: a.defers } (s.next + 1) r.2).map fun o => [o]
      | none => none) else none
    | _ => none
  | .exit id, a, s => some [⟨.exit id, a, s⟩]
  | .ret, a, s => some [⟨.ret, a, s⟩]

def roundF (G : Nat → Option AV) (ent : FuncId → Bool) (call : CallF) (n : Nat) (l : Nat) (args : List AV) (s : SH) : Option (AV × SH) :=
  match s.h.lookup l with
  | some (.loop env lr .ready) => if args.length = lr.ps.length then (match lcF G ent call n lr.as (putL lr.ps args ⟨env, [], lr.n⟩) s with
    | some os => match bindO (rbodS (lcF G ent call n lr.bd) l) (merge os) with
      | some os2 => match bindO (fun o => match rendS l o with
          | some r => some [r]
          | none => none) (merge os2) with
        | some rs => settle s.next rs
        | none => none
      | none => none
    | none => none) else none
  | _ => none

def leaveF (dcall : CallF) : List (AV × List AV) → SH → Option SH
  | [], s => some s
  | (f, xs) :: ds, s => (match f with
    | .func fid first cap => match dcall (.fn fid) (first ++ xs ++ cap) s with
      | some r => leaveF dcall ds r.2
      | none => none
    | .ptr r _ => match s.h.lookup r with
      | some .dfr => leaveF dcall ds (s.drop r)
      | _ => none
    | _ => none)

def endF (dcall : CallF) (rvs : List RV) (n : Nat) (d : Bool) (o : Out) : Option (AV × SH) :=
  if endsS o.ex = true then (match o.a.defers with
    | [] => (resL o.s.toAH o.a rvs).map fun l => (packA l, o.s.unwalk n)
    | _ :: _ => if d = false then (match leaveF dcall o.a.defers o.s with
      | some s2 => (resL s2.toAH o.a rvs).map fun l => (packA l, s2.unwalk n)
      | none => none) else none) else none

/-- A function, reckoned without looks at names. -/
def callF (T : Nat → Option (LC × List RV × Nat)) (G : Nat → Option AV) (nat : NatF) (n : Nat) : Nat → Bool → CallF
  | 0, _, _, _, _ => none
  | k + 1, d, .yl l, args, s => if d then none else roundF G (fun f => (T f).isSome) (callF T G nat n k false) n l args s
  | k + 1, d, .fn f, args, s => match (if d = true then none else nat f args s) with
    | some r => some r
    | none => match T f with
    | none => none
    | some (lc, rvs, m) => if args.length ≤ m then (match lcF G (fun f => (T f).isSome) (callF T G nat n k false) n lc (initA m args) s with
      | some os => match bindO (fun o => match endF (callF T G nat n k true) rvs s.next d o with
          | some r => some [r]
          | none => none) (merge os) with
        | some rs => settle s.next rs
        | none => none
      | none => none) else none

section
variable {G : Nat → Option AV} {s : SH}

theorem appendF_eq {mode z bytes : Nat} {x : AV} {ys : List AV} {r : AV × SH} (hw : WF G s) (hx : bd s.next x = true) (hy : bdL s.next ys = true) (h : appendF mode z bytes x ys s = some r) :
    appendS mode z bytes x ys s = some r ∧ bd r.2.next r.1 = true ∧ WF G r.2 := by
  unfold appendF at h
  unfold appendS
  split at h
  · split at h
    · simp only [Option.some.injEq] at h
      subst h
      exact ⟨rfl, rfl, hw⟩
    · split at h
      · rename_i hc
        simp only [hc, hw.room, bdL_flat hy, hy, and_self, if_true]
        split at h
        · rename_i hm
          simp only [Option.some.injEq] at h
          subst h
          simp only [hm, if_true, true_and]
          exact ⟨by simp [bd, SH.push], hw.push (bdL_flat hy) trivial⟩
        · rename_i hm
          simp only [Option.some.injEq] at h
          subst h
          simp only [hm, if_false, true_and]
          refine ⟨?_, hw.pushT⟩
          simp only [bd, SH.pushT, Bool.and_eq_true, Nat.blt_eq]
          exact ⟨Nat.lt_succ_self _, bdL_mono (Nat.le_succ _) hy⟩
      · simp at h
  · rename_i z' t xs
    split at h
    · rename_i hc
      obtain ⟨rfl, h1, h2, h3⟩ := hc
      simp only [Option.some.injEq] at h
      subst h
      have hxs : bdL s.next xs = true := by simp only [bd, Bool.and_eq_true] at hx; exact hx.2
      have hall := bdL_app hxs hy
      simp only [h1, h2, h3, (hw.disown t.1).room, hall, and_self, if_true, true_and]
      refine ⟨?_, (hw.disown t.1).pushT⟩
      simp only [bd, SH.pushT, SH.disown, Bool.and_eq_true, Nat.blt_eq]
      exact ⟨Nat.lt_succ_self _, bdL_mono (Nat.le_succ _) hall⟩
    · simp at h
  · rename_i z' b₀ o n
    split at h
    · rename_i vs hb
      split at h
      · rename_i hc
        obtain ⟨rfl, rfl, h1, h2, h3⟩ := hc
        simp only [Option.some.injEq] at h
        subst h
        have hall : bdL s.next (vs.take (n * z) ++ AV.flat ys) = true := bdL_app (bdL_take (hw.look hb).2.1) (bdL_flat hy)
        simp only [hb]
        rw [if_pos ⟨trivial, trivial, h1, h2, (hw.drop b₀).room, h3, hall⟩]
        exact ⟨rfl, by simp [bd, SH.push, SH.drop], (hw.drop b₀).push (o := .cells (vs.take (n * z) ++ AV.flat ys)) hall trivial⟩
      · simp at h
    · simp at h
  · simp at h

theorem zero_bd {n k : Nat} {zero : List AV} (h : bdL 0 zero = true) : bdL n (List.replicate k zero).flatten = true := by
  induction k with
  | zero => rfl
  | succ k ih => rw [List.replicate_succ, List.flatten_cons]; exact bdL_app (bdL_mono (Nat.zero_le _) h) ih

theorem stepF_eq {e : Opd → AV} {i : I1} {r : AV × SH} (hw : WF G s) (hc : i.closed = true) (he : ∀ o ∈ i.opds, bd s.next (e o) = true) (h : stepF s e i = some r) :
    stepSV s e i = some r ∧ bd r.2.next r.1 = true ∧ WF G r.2 := by
  have quiet : ∀ {j : I1}, j.closed = true → (∀ o ∈ j.opds, bd s.next (e o) = true) → (quietV e s.toAH j).map (fun v => (v, s)) = some r → bd r.2.next r.1 = true ∧ WF G r.2 := fun {j} hc he hs => by
    simp only [Option.map_eq_some_iff] at hs
    obtain ⟨u, hu, rfl⟩ := hs
    exact ⟨quietV_bd hw hc he hu, hw⟩
  have hroom := hw.room
  cases i <;> simp only [stepF] at h <;> try (refine ⟨h, ?_⟩; simp only [stepSV] at h; exact quiet hc he h)
  case store n x y =>
    refine ⟨h, ?_⟩
    simp only [stepSV] at h
    split at h
    · rename_i b o hx
      split at h
      · rename_i vs hb
        split at h
        · simp only [Option.some.injEq] at h
          subst h
          obtain ⟨p1, p2, _⟩ := hw.look hb
          have hy := bd_cells (he y (by simp [I1.opds]))
          exact ⟨rfl, hw.set p1 (show bdL s.next _ = true from bdL_app (bdL_app (bdL_take p2) hy) (bdL_drop p2)) trivial⟩
        · simp at h
      · simp at h
    · simp at h
  case alloc zero =>
    simp only [Option.some.injEq] at h
    subst h
    have hz : bdL s.next zero = true := bdL_mono (Nat.zero_le _) (show bdL 0 zero = true from hc)
    simp only [stepSV, hroom, hz, and_self, if_true, true_and]
    exact ⟨by simp [bd, SH.push], hw.push hz trivial⟩
  case box x =>
    split at h
    · rename_i hok
      simp only [Option.some.injEq] at h
      subst h
      have hz := bd_cells (he x (by simp [I1.opds]))
      simp only [stepSV, hroom, hok, hz, and_self, if_true, true_and]
      exact ⟨by simp [bd, SH.push], hw.push hz trivial⟩
    · simp at h
  case blds mode ag z n zero ps =>
    split at h
    · simp at h
    · rename_i cs hcs
      have hb : bdL s.next cs = true := fillA_bd (zero_bd (show bdL 0 zero = true from hc)) (fun p hp => by
        obtain ⟨q, hq, rfl⟩ := List.mem_map.1 hp
        exact he q.2.2 (by simp only [I1.opds, List.mem_map]; exact ⟨q, hq, rfl⟩)) hcs
      simp only [stepSV, hcs]
      split at h
      · split at h
        · rename_i hg
          simp only [Option.some.injEq] at h
          subst h
          simp only [hg, if_true, true_and]
          exact ⟨by simp only [bd, Bool.true_and]; exact bdL_group hb, hw⟩
        · simp at h
      · split at h
        · rename_i hg
          simp only [Option.some.injEq] at h
          subst h
          simp only [hg, hroom, hb, and_self, if_true, true_and]
          refine ⟨?_, hw.pushT⟩
          simp only [bd, SH.pushT, Bool.and_eq_true, Nat.blt_eq]
          exact ⟨Nat.lt_succ_self _, bdL_mono (Nat.le_succ _) (bdL_group hb)⟩
        · simp at h
      · simp only [Option.some.injEq] at h
        subst h
        simp only [hroom, hb, and_self, if_true, true_and]
        exact ⟨by simp [bd, SH.push], hw.push hb trivial⟩
  case mkmap =>
    simp only [Option.some.injEq] at h
    subst h
    simp only [stepSV, hroom, if_true, true_and]
    exact ⟨by simp [bd, SH.push], hw.push rfl trivial⟩
  case mkslice z bytes zero l c =>
    split at h
    · rename_i k1 l' k2 c' hl hcc
      split at h
      · rename_i hq
        simp only [Option.some.injEq] at h
        subst h
        have hz : bdL s.next (List.replicate c'.toNat zero).flatten = true := zero_bd (show bdL 0 zero = true from hc)
        simp only [stepSV, hl, hcc]
        rw [if_pos ⟨hq, hroom, hz⟩]
        exact ⟨rfl, by simp [bd, SH.push], hw.push hz trivial⟩
      · simp at h
    · simp at h
  case append mode ag z bytes x y =>
    split at h
    · rename_i ys hys
      split at h
      · rename_i hone
        obtain ⟨p1, p2, p3⟩ := appendF_eq hw (he x (by simp [I1.opds])) (elemsA_bd hw (he y (by simp [I1.opds])) hys) h
        simp only [stepSV, hys, hone, if_true]
        exact ⟨p1, p2, p3⟩
      · simp at h
    · simp at h
  case mapupd ag ks mm k y =>
    refine ⟨h, ?_⟩
    simp only [stepSV] at h
    split at h
    · rename_i r' hr
      split at h
      · rename_i es clock hb
        split at h
        · simp at h
        · split at h
          · rename_i es' c' hu
            simp only [Option.some.injEq] at h
            subst h
            obtain ⟨p1, p2, _⟩ := hw.look hb
            exact ⟨rfl, hw.set p1 (bdE_map.2 (updA_bd (he k (by simp [I1.opds])) (he y (by simp [I1.opds])) (bdE_map.1 p2) hu)) trivial⟩
          · simp at h
      · simp at h
    · simp at h
  case frz ag z x =>
    refine ⟨h, ?_⟩
    simp only [stepSV] at h
    have hx := he x (by simp [I1.opds])
    unfold frzS at h
    split at h
    · simp only [Option.some.injEq] at h
      subst h
      exact ⟨rfl, hw⟩
    · rename_i z' t xs hxe
      simp only [Option.some.injEq] at h
      subst h
      rw [hxe] at hx
      exact ⟨hx, hw⟩
    · split at h
      · rename_i vs hb
        split at h
        · simp only [Option.some.injEq] at h
          subst h
          refine ⟨?_, hw.drop _⟩
          simp only [bd, Bool.true_and]
          exact bdL_group (hw.look hb).2.1
        · simp at h
      · simp at h
    · simp at h
  case ment ag ks zero mm k =>
    refine ⟨h, ?_⟩
    simp only [stepSV] at h
    split at h
    · rename_i r' hr
      split at h
      · rename_i es clock hb
        obtain ⟨p1, p2, _⟩ := hw.look hb
        have hes := bdE_map.1 p2
        have hk := he k (by simp [I1.opds])
        have hz : bd s.next zero = true := bd_mono (Nat.zero_le _) (show bd 0 zero = true from hc)
        split at h
        · simp at h
        · split at h
          · simp only [Option.some.injEq] at h
            subst h
            refine ⟨by simp only [bd, bdL, SH.set, hz]; rfl, hw.set p1 (bdE_map.2 fun x hx => ?_) trivial⟩
            rcases List.mem_append.1 hx with hx | hx
            · exact hes x hx
            · simp only [List.mem_cons, List.not_mem_nil, or_false] at hx
              subst hx
              exact ⟨hk, hz⟩
          · split at h
            · rename_i k' v' n' hj
              simp only [Option.some.injEq] at h
              subst h
              have hv := (hes _ (List.mem_of_getElem? hj)).2
              exact ⟨by simp only [bd, bdL, SH.set, hv]; rfl, hw.set p1 (bdE_map.2 (bdE_set hes ⟨hk, hv⟩)) trivial⟩
            · simp at h
          · simp at h
      · simp at h
    · simp at h
  case msto mm st y =>
    refine ⟨h, ?_⟩
    simp only [stepSV] at h
    split at h
    · rename_i r' hr
      split at h
      · rename_i es clock k0 b hb hst
        obtain ⟨p1, p2, _⟩ := hw.look hb
        have hes := bdE_map.1 p2
        split at h
        · split at h
          · rename_i k' v' n' hj
            simp only [Option.some.injEq] at h
            subst h
            exact ⟨rfl, hw.set p1 (bdE_map.2 (bdE_set hes ⟨(hes _ (List.mem_of_getElem? hj)).1, he y (by simp [I1.opds])⟩)) trivial⟩
          · simp at h
        · simp at h
      · simp at h
    · simp at h
  case rng x =>
    have hx := he x (by simp [I1.opds])
    split at h
    · rename_i hxe
      simp only [Option.some.injEq] at h
      subst h
      simp only [stepSV, hxe, hroom, if_true, true_and]
      exact ⟨by simp [bd, SH.push], hw.push rfl trivial⟩
    · rename_i r' hxe
      rw [hxe] at hx
      simp only [bd] at hx
      split at h
      · rename_i es clock hb
        simp only [Option.some.injEq] at h
        subst h
        simp only [stepSV, hxe, hb, hroom, hx, and_self, if_true, true_and]
        exact ⟨by simp [bd, SH.push], hw.push (by simpa [bdO] using hx) trivial⟩
      · simp at h
    · simp at h

end
end Go.Scr
