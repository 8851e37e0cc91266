/- An interpreter for lowered texts, and that what it answers is what the program answers: part 27 of a program logic over the model: regions, code, functions. No condition but that each function was lowered. -/
import Derived.Test.YtagjgpkomcmkbaaGreatDoorEcoreZ
namespace Go.Scr
open Go

mutual
def eqv : AV → AV → Bool
  | .undef, .undef | .nilptr, .nilptr | .nil, .nil | .nilFunc, .nilFunc | .nilIface, .nilIface => true
  | .bool a, .bool b => a == b
  | .int k a, .int k' b => k == k' && a == b
  | .str a, .str b => a == b
  | .ptr a o, .ptr b o' => a == b && o == o'
  | .map a, .map b => a == b
  | .yield a, .yield b => a == b
  | .slice z b o n, .slice z' b' o' n' => z == z' && b == b' && o == o' && n == n'
  | .list z t xs, .list z' t' ys => z == z' && t == t' && eqvL xs ys
  | .rptr xs, .rptr ys => eqvL xs ys
  | .agg xs, .agg ys => eqvL xs ys
  | .tuple xs, .tuple ys => eqvL xs ys
  | .func f xs us, .func g ys vs => Nat.beq f g && eqvL xs ys && eqvL us vs
  | .iface t v, .iface t' v' => Nat.beq t t' && eqv v v'
  | _, _ => false
def eqvL : List AV → List AV → Bool
  | [], [] => true
  | x :: xs, y :: ys => eqv x y && eqvL xs ys
  | _, _ => false
end

mutual
theorem eqv_sound : ∀ {x y : AV}, eqv x y = true → x = y
  | .undef, y, h => by cases y <;> simp [eqv] at h ⊢
  | .nilptr, y, h => by cases y <;> simp [eqv] at h ⊢
  | .nil, y, h => by cases y <;> simp [eqv] at h ⊢
  | .nilFunc, y, h => by cases y <;> simp [eqv] at h ⊢
  | .nilIface, y, h => by cases y <;> simp [eqv] at h ⊢
  | .bool a, y, h => by cases y <;> simp [eqv] at h ⊢; exact h
  | .int k a, y, h => by cases y <;> simp [eqv] at h ⊢; exact h
  | .str a, y, h => by cases y <;> simp [eqv] at h ⊢; exact h
  | .ptr a o, y, h => by cases y <;> simp [eqv] at h ⊢; exact h
  | .map a, y, h => by cases y <;> simp [eqv] at h ⊢; exact h
  | .yield a, y, h => by cases y <;> simp [eqv] at h ⊢; exact h
  | .slice z b o n, y, h => by cases y <;> simp [eqv] at h ⊢; exact ⟨h.1.1.1, h.1.1.2, h.1.2, h.2⟩
  | .list z t xs, y, h => by
    cases y <;> simp [eqv] at h ⊢
    exact ⟨h.1.1, h.1.2, eqvL_sound h.2⟩
  | .rptr xs, y, h => by cases y <;> simp [eqv] at h ⊢; exact eqvL_sound h
  | .agg xs, y, h => by cases y <;> simp [eqv] at h ⊢; exact eqvL_sound h
  | .tuple xs, y, h => by cases y <;> simp [eqv] at h ⊢; exact eqvL_sound h
  | .func f xs ys, y, h => by
    cases y <;> simp [eqv] at h ⊢
    exact ⟨h.1.1, eqvL_sound h.1.2, eqvL_sound h.2⟩
  | .iface t v, y, h => by
    cases y <;> simp [eqv] at h ⊢
    exact ⟨h.1, eqv_sound h.2⟩
theorem eqvL_sound : ∀ {x y : List AV}, eqvL x y = true → x = y
  | [], [], _ => rfl
  | [], _ :: _, h => by simp [eqvL] at h
  | _ :: _, [], h => by simp [eqvL] at h
  | x :: xs, y :: ys, h => by
    simp only [eqvL, Bool.and_eq_true] at h
    rw [eqv_sound h.1, eqvL_sound h.2]
end

def evG (G : Nat → Option AV) (a : AAct) : Opd → AV
  | .t n => a.get n
  | .c v => v
  | .g n => match G n with
    | some v => .rptr [v]
    | none => .undef

def okOpd (G : Nat → Option AV) : Opd → Bool
  | .t _ => true
  | .c v => bd 0 v
  | .g n => match G n with
    | some v => bd 0 v
    | none => true

def bdD (n : Nat) (ds : List (AV × List AV)) : Bool := ds.all fun p => bd n p.1 && bdL n p.2
def bdA (n : Nat) (a : AAct) : Bool := a.env.all (fun p => bd n p.2) && bdD n a.defers

/-- What is called: a function, or the rounds of a range over a function. -/
inductive Cal where
  | fn (f : FuncId)
  | yl (l : Nat)

abbrev CallF := Cal → List AV → SH → Option (AV × SH)

def goS (G : Nat → Option AV) (call : CallF) (l : L1) (a : AAct) (s : SH) : Option (AAct × SH) :=
  if l.op.closed && l.op.opds.all (okOpd G) && (!l.op.names || bdA s.next a) then
    match l.op with
    | .call f xs => match evG G a f with
      | .func fid first cap => (call (.fn fid) (first ++ xs.map (evG G a) ++ cap) s).map fun r => (a.put l.dst r.1, r.2)
      | .yield y => (call (.yl y) (xs.map (evG G a)) s).map fun r => (a.put l.dst r.1, r.2)
      | _ => none
    | .defer f xs => if isFunc (evG G a f) = true then some (AAct.put { a with defers := (evG G a f, xs.map (evG G a)) :: a.defers } l.dst .undef, s) else none
    | i => (stepSV s (evG G a) i).map fun r => (a.put l.dst r.1, r.2)
  else none

def chkS (G : Nat → Option AV) (dst : Option Nat) (i : I1) (a : AAct) (s : SH) : Bool :=
  i.quiet && i.closed && i.opds.all (okOpd G) && match quietV (evG G a) s.toAH i with
    | some v => (match dst with
      | none => true
      | some d => eqv v (a.get d))
    | none => false

def sameS (G : Nat → Option AV) (l : L1) (i : I1) (a : AAct) (s : SH) : Bool :=
  match l.guard with
  | none => chkS G l.dst i a s
  | some (g, want) => match a.get g with
    | .bool b => if b = want then chkS G l.dst i a s else true
    | .tuple [] => true
    | _ => false

/-- A walk through a map goes on: all that may come. -/
def nxtS (s : SH) : AV → Option (List (AV × SH))
  | .ptr b 0 => match s.h.lookup b with
    | some (.miter none _ _ _) => some [(.tuple [.bool false], s.drop b)]
    | some (.miter (some r) since seen last) => match s.h.lookup r with
      | some (.map es clock) => if es.all (fun e => decide (e.2.2 < since)) = true ∧ since ≤ last then
          some (if es.all (fun e => seen.contains e.2.2) = true then [(.tuple [.bool false], s.drop b)]
            else (es.filter fun e => !seen.contains e.2.2).map fun e => (.tuple [.bool true, e.1, e.2.1], s.set b (.miter (some r) since (seen ++ [e.2.2]) clock))) else none
      | _ => none
    | _ => none
  | _ => none

def goL (G : Nat → Option AV) (call : CallF) (l : L1) (a : AAct) (s : SH) : Option (List (AAct × SH)) :=
  match l.op with
  | .nxt x => if okOpd G x = true then (nxtS s (evG G a x)).map fun os => os.map fun r => (a.put l.dst r.1, r.2) else none
  | _ => (goS G call l a s).map fun r => [r]

def oneS (G : Nat → Option AV) (call : CallF) (l : L1) (a : AAct) (s : SH) : Option (List (AAct × SH)) :=
  match l.op with
  | .same i => if sameS G l i a s = true then some [(a, s)] else none
  | _ => match l.guard with
    | none => goL G call l a s
    | some (g, want) => match a.get g with
      | .bool b => if b = want then goL G call l a s else some [(a.put l.dst (.tuple []), s)]
      | .tuple [] => some [(a.put l.dst (.tuple []), s)]
      | _ => none

def bindO {α β : Type} (f : α → Option (List β)) : List α → Option (List β)
  | [] => some []
  | x :: xs => match f x with
    | some l => match bindO f xs with
      | some l' => some (l ++ l')
      | none => none
    | none => none

def regS (G : Nat → Option AV) (call : CallF) : List L1 → AAct → SH → Option (List (AAct × SH))
  | [], a, s => some [(a, s)]
  | l :: ls, a, s => match oneS G call l a s with
    | some os => bindO (fun r => regS G call ls r.1 r.2) os
    | none => none

def gtS (G : Nat → Option AV) (call : CallF) : GT → AAct → SH → Option (List (AAct × SH))
  | .done, a, s => some [(a, s)]
  | .st l t, a, s => match regS G call l a s with
    | some os => bindO (fun r => gtS G call t r.1 r.2) os
    | none => none
  | .br t u, a, s => match gtS G call t a s, gtS G call u a s with
    | some x, some y => some (x ++ y)
    | _, _ => none

/-- What comes out: how the code was left, the frame, the heap. -/
structure Out where
  ex : Exit
  a : AAct
  s : SH

def eqPs : List (Nat × AV) → List (Nat × AV) → Bool
  | [], [] => true
  | x :: xs, y :: ys => x.1 == y.1 && eqv x.2 y.2 && eqPs xs ys
  | _, _ => false
def eqDs : List (AV × List AV) → List (AV × List AV) → Bool
  | [], [] => true
  | _, _ => false
def eqEs : List (AV × AV × Nat) → List (AV × AV × Nat) → Bool
  | [], [] => true
  | x :: xs, y :: ys => eqv x.1 y.1 && eqv x.2.1 y.2.1 && x.2.2 == y.2.2 && eqEs xs ys
  | _, _ => false
def eqO : AObj → AObj → Bool
  | .cells xs, .cells ys => eqvL xs ys
  | .map es c, .map es' c' => eqEs es es' && c == c'
  | .miter r a b c, .miter r' a' b' c' => r == r' && a == a' && b == b' && c == c'
  | .siter s p, .siter s' p' => s == s' && p == p'
  | .dfr, .dfr => true
  | _, _ => false
def eqHs : List (Nat × AObj) → List (Nat × AObj) → Bool
  | [], [] => true
  | x :: xs, y :: ys => x.1 == y.1 && eqO x.2 y.2 && eqHs xs ys
  | _, _ => false
def eqSH (s s' : SH) : Bool := eqHs s.h s'.h && s.t == s'.t && s.next == s'.next
def eqEx : Exit → Exit → Bool
  | .normal, .normal | .ret, .ret => true
  | .exit i, .exit j => i == j
  | _, _ => false
def eqOut (o o' : Out) : Bool := eqEx o.ex o'.ex && eqPs o.a.env o'.a.env && eqDs o.a.defers o'.a.defers && o.a.n == o'.a.n && eqSH o.s o'.s

/-- What is one is taken once. -/
def merge : List Out → List Out
  | [] => []
  | o :: os => if os.all (fun o' => eqOut o' o) = true then [o] else o :: os

def loopS (f : AAct → SH → Option (List Out)) : Nat → AAct → SH → Option (List Out)
  | 0, _, _ => none
  | n + 1, a, s => match f a s with
    | some os => bindO (fun o => match o.ex with
      | .normal => loopS f n o.a o.s
      | _ => some [o]) (merge os)
    | none => none

mutual
/-- The names in it. -/
def nmV : AV → List Nat
  | .undef | .bool _ | .int _ _ | .str _ | .nilptr | .nil | .nilFunc | .nilIface | .map none => []
  | .ptr b _ | .yield b | .slice _ b _ _ | .map (some b) => [b]
  | .rptr cs => nmL cs
  | .list _ none xs => nmL xs
  | .list _ (some t) xs => t.1 :: nmL xs
  | .func _ xs ys => nmL xs ++ nmL ys
  | .iface _ v => nmV v
  | .agg xs => nmL xs
  | .tuple xs => nmL xs
def nmL : List AV → List Nat
  | [] => []
  | v :: vs => nmV v ++ nmL vs
end
def nmO : AObj → List Nat
  | .cells vs => nmL vs
  | .map es _ => es.flatMap fun e => nmV e.1 ++ nmV e.2.1
  | .siter _ _ => []
  | .miter r _ _ _ => r.toList
  | .dfr => []
  | .loop env _ _ => env.flatMap fun p => nmV p.2
/-- What was made behind 'n', and nobody looks at, is forgotten. -/
def gcH (n : Nat) (v : AV) : Nat → List (Nat × AObj) → List (Nat × AObj)
  | 0, h => h
  | k + 1, h => gcH n v k (h.filter fun p => Nat.blt p.1 n || (nmV v).contains p.1 || h.any fun q => q.1 != p.1 && (nmO q.2).contains p.1)
def gcS (n : Nat) (r : AV × SH) : AV × SH := (r.1, { r.2 with h := gcH n r.1 4 r.2.h })
/-- All answers are one. -/
def settle (n : Nat) : List (AV × SH) → Option (AV × SH)
  | [] => none
  | [r] => some r
  | r :: rs => if rs.all (fun r' => eqv (gcS n r').1 (gcS n r).1 && eqSH (gcS n r').2 (gcS n r).2) = true then some (gcS n r) else none

/-- A range over a function is over. -/
def rfunE (a : AAct) (l : Nat) (s : SH) : Option Out :=
  match s.h.lookup l with
  | some (.loop _ _ .ready) => some ⟨.normal, a, s.drop l⟩
  | some (.loop _ _ (.done none)) => some ⟨.ret, a, s.drop l⟩
  | some (.loop _ _ (.done (some id))) => some ⟨.exit id, a, s.drop l⟩
  | _ => none

def lcS (G : Nat → Option AV) (ent : FuncId → Bool) (call : CallF) (n : Nat) : LC → AAct → SH → Option (List Out)
  | .skip, a, s => some [⟨.normal, a, s⟩]
  | .reg l keep, a, s => (regS G call l a s).map fun os => os.map fun r => ⟨.normal, r.1.keep keep, r.2⟩
  | .drw t keep, a, s => (gtS G call t a s).map fun os => os.map fun r => ⟨.normal, r.1.keep keep, r.2⟩
  | .seq x y, a, s => match lcS G ent call n x a s with
    | some os => bindO (fun o => match o.ex with
      | .normal => lcS G ent call n y o.a o.s
      | _ => some [o]) (merge os)
    | none => none
  | .cond c x y, a, s => if okOpd G c then (match evG G a c with
    | .bool true => lcS G ent call n x a s
    | .bool false => lcS G ent call n y a s
    | _ => none) else none
  | .block id x, a, s => (lcS G ent call n x a s).map fun os => os.map fun o => match o.ex with
    | .exit i => if i = id then ⟨.normal, o.a, o.s⟩ else o
    | _ => o
  | .loop x, a, s => loopS (lcS G ent call n x) n a s
  | .scope x, a, s => match lcS G ent call n x a s with
    | some os => if os.all (fun o => match o.ex with | .goto _ => false | _ => true) = true then some os else none
    | none => none
  | .rfun g ps x y, a, s => if (okOpd G g && bd s.next (evG G a g) && bdA s.next a && s.room && (s.push .dfr).room) = true then (match evG G a g with
    | .func fid first cap => if ent fid = true then (match call (.fn fid) (first ++ [.yield (s.next + 1)] ++ cap) ((s.push .dfr).push (.loop a.env ⟨a.n, ps, x, y⟩ .ready)) with
      | some r => (rfunE { a with defers := (.ptr s.next 0, []) :: a.defers } (s.next + 1) r.2).map fun o => [o]
      | none => none) else none
    | _ => none) else none
  | .exit id, a, s => some [⟨.exit id, a, s⟩]
  | .ret, a, s => some [⟨.ret, a, s⟩]

/-- A round's end, reckoned. -/
def rendS (l : Nat) (o : Out) : Option (AV × SH) :=
  match o.s.h.lookup l with
  | some (.loop env lr _) => (match o.ex with
    | .normal => some (.bool true, o.s.set l (.loop env lr .ready))
    | .ret => some (.bool false, o.s.set l (.loop env lr (.done none)))
    | .exit id => some (.bool false, o.s.set l (.loop env lr (.done (some id))))
    | _ => none)
  | _ => none

/-- A round's body, behind the assignment. -/
def rbodS (f : AAct → SH → Option (List Out)) (l : Nat) (o : Out) : Option (List Out) :=
  match o.ex, o.s.h.lookup l with
  | .normal, some (.loop env lr .ready) => f o.a (o.s.set l (.loop env lr .busy))
  | _, _ => none

/-- A round, reckoned. -/
def roundS (G : Nat → Option AV) (ent : FuncId → Bool) (call : CallF) (n : Nat) (l : Nat) (args : List AV) (s : SH) : Option (AV × SH) :=
  match s.h.lookup l with
  | some (.loop env lr .ready) => if args.length = lr.ps.length ∧ Nat.blt l s.next = true then (match lcS G ent call n lr.as (putL lr.ps args ⟨env, [], lr.n⟩) s with
    | some os => match bindO (rbodS (lcS G ent call n lr.bd) l) (merge os) with
      | some os2 => match bindO (fun o => match rendS l o with
          | some r => some [r]
          | none => none) (merge os2) with
        | some rs => settle s.next rs
        | none => none
      | none => none
    | none => none) else none
  | _ => none

def leaveS (dcall : CallF) (a : AAct) : List (AV × List AV) → SH → Option SH
  | [], s => some s
  | (f, xs) :: ds, s => if bdA s.next a && bdD s.next ds then (match f with
    | .func fid first cap => match dcall (.fn fid) (first ++ xs ++ cap) s with
      | some r => leaveS dcall a ds r.2
      | none => none
    | .ptr r _ => match s.h.lookup r with
      | some .dfr => leaveS dcall a ds (s.drop r)
      | _ => none
    | _ => none) else none

def endsS : Exit → Bool
  | .normal | .ret => true
  | _ => false

/-- Walks through maps that began behind 'n' are forgotten. -/
def SH.unwalk (s : SH) (n : Nat) : SH :=
  (s.h.filterMap fun p => if Nat.ble n p.1 then (match p.2 with
    | .miter _ _ _ _ => some p.1
    | _ => none) else none).foldl (fun s b => s.drop b) s

/-- How a function ends: what was deferred, what it answers. -/
def endS (dcall : CallF) (rvs : List RV) (n : Nat) (d : Bool) (o : Out) : Option (AV × SH) :=
  if endsS o.ex = true then (match o.a.defers with
    | [] => (resL o.s.toAH o.a rvs).map fun l => (packA l, o.s.unwalk n)
    | _ :: _ => if d = false ∧ bdA o.s.next o.a = true then (match leaveS dcall o.a o.a.defers o.s with
      | some s2 => (resL s2.toAH o.a rvs).map fun l => (packA l, s2.unwalk n)
      | none => none) else none) else none

abbrev NatF := FuncId → List AV → SH → Option (AV × SH)

/-- A function, reckoned; 'd': it was deferred. -/
def callS (T : Nat → Option (LC × List RV × Nat)) (G : Nat → Option AV) (nat : NatF) (n : Nat) : Nat → Bool → CallF
  | 0, _, _, _, _ => none
  | k + 1, d, .yl l, args, s => if d then none else roundS G (fun f => (T f).isSome) (callS T G nat n k false) n l args s
  | k + 1, d, .fn f, args, s => match (if d = true then none else nat f args s) with
    | some r => some r
    | none => match T f with
    | none => none
    | some (lc, rvs, m) => if args.length ≤ m then (match lcS G (fun f => (T f).isSome) (callS T G nat n k false) n lc (initA m args) s with
      | some os => match bindO (fun o => match endS (callS T G nat n k true) rvs s.next d o with
          | some r => some [r]
          | none => none) (merge os) with
        | some rs => settle s.next rs
        | none => none
      | none => none) else none

def renD (m : Nm) (ds : List (AV × List AV)) : List (AV × List AV) := ds.map fun p => (ren m p.1, p.2.map (ren m))
def renA (m : Nm) (a : AAct) : AAct := { env := a.env.map fun p => (p.1, ren m p.2), defers := renD m a.defers, n := a.n }

section
variable {X : Ctx} {m : Nm} {φ : AH} {s : SH} {σ : AH} {G : Nat → Option AV} {call : CallF}

theorem get_renA (a : AAct) (t : Nat) : (renA m a).get t = ren m (a.get t) := by
  have : ∀ l : List (Nat × AV), ((l.map fun p => (p.1, ren m p.2)).lookup t).getD .undef = ren m ((l.lookup t).getD .undef) := by
    intro l
    induction l with
    | nil => rfl
    | cons x l ih =>
      obtain ⟨y, v⟩ := x
      simp only [List.map_cons, List.lookup_cons]
      cases t == y
      · exact ih
      · rfl
  exact this a.env
theorem put_renA (a : AAct) (d : Option Nat) (v : AV) : renA m (a.put d v) = (renA m a).put d (ren m v) := by cases d <;> rfl
theorem keep_renA (a : AAct) (l : List Nat) : renA m (a.keep l) = (renA m a).keep l := by
  simp only [renA, AAct.keep, List.map_map]
  congr 1
  apply List.map_congr_left
  intro t _
  have := get_renA (m := m) a t
  simp only [renA] at this
  simp only [Function.comp_apply, this]
theorem init_renA (n : Nat) (args : List AV) : renA m (initA n args) = initA n (args.map (ren m)) := by
  have : ∀ (l : List AV) (i : Nat), (initEnv i l).map (fun p => (p.1, ren m p.2)) = initEnv i (l.map (ren m)) := by
    intro l
    induction l with
    | nil => intro i; rfl
    | cons v l ih => intro i; simp [initEnv, ih]
  simp [renA, initA, this, renD]
theorem renD_agree {n : Nat} {m' : Nm} (h : Nm.agree n m m') {ds : List (AV × List AV)} (hb : bdD n ds = true) : renD m' ds = renD m ds := by
  apply List.map_congr_left
  intro p hp
  have := List.all_eq_true.1 hb p hp
  simp only [Bool.and_eq_true] at this
  rw [ren_agree h this.1, ← renL_map, ← renL_map, renL_agree h this.2]
theorem renA_agree {n : Nat} {m' : Nm} (h : Nm.agree n m m') {a : AAct} (hb : bdA n a = true) : renA m' a = renA m a := by
  simp only [bdA, Bool.and_eq_true, List.all_eq_true] at hb
  simp only [renA, renD_agree h hb.2]
  congr 1
  apply List.map_congr_left
  intro p hp
  rw [ren_agree h (hb.1 p hp)]

theorem ev_renA (hG : X.G = G) {a : AAct} {o : Opd} (h : okOpd G o = true) : ev X (renA m a) o = ren m (evG G a o) := by
  subst hG
  cases o with
  | t n => exact get_renA a n
  | c v => exact (ren_closed m h).symm
  | g n =>
    simp only [okOpd] at h
    simp only [ev, evG]
    cases hq : X.G n with
    | none => rfl
    | some v =>
      rw [hq] at h
      simp only [ren, renL, ren_closed m h]

def ECallC (X : Ctx) (m : Nm) (c : Cal) (args : List AV) (σ : AH) (R : AV → AH → Prop) : Prop :=
  match c with
  | .fn f => ECalls X f args σ R
  | .yl l => EYield X (m l).1 args σ R

/-- What a callee answers is what is reckoned. -/
def CallOk (X : Ctx) (call : CallF) : Prop := ∀ c args s v s', call c args s = some (v, s') → s.next ≤ s'.next ∧ ∀ m φ σ, Sim m φ s σ →
  ECallC X m c (args.map (ren m)) σ fun v' σ' => ∃ m', Nm.agree s.next m m' ∧ v' = ren m' v ∧ Sim m' φ s' σ'
def NatOk (X : Ctx) (nat : NatF) : Prop := ∀ f args s v s', nat f args s = some (v, s') → s.next ≤ s'.next ∧ ∀ m φ σ, Sim m φ s σ →
  ECalls X f (args.map (ren m)) σ fun v' σ' => ∃ m', Nm.agree s.next m m' ∧ v' = ren m' v ∧ Sim m' φ s' σ'
def DefOk (X : Ctx) (call : CallF) : Prop := ∀ f args s v s', call (.fn f) args s = some (v, s') → s.next ≤ s'.next ∧ ∀ m φ σ, Sim m φ s σ →
  ECallsD X f (args.map (ren m)) σ fun σ' => ∃ m', Nm.agree s.next m m' ∧ Sim m' φ s' σ'

def Beh (m : Nm) (φ : AH) (s s' : SH) (a' : AAct) (K : AAct → AH → Prop) : Prop := ∀ m' σ', Nm.agree s.next m m' → Sim m' φ s' σ' → K (renA m' a') σ'

/-- There is always a heap that is reckoned so. -/
theorem sim_any (s : SH) : Sim (fun x => (x, 0)) ⟨fun _ => none, fun _ => none⟩ s ⟨fun b => (s.h.lookup b).map (renO fun x => (x, 0)), fun b => if s.t.contains b = true then some 0 else none⟩ :=
  ⟨fun b o h => by simp [h], fun b h => by simp only [h, if_true], fun b b' _ _ h => h, fun b o h => by simp at h, fun b e h => by simp at h⟩

theorem goS_sound (hG : X.G = G) (hcall : CallOk X call) {l : L1} {a a' : AAct} {s' : SH} (hs : goS G call l a s = some (a', s')) :
    s.next ≤ s'.next ∧ ∀ {m φ σ}, Sim m φ s σ → ∀ {K : AAct → AH → Prop}, Beh m φ s s' a' K → stepI X l.dst (renA m a) σ K l.op := by
  unfold goS at hs
  split at hs
  · rename_i hc
    simp only [Bool.and_eq_true, Bool.or_eq_true, Bool.not_eq_true', List.all_eq_true] at hc
    obtain ⟨⟨hcl, hops⟩, hbd⟩ := hc
    have hev : ∀ {m : Nm}, ∀ o ∈ l.op.opds, ren m (evG G a o) = ev X (renA m a) o := fun {m} o ho => (ev_renA hG (hops o ho)).symm
    split at hs
    · rename_i f xs hop
      rw [hop] at hev hbd ⊢
      have hbd : bdA s.next a = true := by simpa [I1.names] using hbd
      split at hs
      · rename_i fid first cap hf
        simp only [Option.map_eq_some_iff, Prod.mk.injEq] at hs
        obtain ⟨⟨v, s2⟩, hr, rfl, rfl⟩ := hs
        obtain ⟨h1, h2⟩ := hcall _ _ _ _ _ hr
        refine ⟨h1, fun {m φ σ} h {K} hK => ?_⟩
        simp only [stepI, stepV]
        rw [← hev f (by simp [I1.opds]), hf]
        simp only [ren, ECallV]
        have hargs : renL m first ++ xs.map (ev X (renA m a)) ++ renL m cap = (first ++ xs.map (evG G a) ++ cap).map (ren m) := by
          simp only [renL_map, List.map_append, List.map_map]
          congr 2
          exact (List.map_congr_left fun x hx => (hev x (by simp [I1.opds, hx])).symm)
        rw [hargs]
        refine (show ECalls X fid _ σ _ from h2 m φ σ h).mono fun v' σ' hq => ?_
        obtain ⟨m', g1, rfl, g2⟩ := hq
        have := hK m' σ' g1 g2
        rw [put_renA, renA_agree g1 hbd] at this
        exact this
      · rename_i y hf
        simp only [Option.map_eq_some_iff, Prod.mk.injEq] at hs
        obtain ⟨⟨v, s2⟩, hr, rfl, rfl⟩ := hs
        obtain ⟨h1, h2⟩ := hcall _ _ _ _ _ hr
        refine ⟨h1, fun {m φ σ} h {K} hK => ?_⟩
        simp only [stepI, stepV]
        rw [← hev f (by simp [I1.opds]), hf]
        simp only [ren, ECallV]
        have hargs : xs.map (ev X (renA m a)) = (xs.map (evG G a)).map (ren m) := by
          rw [List.map_map]
          exact (List.map_congr_left fun x hx => (hev x (by simp [I1.opds, hx])).symm)
        rw [hargs]
        refine (show EYield X (m y).1 _ σ _ from h2 m φ σ h).mono fun v' σ' hq => ?_
        obtain ⟨m', g1, rfl, g2⟩ := hq
        have := hK m' σ' g1 g2
        rw [put_renA, renA_agree g1 hbd] at this
        exact this
      · simp at hs
    · rename_i f xs hop
      rw [hop] at hev ⊢
      split at hs
      · rename_i hf
        simp only [Option.some.injEq, Prod.mk.injEq] at hs
        obtain ⟨rfl, rfl⟩ := hs
        refine ⟨Nat.le_refl _, fun {m φ σ} h {K} hK => ?_⟩
        simp only [stepI]
        rw [← hev f (by simp [I1.opds]), isFunc_ren]
        refine ⟨hf, ?_⟩
        have := hK m σ (Nm.agree.refl _ _) h
        rw [put_renA] at this
        have hargs : xs.map (ev X (renA m a)) = (xs.map (evG G a)).map (ren m) := by
          rw [List.map_map]
          exact (List.map_congr_left fun x hx => (hev x (by simp [I1.opds, hx])).symm)
        rw [hargs]
        exact this
      · simp at hs
    · rename_i i hnc hnd
      simp only [Option.map_eq_some_iff, Prod.mk.injEq] at hs
      obtain ⟨⟨v, s2⟩, hr, rfl, rfl⟩ := hs
      have mono : s.next ≤ s2.next := (stepSV_sound (X := X) (K := fun _ _ => True) hr hcl (sim_any s) fun _ _ _ _ _ => trivial).2
      refine ⟨mono, fun {m φ σ} h {K} hK => ?_⟩
      rw [stepI_eq fun f xs h => hnd f xs h]
      refine stepV_congr hev (stepSV_sound hr hcl h fun m' σ' hag hsame hsim => ?_).1
      have := hK m' σ' hag hsim
      rw [put_renA] at this
      rcases hbd with hbd | hbd
      · rw [hsame hbd] at this ⊢
        exact this
      · rw [renA_agree hag hbd] at this
        exact this
  · simp at hs

theorem stepV_quiet {e : Opd → AV} {K : AV → AH → Prop} {i : I1} (hq : i.quiet = true) : stepV X e σ K i = optK (quietV e σ i) fun v => K v σ := by
  cases i <;> first | rfl | simp [I1.quiet] at hq

theorem chkS_sound (hG : X.G = G) {dst : Option Nat} {i : I1} {a : AAct} (hs : chkS G dst i a s = true) (h : Sim m φ s σ) : sameV X dst (renA m a) σ i := by
  simp only [chkS, Bool.and_eq_true, List.all_eq_true] at hs
  obtain ⟨⟨⟨hq, hc⟩, hops⟩, hv⟩ := hs
  split at hv
  · rename_i v hqv
    refine stepV_congr (e := fun o => ren m (evG G a o)) (fun o ho => (ev_renA hG (hops o ho)).symm) ?_
    rw [stepV_quiet hq, quietV_ren h.reads hc hqv]
    refine ⟨fun d hd => ?_, rfl⟩
    subst hd
    simp only at hv
    rw [get_renA, eqv_sound hv]
  · simp at hv

theorem Sim.forget (h : Sim m φ s σ) {s' : SH} (hh : ∀ b o, s'.h.lookup b = some o → s.h.lookup b = some o) (ht : s'.t = s.t) : Sim m φ s' σ := by
  have hl : ∀ x, s'.live x = true → s.live x = true := fun x hx => by
    simp only [SH.live, Bool.or_eq_true, ht] at hx ⊢
    rcases hx with hx | hx
    · obtain ⟨o, ho⟩ := Option.isSome_iff_exists.1 hx
      exact .inl (by rw [hh x o ho]; rfl)
    · exact .inr hx
  exact ⟨fun b o hb => h.heap b o (hh b o hb), fun b hb => h.tips b (by rw [← ht]; exact hb), fun x y hx hy => h.inj x y (hl x hx) (hl y hy),
    fun b o hb => ⟨(h.fheap b o hb).1, fun x hx => (h.fheap b o hb).2 x (hl x hx)⟩, fun b e hb => ⟨(h.ftip b e hb).1, fun x hx => (h.ftip b e hb).2 x (hl x hx)⟩⟩

theorem Sim.dropped (h : Sim m φ s σ) (b : Nat) : Sim m φ (s.drop b) σ := h.forget (fun x o hx => by
  simp only [SH.drop, lookup_filter] at hx
  split at hx
  · simp at hx
  · exact hx) rfl

theorem Sim.drops (h : Sim m φ s σ) : ∀ l : List Nat, Sim m φ (l.foldl (fun s b => s.drop b) s) σ ∧ (l.foldl (fun s b => s.drop b) s).next = s.next := by
  intro l
  induction l generalizing s with
  | nil => exact ⟨h, rfl⟩
  | cons b l ih => exact ⟨(ih (h.dropped b)).1, (ih (h.dropped b)).2⟩
theorem Sim.unwalk (h : Sim m φ s σ) (n : Nat) : Sim m φ (s.unwalk n) σ := (h.drops _).1
theorem next_unwalk (s : SH) (n : Nat) : (s.unwalk n).next = s.next := ((sim_any s).drops _).2

theorem bindO_mem {α β : Type} {f : α → Option (List β)} : ∀ {xs : List α} {l : List β}, bindO f xs = some l → ∀ x ∈ xs, ∃ lx, f x = some lx ∧ ∀ y ∈ lx, y ∈ l
  | [], _, _, x, hx => by simp at hx
  | z :: xs, l, h, x, hx => by
    simp only [bindO] at h
    split at h
    · rename_i l1 h1
      split at h
      · rename_i l2 h2
        simp only [Option.some.injEq] at h
        subst h
        rcases List.mem_cons.1 hx with rfl | hx
        · exact ⟨l1, h1, fun y hy => List.mem_append_left _ hy⟩
        · obtain ⟨lx, q1, q2⟩ := bindO_mem h2 x hx
          exact ⟨lx, q1, fun y hy => List.mem_append_right _ (q2 y hy)⟩
      · simp at h
    · simp at h
theorem bindO_inv {α β : Type} {f : α → Option (List β)} : ∀ {xs : List α} {l : List β}, bindO f xs = some l → ∀ y ∈ l, ∃ x ∈ xs, ∃ lx, f x = some lx ∧ y ∈ lx
  | [], l, h, y, hy => by
    simp only [bindO, Option.some.injEq] at h
    subst h
    simp at hy
  | z :: xs, l, h, y, hy => by
    simp only [bindO] at h
    split at h
    · rename_i l1 h1
      split at h
      · rename_i l2 h2
        simp only [Option.some.injEq] at h
        subst h
        rcases List.mem_append.1 hy with hy | hy
        · exact ⟨z, by simp, l1, h1, hy⟩
        · obtain ⟨x, hx, q⟩ := bindO_inv h2 y hy
          exact ⟨x, by simp [hx], q⟩
      · simp at h
    · simp at h

theorem nxtS_sound {x : AV} {os : List (AV × SH)} (hs : nxtS s x = some os) : (∀ o ∈ os, s.next ≤ o.2.next) ∧ ∀ {m φ σ}, Sim m φ s σ → ∀ {K : AV → AH → Prop}, (∀ o ∈ os, ∀ σ', Sim m φ o.2 σ' → K (ren m o.1) σ') → nxtA σ K (ren m x) := by
  unfold nxtS at hs
  split at hs
  · rename_i b
    split at hs
    · rename_i hb
      simp only [Option.some.injEq] at hs
      subst hs
      refine ⟨fun o ho => by simp only [List.mem_cons, List.not_mem_nil, or_false] at ho; subst ho; exact Nat.le_refl _, fun {m φ σ} h {K} hK => ?_⟩
      have hh := h.heap _ _ hb
      have := hK _ (List.mem_singleton_self _) σ (h.dropped b)
      simpa [ren, renL, nxtA, hh, renO] using this
    · rename_i r since seen last hb
      split at hs
      · rename_i es clock hm
        split at hs
        · rename_i hc
          simp only [Option.some.injEq] at hs
          subst hs
          have hall : ∀ {m : Nm} (p : Nat → Bool), (es.map fun x => (ren m x.1, ren m x.2.1, x.2.2)).all (fun e => p e.2.2) = es.all fun e => p e.2.2 := fun {m} p => by
            rw [List.all_map]; rfl
          refine ⟨fun o ho => ?_, fun {m φ σ} h {K} hK => ?_⟩
          · split at ho
            · simp only [List.mem_cons, List.not_mem_nil, or_false] at ho; subst ho; exact Nat.le_refl _
            · rw [List.mem_map] at ho
              obtain ⟨e, _, rfl⟩ := ho
              exact Nat.le_refl _
          · have hh := h.heap _ _ hb
            have hm' := h.heap _ _ hm
            simp only [ren, nxtA, hh, renO, Option.map_some, hm']
            refine ⟨by rw [hall fun n => decide (n < since)]; exact hc.1, hc.2, fun ho => ?_, fun e he hne => ?_⟩
            · rw [hall fun n => seen.contains n] at ho
              rw [if_pos ho] at hK
              have := hK _ (List.mem_singleton_self _) σ (h.dropped b)
              simpa [ren, renL] using this
            · rw [List.mem_map] at he
              obtain ⟨e0, he0, rfl⟩ := he
              simp only at hne
              have hno : ¬ es.all (fun e => seen.contains e.2.2) = true := fun ha => by
                have := List.all_eq_true.1 ha e0 he0
                rw [hne] at this
                simp at this
              rw [if_neg hno] at hK
              have := hK (.tuple [.bool true, e0.1, e0.2.1], s.set b (.miter (some r) since (seen ++ [e0.2.2]) clock)) (List.mem_map.2 ⟨e0, List.mem_filter.2 ⟨he0, by simp only [hne, Bool.not_false]⟩, rfl⟩) _ (h.set hb (.miter (some r) since (seen ++ [e0.2.2]) clock))
              simpa [ren, renL, renO] using this
        · simp at hs
      · simp at hs
    · simp at hs
  · simp at hs

theorem goL_sound (hG : X.G = G) (hcall : CallOk X call) {l : L1} {a : AAct} {os : List (AAct × SH)} (hs : goL G call l a s = some os) :
    (∀ o ∈ os, s.next ≤ o.2.next) ∧ ∀ {m φ σ}, Sim m φ s σ → ∀ {K : AAct → AH → Prop}, (∀ o ∈ os, Beh m φ s o.2 o.1 K) → stepI X l.dst (renA m a) σ K l.op := by
  unfold goL at hs
  split at hs
  · rename_i x hop
    split at hs
    · rename_i hx
      simp only [Option.map_eq_some_iff] at hs
      obtain ⟨os', h1, rfl⟩ := hs
      obtain ⟨p1, p2⟩ := nxtS_sound h1
      refine ⟨fun o ho => ?_, fun {m φ σ} h {K} hK => ?_⟩
      · rw [List.mem_map] at ho
        obtain ⟨r, hr, rfl⟩ := ho
        exact p1 r hr
      · rw [hop]
        simp only [stepI, stepV]
        rw [ev_renA hG hx]
        refine p2 h fun o ho σ' h' => ?_
        have := hK (a.put l.dst o.1, o.2) (List.mem_map.2 ⟨o, ho, rfl⟩) m σ' (Nm.agree.refl _ _) h'
        rw [put_renA] at this
        exact this
    · simp at hs
  · simp only [Option.map_eq_some_iff] at hs
    obtain ⟨⟨a1, s1⟩, h1, rfl⟩ := hs
    obtain ⟨p1, p2⟩ := goS_sound hG hcall h1
    refine ⟨fun o ho => ?_, fun {m φ σ} h {K} hK => p2 h (hK _ (List.mem_singleton_self _))⟩
    simp only [List.mem_cons, List.not_mem_nil, or_false] at ho
    subst ho
    exact p1

theorem oneS_sound (hG : X.G = G) (hcall : CallOk X call) {l : L1} {a : AAct} {os : List (AAct × SH)} (hs : oneS G call l a s = some os) :
    (∀ o ∈ os, s.next ≤ o.2.next) ∧ ∀ {m φ σ}, Sim m φ s σ → ∀ {K : AAct → AH → Prop}, (∀ o ∈ os, Beh m φ s o.2 o.1 K) → stepL X l (renA m a) σ K := by
  have one : ∀ {o' : AAct × SH}, s.next ≤ o'.2.next → ∀ o ∈ [o'], s.next ≤ o.2.next := fun {o'} h o ho => by
    simp only [List.mem_cons, List.not_mem_nil, or_false] at ho
    subst ho
    exact h
  unfold oneS at hs
  split at hs
  · rename_i i hop
    split at hs
    · rename_i hchk
      simp only [Option.some.injEq] at hs
      subst hs
      refine ⟨one (Nat.le_refl _), fun {m φ σ} h {K} hK => ?_⟩
      unfold stepL
      rw [hop]
      refine ⟨?_, hK _ (List.mem_singleton_self _) m σ (Nm.agree.refl _ _) h⟩
      unfold sameS at hchk
      split at hchk
      · rename_i hg
        rw [hg]
        exact chkS_sound hG hchk h
      · rename_i g want hg
        rw [hg]
        simp only [get_renA]
        split at hchk
        · rename_i b hb
          rw [hb]
          simp only [ren]
          split at hchk
          · rename_i hbw
            rw [if_pos hbw]
            exact chkS_sound hG hchk h
          · rename_i hbw
            rw [if_neg hbw]
            trivial
        · rename_i hb
          rw [hb]
          trivial
        · simp at hchk
    · simp at hs
  · rename_i hns
    have e : ∀ {a : AAct} {σ : AH} {K : AAct → AH → Prop}, stepL X l a σ K = stepG X l a σ K := fun {a σ K} => by
      unfold stepL
      split
      · rename_i i hi
        exact absurd hi (hns i)
      · rfl
    split at hs
    · rename_i hg
      obtain ⟨h1, h2⟩ := goL_sound hG hcall hs
      refine ⟨h1, fun {m φ σ} h {K} hK => ?_⟩
      rw [e]
      unfold stepG
      rw [hg]
      exact h2 h hK
    · rename_i g want hg
      split at hs
      · rename_i b hb
        split at hs
        · rename_i hbw
          obtain ⟨h1, h2⟩ := goL_sound hG hcall hs
          refine ⟨h1, fun {m φ σ} h {K} hK => ?_⟩
          rw [e]
          unfold stepG
          rw [hg]
          simp only [get_renA, hb, ren, hbw, if_true]
          exact h2 h hK
        · rename_i hbw
          simp only [Option.some.injEq] at hs
          subst hs
          refine ⟨one (Nat.le_refl _), fun {m φ σ} h {K} hK => ?_⟩
          rw [e]
          unfold stepG
          rw [hg]
          simp only [get_renA, hb, ren, hbw, if_false]
          have := hK _ (List.mem_singleton_self _) m σ (Nm.agree.refl _ _) h
          rw [put_renA] at this
          exact this
      · rename_i hb
        simp only [Option.some.injEq] at hs
        subst hs
        refine ⟨one (Nat.le_refl _), fun {m φ σ} h {K} hK => ?_⟩
        rw [e]
        unfold stepG
        rw [hg]
        simp only [get_renA, hb, ren, renL]
        have := hK _ (List.mem_singleton_self _) m σ (Nm.agree.refl _ _) h
        rw [put_renA] at this
        exact this
      · simp at hs

theorem Beh.then {s1 s2 : SH} {a' : AAct} {K : AAct → AH → Prop} (h1 : s.next ≤ s1.next) (hK : Beh m φ s s2 a' K) {m' : Nm} (hag : Nm.agree s.next m m') : Beh m' φ s1 s2 a' K :=
  fun m'' σ'' hag' h' => hK m'' σ'' (hag.trans hag' h1) h'

theorem regS_sound (hG : X.G = G) (hcall : CallOk X call) : ∀ {l : List L1} {a : AAct} {s : SH} {os : List (AAct × SH)}, regS G call l a s = some os →
    (∀ o ∈ os, s.next ≤ o.2.next) ∧ ∀ {m φ σ}, Sim m φ s σ → ∀ {K : AAct → AH → Prop}, (∀ o ∈ os, Beh m φ s o.2 o.1 K) → wpR X K l (renA m a) σ
  | [], a, s, os, hs => by
    simp only [regS, Option.some.injEq] at hs
    subst hs
    exact ⟨fun o ho => by simp only [List.mem_cons, List.not_mem_nil, or_false] at ho; subst ho; exact Nat.le_refl _, fun {m φ σ} h {K} hK => hK _ (List.mem_singleton_self _) m σ (Nm.agree.refl _ _) h⟩
  | l :: ls, a, s, os, hs => by
    simp only [regS] at hs
    split at hs
    · rename_i os1 h1
      obtain ⟨p1, p2⟩ := oneS_sound hG hcall h1
      refine ⟨fun o ho => ?_, fun {m φ σ} h {K} hK => p2 h fun r hr m' σ' hag h' => ?_⟩
      · obtain ⟨r, hr, lx, hlx, hy⟩ := bindO_inv hs o ho
        exact Nat.le_trans (p1 r hr) ((regS_sound hG hcall hlx).1 o hy)
      · obtain ⟨lx, hlx, hsub⟩ := bindO_mem hs r hr
        exact (regS_sound hG hcall hlx).2 h' fun o ho => (hK o (hsub o ho)).then (p1 r hr) hag
    · simp at hs

theorem gtS_sound (hG : X.G = G) (hcall : CallOk X call) : ∀ {t : GT} {a : AAct} {s : SH} {os : List (AAct × SH)}, gtS G call t a s = some os →
    (∀ o ∈ os, s.next ≤ o.2.next) ∧ ∀ {m φ σ}, Sim m φ s σ → ∀ {K : AAct → AH → Prop}, (∀ o ∈ os, Beh m φ s o.2 o.1 K) → wpT X K t (renA m a) σ
  | .done, a, s, os, hs => by
    simp only [gtS, Option.some.injEq] at hs
    subst hs
    exact ⟨fun o ho => by simp only [List.mem_cons, List.not_mem_nil, or_false] at ho; subst ho; exact Nat.le_refl _, fun {m φ σ} h {K} hK => hK _ (List.mem_singleton_self _) m σ (Nm.agree.refl _ _) h⟩
  | .st l t, a, s, os, hs => by
    simp only [gtS] at hs
    split at hs
    · rename_i os1 h1
      obtain ⟨p1, p2⟩ := regS_sound hG hcall h1
      refine ⟨fun o ho => ?_, fun {m φ σ} h {K} hK => p2 h fun r hr m' σ' hag h' => ?_⟩
      · obtain ⟨r, hr, lx, hlx, hy⟩ := bindO_inv hs o ho
        exact Nat.le_trans (p1 r hr) ((gtS_sound hG hcall hlx).1 o hy)
      · obtain ⟨lx, hlx, hsub⟩ := bindO_mem hs r hr
        exact (gtS_sound hG hcall hlx).2 h' fun o ho => (hK o (hsub o ho)).then (p1 r hr) hag
    · simp at hs
  | .br t u, a, s, os, hs => by
    simp only [gtS] at hs
    split at hs
    · rename_i x y hx hy
      simp only [Option.some.injEq] at hs
      subst hs
      obtain ⟨p1, p2⟩ := gtS_sound hG hcall hx
      obtain ⟨q1, q2⟩ := gtS_sound hG hcall hy
      refine ⟨fun o ho => (List.mem_append.1 ho).elim (p1 o) (q1 o), fun {m φ σ} h {K} hK => ⟨p2 h fun o ho => hK o (List.mem_append_left _ ho), q2 h fun o ho => hK o (List.mem_append_right _ ho)⟩⟩
    · simp at hs

theorem eqPs_sound : ∀ {x y : List (Nat × AV)}, eqPs x y = true → x = y
  | [], [], _ => rfl
  | [], _ :: _, h => by simp [eqPs] at h
  | _ :: _, [], h => by simp [eqPs] at h
  | x :: xs, y :: ys, h => by
    simp only [eqPs, Bool.and_eq_true, beq_iff_eq] at h
    rw [Prod.ext h.1.1 (eqv_sound h.1.2), eqPs_sound h.2]
theorem eqDs_sound {x y : List (AV × List AV)} (h : eqDs x y = true) : x = y := by
  cases x <;> cases y <;> simp [eqDs] at h ⊢
theorem eqEs_sound : ∀ {x y : List (AV × AV × Nat)}, eqEs x y = true → x = y
  | [], [], _ => rfl
  | [], _ :: _, h => by simp [eqEs] at h
  | _ :: _, [], h => by simp [eqEs] at h
  | x :: xs, y :: ys, h => by
    simp only [eqEs, Bool.and_eq_true, beq_iff_eq] at h
    rw [Prod.ext (eqv_sound h.1.1.1) (Prod.ext (eqv_sound h.1.1.2) h.1.2), eqEs_sound h.2]
theorem eqO_sound {x y : AObj} (h : eqO x y = true) : x = y := by
  cases x <;> cases y <;> simp [eqO] at h
  · rw [eqvL_sound h]
  · rw [eqEs_sound h.1, h.2]
  · rw [h.1, h.2]
  · rw [h.1.1.1, h.1.1.2, h.1.2, h.2]
  · rfl
theorem eqHs_sound : ∀ {x y : List (Nat × AObj)}, eqHs x y = true → x = y
  | [], [], _ => rfl
  | [], _ :: _, h => by simp [eqHs] at h
  | _ :: _, [], h => by simp [eqHs] at h
  | x :: xs, y :: ys, h => by
    simp only [eqHs, Bool.and_eq_true, beq_iff_eq] at h
    rw [Prod.ext h.1.1 (eqO_sound h.1.2), eqHs_sound h.2]
theorem eqSH_sound {x y : SH} (h : eqSH x y = true) : x = y := by
  obtain ⟨h1, t1, n1⟩ := x
  obtain ⟨h2, t2, n2⟩ := y
  simp only [eqSH, Bool.and_eq_true, beq_iff_eq] at h
  rw [eqHs_sound h.1.1, h.1.2, h.2]
theorem eqOut_sound {x y : Out} (h : eqOut x y = true) : x = y := by
  obtain ⟨ex1, ⟨e1, d1, n1⟩, s1⟩ := x
  obtain ⟨ex2, ⟨e2, d2, n2⟩, s2⟩ := y
  simp only [eqOut, Bool.and_eq_true, beq_iff_eq] at h
  have hex : ex1 = ex2 := by
    have := h.1.1.1.1
    cases ex1 <;> cases ex2 <;> simp [eqEx] at this ⊢
    exact this
  rw [hex, eqPs_sound h.1.1.1.2, eqDs_sound h.1.1.2, h.1.2, eqSH_sound h.2]
theorem merge_mem {os : List Out} {o : Out} (h : o ∈ os) : o ∈ merge os := by
  cases os with
  | nil => simp at h
  | cons x os =>
    simp only [merge]
    split
    · rename_i hall
      rcases List.mem_cons.1 h with rfl | h
      · simp
      · rw [eqOut_sound (List.all_eq_true.1 hall o h)]
        simp
    · exact h
theorem merge_sub {os : List Out} {o : Out} (h : o ∈ merge os) : o ∈ os := by
  cases os with
  | nil => simp [merge] at h
  | cons x os =>
    simp only [merge] at h
    split at h
    · simp only [List.mem_cons, List.not_mem_nil, or_false] at h
      simp [h]
    · exact h

def BehE (m : Nm) (φ : AH) (s : SH) (o : Out) (Q : EPost) : Prop := ∀ m' σ', Nm.agree s.next m m' → Sim m' φ o.s σ' → Q o.ex (renA m' o.a) σ'
theorem BehE.then {s1 : SH} {o : Out} {Q : EPost} (h1 : s.next ≤ s1.next) (hK : BehE m φ s o Q) {m' : Nm} (hag : Nm.agree s.next m m') : BehE m' φ s1 o Q :=
  fun m'' σ'' hag' h' => hK m'' σ'' (hag.trans hag' h1) h'

theorem then_ne {K : AAct → AH → Prop} {Q : EPost} {ex : Exit} (h : ex ≠ .normal) : EPost.then K Q ex = Q ex := by
  cases ex <;> first | rfl | exact absurd rfl h

/-- What comes behind a first piece of code: its exits, and what the second one makes of it. -/
theorem after_sound {f : AAct → SH → Option (List Out)} {os1 os : List Out} (hs : bindO (fun o => match o.ex with
      | .normal => f o.a o.s
      | _ => some [o]) (merge os1) = some os) {o : Out} (ho : o ∈ os1) : (o.ex = .normal ∧ ∃ lx, f o.a o.s = some lx ∧ ∀ y ∈ lx, y ∈ os) ∨ (o.ex ≠ .normal ∧ o ∈ os) := by
  obtain ⟨lx, hlx, hsub⟩ := bindO_mem hs o (merge_mem ho)
  by_cases hex : o.ex = .normal
  · rw [hex] at hlx
    exact .inl ⟨hex, lx, hlx, hsub⟩
  · refine .inr ⟨hex, hsub o ?_⟩
    have : lx = [o] := by
      cases hq : o.ex <;> rw [hq] at hlx hex <;> simp at hlx hex <;> exact hlx.symm
    rw [this]
    simp
theorem after_inv {f : AAct → SH → Option (List Out)} {os1 os : List Out} (hs : bindO (fun o => match o.ex with
      | .normal => f o.a o.s
      | _ => some [o]) (merge os1) = some os) {y : Out} (hy : y ∈ os) : (∃ o ∈ os1, ∃ lx, f o.a o.s = some lx ∧ y ∈ lx) ∨ y ∈ os1 := by
  obtain ⟨o, ho, lx, hlx, hyl⟩ := bindO_inv hs y hy
  have ho := merge_sub ho
  by_cases hex : o.ex = .normal
  · rw [hex] at hlx
    exact .inl ⟨o, ho, lx, hlx, hyl⟩
  · have : lx = [o] := by
      cases hq : o.ex <;> rw [hq] at hlx hex <;> simp at hlx hex <;> exact hlx.symm
    rw [this] at hyl
    simp only [List.mem_cons, List.not_mem_nil, or_false] at hyl
    subst hyl
    exact .inr ho

theorem loopS_ne {f : AAct → SH → Option (List Out)} : ∀ {n : Nat} {a : AAct} {s : SH} {os : List Out}, loopS f n a s = some os → ∀ o ∈ os, o.ex ≠ .normal
  | 0, _, _, _, h, _, _ => by simp [loopS] at h
  | n + 1, a, s, os, h, o, ho => by
    simp only [loopS] at h
    split at h
    · rename_i os1 h1
      obtain ⟨p, hp, lx, hlx, hyl⟩ := bindO_inv h o ho
      by_cases hex : p.ex = .normal
      · rw [hex] at hlx
        exact loopS_ne hlx o hyl
      · have : lx = [p] := by
          cases hq : p.ex <;> rw [hq] at hlx hex <;> simp at hlx hex <;> exact hlx.symm
        rw [this] at hyl
        simp only [List.mem_cons, List.not_mem_nil, or_false] at hyl
        subst hyl
        exact hex
    · simp at h

theorem loopS_next {f : AAct → SH → Option (List Out)} (hf : ∀ a s os, f a s = some os → ∀ o ∈ os, s.next ≤ o.s.next) : ∀ {n : Nat} {a : AAct} {s : SH} {os : List Out}, loopS f n a s = some os → ∀ o ∈ os, s.next ≤ o.s.next
  | 0, _, _, _, h, _, _ => by simp [loopS] at h
  | n + 1, a, s, os, h, o, ho => by
    simp only [loopS] at h
    split at h
    · rename_i os1 h1
      rcases after_inv h ho with ⟨p, hp, lx, hlx, hyl⟩ | hp
      · exact Nat.le_trans (hf _ _ _ h1 p hp) (loopS_next hf hlx o hyl)
      · exact hf _ _ _ h1 o hp
    · simp at h

theorem lcS_sound (hG : X.G = G) {ent : FuncId → Bool} (hent : ∀ f, ent f = true → Enters X.P f) (hcall : CallOk X call) {n : Nat} : ∀ {lc : LC} {a : AAct} {s : SH} {os : List Out}, lcS G ent call n lc a s = some os →
    (∀ o ∈ os, s.next ≤ o.s.next) ∧ ∀ {m φ σ}, Sim m φ s σ → ∀ {Q : EPost}, (∀ o ∈ os, BehE m φ s o Q) → wpC X lc Q (renA m a) σ
  | .skip, a, s, os, hs => by
    simp only [lcS, Option.some.injEq] at hs
    subst hs
    exact ⟨fun o ho => by simp only [List.mem_cons, List.not_mem_nil, or_false] at ho; subst ho; exact Nat.le_refl _, fun {m φ σ} h {Q} hQ => hQ _ (List.mem_singleton_self _) m σ (Nm.agree.refl _ _) h⟩
  | .reg l keep, a, s, os, hs => by
    simp only [lcS, Option.map_eq_some_iff] at hs
    obtain ⟨os1, h1, rfl⟩ := hs
    obtain ⟨p1, p2⟩ := regS_sound hG hcall h1
    refine ⟨fun o ho => ?_, fun {m φ σ} h {Q} hQ => p2 h fun r hr m' σ' hag h' => ?_⟩
    · rw [List.mem_map] at ho
      obtain ⟨r, hr, rfl⟩ := ho
      exact p1 r hr
    · have := hQ _ (List.mem_map.2 ⟨r, hr, rfl⟩) m' σ' hag h'
      simp only [keep_renA] at this
      exact this
  | .drw t keep, a, s, os, hs => by
    simp only [lcS, Option.map_eq_some_iff] at hs
    obtain ⟨os1, h1, rfl⟩ := hs
    obtain ⟨p1, p2⟩ := gtS_sound hG hcall h1
    refine ⟨fun o ho => ?_, fun {m φ σ} h {Q} hQ => p2 h fun r hr m' σ' hag h' => ?_⟩
    · rw [List.mem_map] at ho
      obtain ⟨r, hr, rfl⟩ := ho
      exact p1 r hr
    · have := hQ _ (List.mem_map.2 ⟨r, hr, rfl⟩) m' σ' hag h'
      simp only [keep_renA] at this
      exact this
  | .seq x y, a, s, os, hs => by
    simp only [lcS] at hs
    split at hs
    · rename_i os1 h1
      obtain ⟨p1, p2⟩ := lcS_sound hG hent hcall h1
      refine ⟨fun o ho => ?_, fun {m φ σ} h {Q} hQ => p2 h fun o ho m' σ' hag h' => ?_⟩
      · rcases after_inv (f := lcS G ent call n y) hs ho with ⟨p, hp, lx, hlx, hyl⟩ | hp
        · exact Nat.le_trans (p1 p hp) ((lcS_sound hG hent hcall hlx).1 o hyl)
        · exact p1 o hp
      · rcases after_sound (f := lcS G ent call n y) hs ho with ⟨hex, lx, hlx, hsub⟩ | ⟨hex, hmem⟩
        · rw [hex]
          exact (lcS_sound hG hent hcall hlx).2 h' fun q hq => (hQ q (hsub q hq)).then (p1 o ho) hag
        · rw [then_ne hex]
          exact hQ o hmem m' σ' hag h'
    · simp at hs
  | .cond c x y, a, s, os, hs => by
    simp only [lcS] at hs
    split at hs
    · rename_i hc
      split at hs
      · rename_i hb
        obtain ⟨p1, p2⟩ := lcS_sound hG hent hcall hs
        refine ⟨p1, fun {m φ σ} h {Q} hQ => ?_⟩
        simp only [wpC, ev_renA hG hc, hb, ren, if_true]
        exact p2 h hQ
      · rename_i hb
        obtain ⟨p1, p2⟩ := lcS_sound hG hent hcall hs
        refine ⟨p1, fun {m φ σ} h {Q} hQ => ?_⟩
        simp only [wpC, ev_renA hG hc, hb, ren, Bool.false_eq_true, if_false]
        exact p2 h hQ
      · simp at hs
    · simp at hs
  | .block id x, a, s, os, hs => by
    simp only [lcS, Option.map_eq_some_iff] at hs
    obtain ⟨os1, h1, rfl⟩ := hs
    obtain ⟨p1, p2⟩ := lcS_sound hG hent hcall h1
    refine ⟨fun o ho => ?_, fun {m φ σ} h {Q} hQ => p2 h fun o ho m' σ' hag h' => ?_⟩
    · rw [List.mem_map] at ho
      obtain ⟨r, hr, rfl⟩ := ho
      have := p1 r hr
      split
      · split
        · exact this
        · exact this
      · exact this
    · have := hQ _ (List.mem_map.2 ⟨o, ho, rfl⟩)
      cases hex : o.ex with
      | exit i =>
        rw [hex] at this
        simp only at this
        simp only [EPost.inBlock]
        split
        · rename_i hi
          rw [if_pos hi] at this
          exact this m' σ' hag h'
        · rename_i hi
          rw [if_neg hi] at this
          have := this m' σ' hag h'
          rw [hex] at this
          exact this
      | normal => rw [hex] at this; have := this m' σ' hag h'; rw [hex] at this; exact this
      | goto l => rw [hex] at this; have := this m' σ' hag h'; rw [hex] at this; exact this
      | ret => rw [hex] at this; have := this m' σ' hag h'; rw [hex] at this; exact this
      | panic c => rw [hex] at this; have := this m' σ' hag h'; rw [hex] at this; exact this
      | outgrown => rw [hex] at this; have := this m' σ' hag h'; rw [hex] at this; exact this
  | .loop x, a, s, os, hs => by
    simp only [lcS] at hs
    have hnext : ∀ (a : AAct) (s : SH) (os : List Out), lcS G ent call n x a s = some os → ∀ o ∈ os, s.next ≤ o.s.next := fun a s os h => (lcS_sound hG hent hcall h).1
    refine ⟨loopS_next hnext hs, fun {m φ σ} h {Q} hQ => ?_⟩
    refine ⟨fun k aa σ => ∃ m aS s1 os, aa = renA m aS ∧ loopS (lcS G ent call n x) k aS s1 = some os ∧ Sim m φ s1 σ ∧ ∀ o ∈ os, BehE m φ s1 o Q, ⟨n, σ, ⟨fun _ _ h => h, fun _ _ h => h⟩, m, a, s, os, rfl, hs, h, hQ⟩, ?_⟩
    rintro k aa σ1 ⟨m1, aS, s1, os1, rfl, hl, hsim, hbeh⟩
    cases k with
    | zero => simp [loopS] at hl
    | succ k =>
      simp only [loopS] at hl
      split at hl
      · rename_i os2 h2
        obtain ⟨p1, p2⟩ := lcS_sound hG hent hcall h2
        refine p2 hsim fun o ho m' σ' hag h' => ?_
        rcases after_sound hl ho with ⟨hex, lx, hlx, hsub⟩ | ⟨hex, hmem⟩
        · rw [hex]
          exact ⟨k, σ', Nat.lt_succ_self k, ⟨fun _ _ h => h, fun _ _ h => h⟩, m', o.a, o.s, lx, rfl, hlx, h', fun q hq => (hbeh q (hsub q hq)).then (p1 o ho) hag⟩
        · rw [then_ne hex]
          exact hbeh o hmem m' σ' hag h'
      · simp at hl
  | .scope x, a, s, os, hs => by
    simp only [lcS] at hs
    split at hs
    · rename_i os1 h1
      split at hs
      · rename_i hall
        simp only [Option.some.injEq] at hs
        subst hs
        obtain ⟨p1, p2⟩ := lcS_sound hG hent hcall h1
        refine ⟨p1, fun {m φ σ} h {Q} hQ => ?_⟩
        simp only [wpC]
        refine p2 h fun o ho m' σ' hag h' => ?_
        have h1 := List.all_eq_true.1 hall o ho
        have h2 := hQ o ho m' σ' hag h'
        cases hex : o.ex with
        | goto l => rw [hex] at h1; simp at h1
        | normal => rw [hex] at h2; exact h2
        | exit i => rw [hex] at h2; exact h2
        | ret => rw [hex] at h2; exact h2
        | panic c => rw [hex] at h2; exact h2
        | outgrown => rw [hex] at h2; exact h2
      · simp at hs
    · simp at hs
  | .rfun g ps x y, a, s, os, hs => by
    simp only [lcS] at hs
    split at hs
    · rename_i hc
      simp only [Bool.and_eq_true] at hc
      obtain ⟨⟨⟨⟨hok, hbg⟩, hba⟩, hroom⟩, hroom2⟩ := hc
      split at hs
      · rename_i fid first cap hf
        split at hs
        · rename_i hen
          split at hs
          · rename_i r hr
            obtain ⟨v, s2⟩ := r
            obtain ⟨h1, h2⟩ := hcall _ _ _ _ _ hr
            simp only [Option.map_eq_some_iff] at hs
            obtain ⟨o, ho, rfl⟩ := hs
            have hnx : s2.next ≤ o.s.next ∧ o.a = { a with defers := (.ptr s.next 0, []) :: a.defers } := by
              unfold rfunE at ho
              split at ho <;> simp only [Option.some.injEq, reduceCtorEq] at ho <;> subst ho <;> exact ⟨Nat.le_refl _, rfl⟩
            have hs1 : s.next + 2 ≤ s2.next := h1
            refine ⟨fun o' ho' => ?_, fun {m φ σ} h {Q} hQ => ?_⟩
            · simp only [List.mem_cons, List.not_mem_nil, or_false] at ho'
              subst ho'
              omega
            · simp only [wpC]
              intro rr ll hfr hfl hne
              have hag1 := Nm.agree_upd m s.next (rr, 0)
              have sim1 := h.push hroom (h.apart hfr) (o := .dfr) rfl
              have hap2 : Apart (m.upd s.next (rr, 0)) φ (s.push .dfr) ll := by
                refine sim1.apart ⟨?_, hfl.2⟩
                simp only [AH.set]
                rw [if_neg (Ne.symm hne)]
                exact hfl.1
              have hbenv : bdO (s.push .dfr).next (.loop a.env ⟨a.n, ps, x, y⟩ .ready) = true := by
                simp only [bdA, Bool.and_eq_true, List.all_eq_true] at hba
                simp only [bdO, List.all_eq_true]
                exact fun p hp => bd_mono (Nat.le_succ _) (hba.1 p hp)
              have sim2 := sim1.push hroom2 hap2 hbenv
              have hag2 : Nm.agree s.next m ((m.upd s.next (rr, 0)).upd (s.next + 1) (ll, 0)) := fun y hy => by
                rw [← hag1 y hy]
                simp only [Nm.upd]
                rw [if_neg (by omega)]
              rw [ev_renA hG hok, hf]
              rw [hf] at hbg
              simp only [bd, Bool.and_eq_true] at hbg
              refine ⟨hent _ hen, ?_⟩
              have h3 := h2 _ φ _ sim2
              have hargs : (first ++ [AV.yield (s.next + 1)] ++ cap).map (ren ((m.upd s.next (rr, 0)).upd (s.next + 1) (ll, 0))) = renL m first ++ [.yield ll] ++ renL m cap := by
                rw [List.map_append, List.map_append, ← renL_map, ← renL_map _ cap, renL_agree hag2 hbg.1, renL_agree hag2 hbg.2]
                simp [ren, Nm.upd]
              have hobj : renO (m.upd s.next (rr, 0)) (.loop a.env ⟨a.n, ps, x, y⟩ .ready) = .loop (renA m a).env ⟨(renA m a).n, ps, x, y⟩ .ready := by
                have := renA_agree hag1 hba
                simp only [renO, ← this]
                rfl
              have h3 : ECalls X fid _ _ _ := h3
              rw [show (s.push .dfr).next = s.next + 1 from rfl] at h3
              rw [hargs, hobj] at h3
              refine h3.mono fun v' σ' hq => ?_
              obtain ⟨m', g1, _, g2⟩ := hq
              have hag3 : Nm.agree s.next m m' := hag2.trans g1 (Nat.le_add_right _ 2)
              have hml : m' (s.next + 1) = (ll, 0) := by
                rw [g1 (s.next + 1) (Nat.lt_succ_self _)]
                simp [Nm.upd]
              have hmr : m' s.next = (rr, 0) := by
                rw [g1 s.next (by simp only [SH.push]; omega)]
                simp [Nm.upd]
              have hra : renA m' { a with defers := (.ptr s.next 0, []) :: a.defers } = { renA m a with defers := (.ptr rr 0, []) :: (renA m a).defers } := by
                have := renA_agree hag3 hba
                rw [← this]
                simp [renA, renD, ren, hmr]
              have hb := hQ o (List.mem_singleton_self _)
              unfold rfunE at ho
              unfold rpostA
              split at ho
              · rename_i env lr hl
                have hσ := g2.heap _ _ hl
                rw [hml] at hσ
                simp only [hσ, renO]
                simp only [Option.some.injEq] at ho
                subst ho
                have := hb m' _ hag3 (by have := g2.drop hl; rw [hml] at this; exact this)
                rw [hra] at this
                exact this
              · rename_i env lr hl
                have hσ := g2.heap _ _ hl
                rw [hml] at hσ
                simp only [hσ, renO]
                simp only [Option.some.injEq] at ho
                subst ho
                have := hb m' _ hag3 (by have := g2.drop hl; rw [hml] at this; exact this)
                rw [hra] at this
                exact this
              · rename_i env lr id hl
                have hσ := g2.heap _ _ hl
                rw [hml] at hσ
                simp only [hσ, renO]
                simp only [Option.some.injEq] at ho
                subst ho
                have := hb m' _ hag3 (by have := g2.drop hl; rw [hml] at this; exact this)
                rw [hra] at this
                exact this
              · simp at ho
          · simp at hs
        · simp at hs
      · simp at hs
    · simp at hs
  | .exit id, a, s, os, hs => by
    simp only [lcS, Option.some.injEq] at hs
    subst hs
    exact ⟨fun o ho => by simp only [List.mem_cons, List.not_mem_nil, or_false] at ho; subst ho; exact Nat.le_refl _, fun {m φ σ} h {Q} hQ => hQ _ (List.mem_singleton_self _) m σ (Nm.agree.refl _ _) h⟩
  | .ret, a, s, os, hs => by
    simp only [lcS, Option.some.injEq] at hs
    subst hs
    exact ⟨fun o ho => by simp only [List.mem_cons, List.not_mem_nil, or_false] at ho; subst ho; exact Nat.le_refl _, fun {m φ σ} h {Q} hQ => hQ _ (List.mem_singleton_self _) m σ (Nm.agree.refl _ _) h⟩

end
end Go.Scr
