/- The interpreter, written for the kernel: part 32 of a program logic over the model. No condition. -/
import Derived.Test.YtagjgpkomcmkbaaGreatDoorEcoreZe
import Derived.IntWalk
namespace Go.Scr
open Go

noncomputable def lkN {α : Type} (t : Nat) (l : List (Nat × α)) : Option α :=
  @List.rec (Nat × α) (fun _ => Option α) none (fun x _ ih => @Bool.rec (fun _ => Option α) ih (some x.2) (Nat.beq t x.1)) l
theorem lkN_eq {α : Type} (t : Nat) (l : List (Nat × α)) : lkN t l = l.lookup t := by
  induction l with
  | nil => rfl
  | cons x l ih =>
    obtain ⟨y, v⟩ := x
    show @Bool.rec (fun _ => Option α) (lkN t l) (some v) (Nat.beq t y) = _
    rw [ih, List.lookup_cons]
    cases h : Nat.beq t y with
    | true =>
      have : t = y := Nat.eq_of_beq_eq_true h
      subst this
      simp
    | false =>
      have : t ≠ y := Nat.ne_of_beq_eq_false h
      have : (t == y) = false := by simpa using this
      simp [this]
noncomputable def setN (b : Nat) (o : AObj) (l : List (Nat × AObj)) : List (Nat × AObj) :=
  @List.rec (Nat × AObj) (fun _ => List (Nat × AObj)) [(b, o)] (fun x l ih => @Bool.rec (fun _ => List (Nat × AObj)) (x :: ih) ((b, o) :: l) (Nat.beq x.1 b)) l
theorem setN_eq (b : Nat) (o : AObj) (l : List (Nat × AObj)) : setN b o l = setO b o l := by
  induction l with
  | nil => rfl
  | cons x l ih =>
    show @Bool.rec (fun _ => List (Nat × AObj)) (x :: setN b o l) ((b, o) :: l) (Nat.beq x.1 b) = _
    simp only [setO]
    rw [ih]
    cases h : Nat.beq x.1 b with
    | true => rw [if_pos (Nat.eq_of_beq_eq_true h)]
    | false => rw [if_neg (Nat.ne_of_beq_eq_false h)]
noncomputable def nthN {α : Type} (l : List α) : Nat → Option α :=
  @List.rec α (fun _ => Nat → Option α) (fun _ => none) (fun x _ ih i => @Nat.rec (fun _ => Option α) (some x) (fun j _ => ih j) i) l
theorem nthN_eq {α : Type} : ∀ (l : List α) (i : Nat), nthN l i = l[i]?
  | [], _ => rfl
  | x :: l, 0 => rfl
  | x :: l, i + 1 => by
    show nthN l i = _
    rw [nthN_eq l i]
    simp
noncomputable def getG (a : AAct) (t : Nat) : AV := @Option.rec AV (fun _ => AV) .undef (fun v => v) (lkN t a.env)
theorem getG_eq (a : AAct) (t : Nat) : getG a t = a.get t := by
  simp only [getG, AAct.get, lkN_eq]
  cases a.env.lookup t <;> rfl
noncomputable def evN (G : Nat → Option AV) (a : AAct) : Opd → AV
  | .t n => getG a n
  | .c v => v
  | .g n => match G n with
    | some v => .rptr [v]
    | none => .undef
theorem evN_eq (G : Nat → Option AV) (a : AAct) : evN G a = evG G a := by
  funext o
  cases o <;> simp only [evN, evG, getG_eq] <;> rfl

def kNum : IntKind → Nat
  | .i8 => 0 | .i16 => 1 | .i32 => 2 | .i64 => 3 | .u8 => 4 | .u16 => 5 | .u32 => 6 | .u64 => 7
theorem kNum_iff (k k' : IntKind) : Nat.beq (kNum k) (kNum k') = true ↔ k = k' := by cases k <;> cases k' <;> simp [kNum]
def ltI : Int → Int → Bool
  | .ofNat a, .ofNat b => Nat.ble (a + 1) b
  | .ofNat _, .negSucc _ => false
  | .negSucc _, .ofNat _ => true
  | .negSucc a, .negSucc b => Nat.ble (b + 1) a
theorem ltI_eq (x y : Int) : ltI x y = decide (x < y) := by
  rw [Bool.eq_iff_iff]
  cases x <;> cases y <;> simp only [ltI, Nat.ble_eq, decide_eq_true_eq, Int.ofNat_eq_natCast, Bool.false_eq_true, true_iff, false_iff] <;> omega
def eqI : Int → Int → Bool
  | .ofNat a, .ofNat b => Nat.beq a b
  | .negSucc a, .negSucc b => Nat.beq a b
  | _, _ => false
theorem eqI_eq (x y : Int) : eqI x y = (x == y) := by
  rw [Bool.eq_iff_iff]
  cases x <;> cases y <;> simp only [eqI, Nat.beq_eq, beq_iff_eq, Int.ofNat_eq_natCast] <;> first | omega | (constructor <;> intro h <;> first | omega | simp at h)
def wrapG (k : IntKind) (z : Int) : Int :=
  match k, z with
  | .i64, .ofNat n => bif Nat.ble n 9223372036854775807 then .ofNat n else IntKind.wrap .i64 (.ofNat n)
  | k, z => k.wrap z
theorem wrap_id (n : Nat) (h : n ≤ 9223372036854775807) : IntKind.wrap .i64 (.ofNat n) = .ofNat n := by
  have : IntKind.i64.wrap (n : Int) = n := IntWalk.i64_in (n : Int) (by omega)
  exact this
theorem wrapG_eq (k : IntKind) (z : Int) : wrapG k z = k.wrap z := by
  unfold wrapG
  split
  · rename_i n
    cases h : Nat.ble n 9223372036854775807 with
    | true => simp only [cond_true]; exact (wrap_id n (Nat.le_of_ble_eq_true h)).symm
    | false => rfl
  · rfl
def eqS (x y : List UInt8) : Bool :=
  match x, y with
  | [], [] => true
  | a :: as, b :: bs => Nat.beq a.toNat b.toNat && eqS as bs
  | _, _ => false
theorem eqS_eq : ∀ (x y : List UInt8), eqS x y = (x == y)
  | [], [] => rfl
  | [], _ :: _ => rfl
  | _ :: _, [] => rfl
  | a :: as, b :: bs => by
    simp only [eqS, eqS_eq as bs]
    rw [Bool.eq_iff_iff]
    simp [UInt8.toNat_inj]
def binIG (op : BinOp) (k : IntKind) (x y : Int) : Option AV :=
  match op with
  | .add => some (.int k (wrapG k (x + y)))
  | .sub => some (.int k (wrapG k (x - y)))
  | .eql => some (.bool (eqI x y))
  | .neq => some (.bool (!eqI x y))
  | .lss => some (.bool (ltI x y))
  | .leq => some (.bool (!ltI y x))
  | .gtr => some (.bool (ltI y x))
  | .geq => some (.bool (!ltI x y))
  | op => binI op k x y
theorem binIG_eq (op : BinOp) (k : IntKind) (x y : Int) : binIG op k x y = binI op k x y := by
  cases op <;> simp only [binIG, binI, wrapG_eq, eqI_eq, ltI_eq] <;> first | rfl | (congr 2; rw [Bool.eq_iff_iff]; simp)
def binG (op : BinOp) (x y : AV) : Option AV :=
  match x, y with
  | .int k a, .int k' b => (match op with
    | .shl => shiftI .shl k a b
    | .shr => shiftI .shr k a b
    | op => bif Nat.beq (kNum k) (kNum k') then binIG op k a b else none)
  | .str a, .str b => (match op with
    | .eql => some (.bool (eqS a b))
    | .neq => some (.bool (!eqS a b))
    | op => binS op a b)
  | _, _ => none
theorem binG_eq (op : BinOp) (x y : AV) : binG op x y = binA op x y := by
  cases x <;> cases y <;> try rfl
  case int.int k a k' b =>
    have hk : (bif Nat.beq (kNum k) (kNum k') then binI op k a b else none) = if k = k' then binI op k a b else none := by
      by_cases h : k = k'
      · rw [if_pos h, (kNum_iff k k').2 h]; rfl
      · rw [if_neg h]
        cases hb : Nat.beq (kNum k) (kNum k') with
        | true => exact absurd ((kNum_iff k k').1 hb) h
        | false => rfl
    cases op <;> simp only [binG, binA, binIG_eq, hk] <;> simp
  case str.str a b =>
    cases op <;> simp only [binG, binA, binS, eqS_eq]
noncomputable def partG (n : Option Nat) (off : Nat) (xs : List AV) : Option AV :=
  match n with
  | none => nthN xs off
  | some n => bif Nat.ble (off + n) xs.length then some (.agg ((xs.drop off).take n)) else none
theorem partG_eq (n : Option Nat) (off : Nat) (xs : List AV) : partG n off xs = partA n off xs := by
  cases n with
  | none => exact nthN_eq xs off
  | some n =>
    simp only [partG, partA]
    by_cases h : off + n ≤ xs.length
    · rw [if_pos h, Nat.ble_eq_true_of_le h]; rfl
    · rw [if_neg h]
      cases hb : Nat.ble (off + n) xs.length with
      | true => exact absurd (Nat.le_of_ble_eq_true hb) h
      | false => rfl
noncomputable def loadG (s : SH) (n : Option Nat) : AV → Option AV
  | .rptr cs => partG n 0 cs
  | .ptr b o => match lkN b s.h with
    | some (.cells vs) => partG n o vs
    | _ => none
  | _ => none
theorem loadG_eq (s : SH) (n : Option Nat) (x : AV) : loadG s n x = loadA s.toAH n x := by
  cases x <;> try rfl
  · simp only [loadG, loadA, lkN_eq, partG_eq, SH.toAH]
    rfl
  · simp only [loadG, loadA, partG_eq]
noncomputable def ixaG (z : Nat) (x i : AV) : Option AV :=
  match x, i with
  | .list z' _ xs, .int _ (.ofNat j) => bif Nat.beq z z' then (match nthN xs j with
    | some x => some (.rptr x.cells)
    | none => none) else none
  | x, i => ixaA z x i
theorem ixaG_eq (z : Nat) (x i : AV) : ixaG z x i = ixaA z x i := by
  unfold ixaG
  split
  · rename_i z' tok xs k j
    simp only [ixaA, nthN_eq]
    by_cases hz : z = z'
    · subst hz
      simp only [Nat.beq_refl, cond_true, true_and]
      by_cases hj : j < xs.length
      · have : (0 : Int) ≤ Int.ofNat j ∧ Int.ofNat j < (xs.length : Int) := ⟨Int.natCast_nonneg _, Int.ofNat_lt.2 hj⟩
        rw [if_pos this]
        simp only [Int.toNat_natCast, Int.ofNat_eq_natCast, List.getElem?_eq_getElem hj, Option.map_some]
      · rw [List.getElem?_eq_none (by omega), if_neg]
        rintro ⟨_, h⟩
        exact hj (Int.ofNat_lt.1 h)
    · have : Nat.beq z z' = false := by
        cases hb : Nat.beq z z' with
        | true => exact absurd (Nat.eq_of_beq_eq_true hb) hz
        | false => rfl
      simp [this, hz]
  · rfl
noncomputable def ixsG (x i : AV) : Option AV :=
  match x, i with
  | .str l, .int _ (.ofNat j) => (match nthN l j with
    | some b => some (.int .u8 (.ofNat b.toNat))
    | none => none)
  | x, i => ixsA x i
theorem ixsG_eq (x i : AV) : ixsG x i = ixsA x i := by
  unfold ixsG
  split
  · rename_i l k j
    have : (0 : Int) ≤ Int.ofNat j := Int.natCast_nonneg _
    simp only [ixsA, nthN_eq]
    rw [if_pos this]
    simp only [Int.ofNat_eq_natCast, Int.toNat_natCast]
    cases l[j]? <;> rfl
  · rfl

noncomputable def putQ (a : AAct) (d : Option Nat) (s : SH) (v : Option AV) : Option (List (AAct × SH)) :=
  match v with
  | some v => some [(a.put d v, s)]
  | none => none
def putR (a : AAct) (d : Option Nat) (r : Option (AV × SH)) : Option (List (AAct × SH)) :=
  match r with
  | some r => some [(a.put d r.1, r.2)]
  | none => none
noncomputable def storeG (s : SH) (n : Nat) (x v : AV) : Option (AV × SH) :=
  match x with
  | .ptr b o => match lkN b s.h with
    | some (.cells vs) => if v.cells.length = n ∧ o + n ≤ vs.length ∧ v.cells.all AV.one = true then some (.undef, { s with h := setN b (.cells (vs.take o ++ v.cells ++ vs.drop (o + n))) s.h }) else none
    | _ => none
  | _ => none

noncomputable def exG (G : Nat → Option AV) (call : CallF) (d : Option Nat) (i : I1) (a : AAct) (s : SH) : Option (List (AAct × SH)) :=
  match i with
  | .mov x => some [(a.put d (evN G a x), s)]
  | .nilck x => putQ a d s (nilckA (evN G a x))
  | .bin op x y => putQ a d s (binG op (evN G a x) (evN G a y))
  | .eqb op x y => putQ a d s (eqbA op (evN G a x) (evN G a y))
  | .not x => putQ a d s (notA (evN G a x))
  | .fld off x => putQ a d s (fldA off (evN G a x))
  | .prt n off x => putQ a d s (prtA n off (evN G a x))
  | .ixa z x y => putQ a d s (ixaG z (evN G a x) (evN G a y))
  | .ixs x y => putQ a d s (ixsG (evN G a x) (evN G a y))
  | .ext j x => putQ a d s (extA j (evN G a x))
  | .len x => putQ a d s (lenA (evN G a x))
  | .lens x => putQ a d s (lensA (evN G a x))
  | .load n x => putQ a d s (loadG s n (evN G a x))
  | .store n x v => putR a d (storeG s n (evN G a x) (evN G a v))
  | .alloc zero => some [(a.put d (.ptr s.next 0), s.push (.cells zero))]
  | .call f xs => (match evN G a f with
    | .func fid first cap => putR a d (call (.fn fid) (first ++ xs.map (evN G a) ++ cap) s)
    | .yield y => putR a d (call (.yl y) (xs.map (evN G a)) s)
    | _ => none)
  | .nxt x => (match nxtS s (evN G a x) with
    | some os => some (os.map fun r => (a.put d r.1, r.2))
    | none => none)
  | .defer f xs => if isFunc (evN G a f) = true then some [(AAct.put { a with defers := (evN G a f, xs.map (evN G a)) :: a.defers } d .undef, s)] else none
  | .same i => if chkF G d i a s = true then some [(a, s)] else none
  | i => putR a d (stepF s (evN G a) i)

def isSame : I1 → Bool
  | .same _ => true
  | _ => false

/-- By a guard: to be done, not to be done, or neither. -/
def gdG {α : Type} (v : AV) (want : Bool) (x y z : α) : α :=
  match v with
  | .bool b => bif xor b want then y else x
  | .tuple [] => y
  | _ => z

noncomputable def oneG (G : Nat → Option AV) (call : CallF) (l : L1) (a : AAct) (s : SH) : Option (List (AAct × SH)) :=
  match l.guard with
  | none => exG G call l.dst l.op a s
  | some g => gdG (getG a g.1) g.2 (exG G call l.dst l.op a s) (bif isSame l.op then some [(a, s)] else some [(a.put l.dst (.tuple []), s)]) none

def thenG (ih : AAct → SH → Option (List (AAct × SH))) (o : Option (List (AAct × SH))) : Option (List (AAct × SH)) :=
  match o with
  | some [r] => ih r.1 r.2
  | some os => bindO (fun r => ih r.1 r.2) os
  | none => none

noncomputable def regG (G : Nat → Option AV) (call : CallF) (l : List L1) : AAct → SH → Option (List (AAct × SH)) :=
  @List.rec L1 (fun _ => AAct → SH → Option (List (AAct × SH))) (fun a s => some [(a, s)]) (fun l _ ih a s => thenG ih (oneG G call l a s)) l

noncomputable def gtG (G : Nat → Option AV) (call : CallF) : GT → AAct → SH → Option (List (AAct × SH))
  | .done, a, s => some [(a, s)]
  | .st l t, a, s => thenG (gtG G call t) (regG G call l a s)
  | .br t u, a, s => match gtG G call t a s, gtG G call u a s with
    | some x, some y => some (x ++ y)
    | _, _ => none

noncomputable def keepG (a : AAct) (l : List Nat) : AAct := { a with env := @List.rec Nat (fun _ => List (Nat × AV)) [] (fun t _ ih => (t, getG a t) :: ih) l }
theorem keepG_eq (a : AAct) (l : List Nat) : keepG a l = a.keep l := by
  simp only [keepG, AAct.keep]
  congr 1
  induction l with
  | nil => rfl
  | cons t l ih =>
    show (t, getG a t) :: _ = _
    rw [ih, getG_eq]
    rfl
noncomputable def kepG (keep : List Nat) (o : Option (List (AAct × SH))) : Option (List Out) :=
  match o with
  | some [r] => some [⟨.normal, keepG r.1 keep, r.2⟩]
  | some os => some (os.map fun r => ⟨.normal, keepG r.1 keep, r.2⟩)
  | none => none
def seqG (ih : AAct → SH → Option (List Out)) (o : Option (List Out)) : Option (List Out) :=
  match o with
  | some [o] => (match o.ex with
    | .normal => ih o.a o.s
    | _ => some [o])
  | some os => bindO (fun o => match o.ex with
    | .normal => ih o.a o.s
    | _ => some [o]) (merge os)
  | none => none

noncomputable def lcG (G : Nat → Option AV) (ent : FuncId → Bool) (call : CallF) (n : Nat) (lc : LC) : AAct → SH → Option (List Out) :=
  @LC.rec (fun _ => AAct → SH → Option (List Out))
    (fun a s => some [⟨.normal, a, s⟩])
    (fun l keep a s => kepG keep (regG G call l a s))
    (fun t keep a s => kepG keep (gtG G call t a s))
    (fun _ _ ihx ihy a s => seqG ihy (ihx a s))
    (fun c _ _ ihx ihy a s => match evN G a c with
      | .bool true => ihx a s
      | .bool false => ihy a s
      | _ => none)
    (fun id _ ihx a s => (ihx a s).map fun os => os.map fun o => match o.ex with
      | .exit i => if i = id then ⟨.normal, o.a, o.s⟩ else o
      | _ => o)
    (fun _ ihx a s => loopS ihx n a s)
    (fun _ ihx a s => match ihx a s with
      | some os => if os.all (fun o => match o.ex with | .goto _ => false | _ => true) = true then some os else none
      | none => none)
    (fun g ps x y _ _ a s => lcF G ent call n (.rfun g ps x y) a s)
    (fun id a s => some [⟨.exit id, a, s⟩])
    (fun a s => some [⟨.ret, a, s⟩])
    lc

noncomputable def oneRes {α : Type} (f : α → Option (AV × SH)) (n : Nat) (os : List α) : Option (AV × SH) :=
  match os with
  | [o] => f o
  | os => match bindO (fun o => match f o with
      | some r => some [r]
      | none => none) os with
    | some rs => Scr.settle n rs
    | none => none

noncomputable def roundG (G : Nat → Option AV) (ent : FuncId → Bool) (call : CallF) (n : Nat) (l : Nat) (args : List AV) (s : SH) : Option (AV × SH) :=
  match lkN l s.h with
  | some (.loop env lr .ready) => if args.length = lr.ps.length then (match lcG G ent call n lr.as (putL lr.ps args ⟨env, [], lr.n⟩) s with
    | some os => match bindO (rbodS (lcG G ent call n lr.bd) l) (merge os) with
      | some os2 => oneRes (rendS l) s.next (merge os2)
      | none => none
    | none => none) else none
  | _ => none

noncomputable def callG (T : Nat → Option (LC × List RV × Nat)) (G : Nat → Option AV) (nat : NatF) (n : Nat) : Nat → Bool → CallF
  | 0, _, _, _, _ => none
  | k + 1, d, .yl l, args, s => if d then none else roundG G (fun f => (T f).isSome) (callG T G nat n k false) n l args s
  | k + 1, d, .fn f, args, s => match (if d = true then none else nat f args s) with
    | some r => some r
    | none => match T f with
    | none => none
    | some (lc, rvs, m) => if args.length ≤ m then (match lcG G (fun f => (T f).isSome) (callG T G nat n k false) n lc (initA m args) s with
      | some os => oneRes (endF (callG T G nat n k true) rvs s.next d) s.next (merge os)
      | none => none) else none

section
variable {G : Nat → Option AV} {call : CallF} {s : SH}

theorem exG_eq (d : Option Nat) (i : I1) (g : Option (Nat × Bool)) (a : AAct) (hns : isSame i = false) : exG G call d i a s = golF G call ⟨d, i, g⟩ a s := by
  have q : ∀ {v : Option AV}, putQ a d s v = ((v.map fun v => (v, s)).map fun r => (a.put d r.1, r.2)).map fun r => [r] := fun {v} => by cases v <;> rfl
  have p : ∀ {v : Option (AV × SH)}, putR a d v = (v.map fun r => (a.put d r.1, r.2)).map fun r => [r] := fun {v} => by cases v <;> rfl
  cases i <;> simp only [exG, golF, goF, stepF, evN_eq, p] <;> try rfl
  case nilck => rw [q]; rfl
  case bin => rw [q, binG_eq]; rfl
  case eqb => rw [q]; rfl
  case not => rw [q]; rfl
  case fld => rw [q]; rfl
  case prt => rw [q]; rfl
  case ixa => rw [q, ixaG_eq]; rfl
  case ixs => rw [q, ixsG_eq]; rfl
  case ext => rw [q]; rfl
  case len => rw [q]; rfl
  case lens => rw [q]; rfl
  case load => rw [q, loadG_eq]; rfl
  case store n x v =>
    congr 2
    simp only [storeG, stepSV, lkN_eq, setN_eq]
    rfl
  case call f xs => cases evG G a f <;> rfl
  case nxt x => cases nxtS s (evG G a x) <;> rfl
  case defer f xs => split <;> rfl
  case same i => simp [isSame] at hns

theorem gdG_eq {α : Type} (v : AV) (want : Bool) (x y z : α) : gdG v want x y z = match v with
    | .bool b => if b = want then x else y
    | .tuple [] => y
    | _ => z := by
  cases v <;> try rfl
  case bool b => cases b <;> cases want <;> rfl
  case tuple xs => cases xs <;> rfl
theorem gdG_if {α : Type} (v : AV) (want b : Bool) (x z : α) : gdG v want (if b = true then x else z) x z = if gdG v want b true false = true then x else z := by
  cases v <;> try rfl
  case bool c => cases c <;> cases want <;> rfl
  case tuple xs => cases xs <;> rfl
theorem sameF_eq (d : Option Nat) (i : I1) (g : Option (Nat × Bool)) (j : I1) (a : AAct) : sameF G ⟨d, j, g⟩ i a s = match g with
    | none => chkF G d i a s
    | some g => gdG (a.get g.1) g.2 (chkF G d i a s) true false := by
  cases g with
  | none => rfl
  | some g =>
    simp only [gdG_eq, sameF]
    rfl

theorem oneG_eq (l : L1) (a : AAct) : oneG G call l a s = oneF G call l a s := by
  obtain ⟨d, i, g⟩ := l
  cases hs : isSame i with
  | true =>
    cases i <;> simp only [isSame, Bool.false_eq_true] at hs
    rename_i j
    simp only [oneF, sameF_eq, oneG, isSame, cond_true, getG_eq]
    cases g with
    | none => rfl
    | some g =>
      exact gdG_if _ _ _ _ _
  | false =>
    have h1 : oneF G call ⟨d, i, g⟩ a s = match g with
        | none => golF G call ⟨d, i, g⟩ a s
        | some g' => gdG (a.get g'.1) g'.2 (golF G call ⟨d, i, g⟩ a s) (some [(a.put d (.tuple []), s)]) none := by
      cases i <;> simp only [isSame, Bool.true_eq_false] at hs <;> cases g <;> simp only [oneF, gdG_eq] <;> rfl
    rw [h1]
    simp only [oneG, hs, cond_false, getG_eq]
    cases g with
    | none => exact exG_eq d i none a hs
    | some g => simp only [exG_eq d i (some g) a hs]

theorem thenG_eq (ih : AAct → SH → Option (List (AAct × SH))) (o : Option (List (AAct × SH))) : thenG ih o = match o with
    | some os => bindO (fun r => ih r.1 r.2) os
    | none => none := by
  unfold thenG
  split
  · rename_i r
    simp only [bindO]
    cases ih r.1 r.2 <;> simp
  · rfl
  · rfl

theorem regG_eq : ∀ (l : List L1) (a : AAct) (s : SH), regG G call l a s = regF G call l a s
  | [], _, _ => rfl
  | l :: ls, a, s => by
    show thenG (regG G call ls) (oneG G call l a s) = _
    rw [thenG_eq, oneG_eq]
    simp only [regF]
    have : regG G call ls = regF G call ls := by funext a s; exact regG_eq ls a s
    rw [this]
    cases oneF G call l a s <;> rfl
theorem gtG_eq : ∀ (t : GT) (a : AAct) (s : SH), gtG G call t a s = gtF G call t a s
  | .done, _, _ => rfl
  | .st l t, a, s => by
    have : gtG G call t = gtF G call t := by funext a s; exact gtG_eq t a s
    simp only [gtG, gtF]
    rw [thenG_eq, regG_eq, this]
    cases regF G call l a s <;> rfl
  | .br t u, a, s => by
    simp only [gtG, gtF]
    rw [gtG_eq t, gtG_eq u]
    rfl
theorem kepG_eq (keep : List Nat) (o : Option (List (AAct × SH))) : kepG keep o = o.map fun os => os.map fun r => ⟨.normal, r.1.keep keep, r.2⟩ := by
  unfold kepG
  split <;> simp [keepG_eq]
theorem seqG_eq (ih : AAct → SH → Option (List Out)) (o : Option (List Out)) : seqG ih o = match o with
    | some os => bindO (fun o => match o.ex with
      | .normal => ih o.a o.s
      | _ => some [o]) (merge os)
    | none => none := by
  unfold seqG
  split
  · rename_i o
    have : merge [o] = [o] := by simp [merge]
    simp only [this, bindO]
    cases o.ex <;> simp
    cases ih o.a o.s <;> simp
  · rfl
  · rfl
theorem lcG_eq {ent : FuncId → Bool} {n : Nat} : ∀ (lc : LC) (a : AAct) (s : SH), lcG G ent call n lc a s = lcF G ent call n lc a s
  | .skip, _, _ => rfl
  | .reg l keep, a, s => by
    show kepG keep (regG G call l a s) = _
    rw [kepG_eq, regG_eq]
    rfl
  | .drw t keep, a, s => by
    show kepG keep (gtG G call t a s) = _
    rw [kepG_eq, gtG_eq]
    rfl
  | .seq x y, a, s => by
    show seqG (lcG G ent call n y) (lcG G ent call n x a s) = _
    have : lcG G ent call n y = lcF G ent call n y := by funext a s; exact lcG_eq y a s
    rw [seqG_eq, lcG_eq x, this]
    simp only [lcF]
    cases lcF G ent call n x a s <;> rfl
  | .cond c x y, a, s => by
    show (match evN G a c with
      | .bool true => lcG G ent call n x a s
      | .bool false => lcG G ent call n y a s
      | _ => none) = _
    rw [evN_eq, lcG_eq x, lcG_eq y]
    simp only [lcF]
    cases evG G a c <;> try rfl
  | .block id x, a, s => by
    show ((lcG G ent call n x a s).map _) = _
    rw [lcG_eq x]
    rfl
  | .loop x, a, s => by
    show loopS (lcG G ent call n x) n a s = _
    have : lcG G ent call n x = lcF G ent call n x := by funext a s; exact lcG_eq x a s
    rw [this]
    rfl
  | .scope x, a, s => by
    show (match lcG G ent call n x a s with
      | some os => if os.all (fun o => match o.ex with | .goto _ => false | _ => true) = true then some os else none
      | none => none) = _
    rw [lcG_eq x]
    simp only [lcF]
    cases lcF G ent call n x a s <;> rfl
  | .rfun g ps x y, a, s => rfl
  | .exit id, a, s => rfl
  | .ret, a, s => rfl

theorem oneRes_eq {α : Type} (f : α → Option (AV × SH)) (n : Nat) (os : List α) : oneRes f n os = match bindO (fun o => match f o with
      | some r => some [r]
      | none => none) os with
    | some rs => Scr.settle n rs
    | none => none := by
  unfold oneRes
  split
  · rename_i o
    simp only [bindO]
    cases f o <;> rfl
  · rfl

theorem roundG_eq {ent : FuncId → Bool} {n l : Nat} {args : List AV} : roundG G ent call n l args s = roundF G ent call n l args s := by
  have h : ∀ x, lcG G ent call n x = lcF G ent call n x := fun x => by funext a s; exact lcG_eq x a s
  simp only [roundG, roundF, lkN_eq, h, oneRes_eq]
  rfl

theorem callG_eq {T : Nat → Option (LC × List RV × Nat)} {nat : NatF} {n : Nat} : ∀ (k : Nat) (d : Bool), callG T G nat n k d = callF T G nat n k d
  | 0, _ => rfl
  | k + 1, d => by
    funext c args s
    have h1 := callG_eq (T := T) (nat := nat) (n := n) k false
    have h2 := callG_eq (T := T) (nat := nat) (n := n) k true
    cases c with
    | yl l =>
      simp only [callG, callF, h1]
      rw [roundG_eq]
    | fn f =>
      simp only [callG, callF, h1, h2, lcG_eq, oneRes_eq]
      rfl

end
end Go.Scr
