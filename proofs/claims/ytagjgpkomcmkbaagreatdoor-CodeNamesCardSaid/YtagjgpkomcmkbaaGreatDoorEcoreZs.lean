/- Lowered texts walked by rewriting: part 33 of a program logic over the model: what a step asks, said so that nothing is looked at ahead of its turn. No condition. -/
import Derived.Test.YtagjgpkomcmkbaaGreatDoorEcoreZf
namespace Go.Scr
open Go

section
variable {X : Ctx} {a : AAct} {σ : AH} {K : AAct → AH → Prop} {Q : EPost} {d : Option Nat} {ls : List L1}

/-- Behind an answer that turns nothing. -/
def sxQ (o : Option AV) (d : Option Nat) (a : AAct) (σ : AH) (K : AAct → AH → Prop) : Prop := optK o fun v => K (a.put d v) σ
@[congr] theorem sxQ_congr {o o' : Option AV} (h : o = o') : sxQ o d a σ K = sxQ o' d a σ K := by rw [h]
theorem sxQ_some {v : AV} : sxQ (some v) d a σ K = K (a.put d v) σ := rfl
theorem sxQ_none : sxQ none d a σ K = False := rfl

/-- By a guard. -/
def sxG (v : AV) (want : Bool) (p q : Prop) : Prop :=
  match v with
  | .bool b => if b = want then p else q
  | .tuple [] => q
  | _ => False
@[congr] theorem sxG_congr {v v' : AV} {w : Bool} {p q : Prop} (h : v = v') : sxG v w p q = sxG v' w p q := by rw [h]
theorem sxG_tt {p q : Prop} : sxG (.bool true) true p q = p := rfl
theorem sxG_tf {p q : Prop} : sxG (.bool true) false p q = q := rfl
theorem sxG_ft {p q : Prop} : sxG (.bool false) true p q = q := rfl
theorem sxG_ff {p q : Prop} : sxG (.bool false) false p q = p := rfl
theorem sxG_no {w : Bool} {p q : Prop} : sxG (.tuple []) w p q = q := rfl

/-- By a condition. -/
def sxC (v : AV) (p q : Prop) : Prop :=
  match v with
  | .bool b => if b = true then p else q
  | _ => False
@[congr] theorem sxC_congr {v v' : AV} {p q : Prop} (h : v = v') : sxC v p q = sxC v' p q := by rw [h]
theorem sxC_t {p q : Prop} : sxC (.bool true) p q = p := rfl
theorem sxC_f {p q : Prop} : sxC (.bool false) p q = q := rfl

/-- Behind a call. -/
def sxF (X : Ctx) (f : AV) (args : List AV) (σ : AH) (R : AV → AH → Prop) : Prop := ECallV X f args σ R
@[congr] theorem sxF_congr {f f' : AV} {args args' : List AV} {R : AV → AH → Prop} (h : f = f') (h' : args = args') : sxF X f args σ R = sxF X f' args' σ R := by rw [h, h']
theorem sxF_func {f : FuncId} {xs ys args : List AV} {R : AV → AH → Prop} : sxF X (.func f xs ys) args σ R = ECalls X f (xs ++ args ++ ys) σ R := rfl
theorem sxF_yield {l : Nat} {args : List AV} {R : AV → AH → Prop} : sxF X (.yield l) args σ R = EYield X l args σ R := rfl
@[congr] theorem ECalls_congr {f : FuncId} {args args' : List AV} {σ' : AH} {R : AV → AH → Prop} (h : args = args') (hs : σ = σ') : ECalls X f args σ R = ECalls X f args' σ' R := by rw [h, hs]
@[congr] theorem EYield_congr {l : Nat} {args args' : List AV} {σ' : AH} {R : AV → AH → Prop} (h : args = args') (hs : σ = σ') : EYield X l args σ R = EYield X l args' σ' R := by rw [h, hs]

/-- Behind what turns memory. -/
def sxO (o : Option AH) (k : AH → Prop) : Prop := optK o fun σ' => k σ'
@[congr] theorem sxO_congr {o o' : Option AH} {k : AH → Prop} (h : o = o') : sxO o k = sxO o' k := by rw [h]
theorem sxO_some {k : AH → Prop} : sxO (some σ) k = k σ := rfl
theorem sxO_none {k : AH → Prop} : sxO none k = False := rfl
def sxP (o : Option (AV × AH)) (k : AV → AH → Prop) : Prop := optK o fun r => k r.1 r.2
@[congr] theorem sxP_congr {o o' : Option (AV × AH)} {k : AV → AH → Prop} (h : o = o') : sxP o k = sxP o' k := by rw [h]
theorem sxP_some {v : AV} {k : AV → AH → Prop} : sxP (some (v, σ)) k = k v σ := rfl
theorem sxP_none {k : AV → AH → Prop} : sxP none k = False := rfl
/-- Behind a new block. -/
def sxN (σ : AH) (k : Nat → Prop) : Prop := ∀ b, σ.fresh b → k b
@[congr] theorem sxN_congr {σ' : AH} {k : Nat → Prop} (h : σ = σ') : sxN σ k = sxN σ' k := by rw [h]
def sxB (b : Bool) (p : Prop) : Prop := b = true ∧ p
@[congr] theorem sxB_congr {b b' : Bool} {p : Prop} (h : b = b') : sxB b p = sxB b' p := by rw [h]
theorem sxB_t {p : Prop} : sxB true p = p := by simp [sxB]
def sxT (p q : Prop) : Prop := p ∧ q
@[congr] theorem sxT_congr {p p' q : Prop} (h : p = p') : sxT p q = sxT p' q := by rw [h]
theorem sxT_t {q : Prop} : sxT True q = q := by simp [sxT]

/-- What is behind a region. -/
def keepK (Q : EPost) (keep : List Nat) (a : AAct) (σ : AH) : Prop := Q .normal (a.keep keep) σ

theorem sx_skip : wpC X .skip Q a σ = Q .normal a σ := rfl
theorem sx_reg {l : List L1} {keep : List Nat} : wpC X (.reg l keep) Q a σ = wpR X (keepK Q keep) l a σ := rfl
theorem sx_drw {t : GT} {keep : List Nat} : wpC X (.drw t keep) Q a σ = wpT X (keepK Q keep) t a σ := rfl
theorem sx_seq {x y : LC} : wpC X (.seq x y) Q a σ = wpC X x (EPost.then (wpC X y Q) Q) a σ := rfl
theorem sx_cond {c : Opd} {x y : LC} : wpC X (.cond c x y) Q a σ = sxC (ev X a c) (wpC X x Q a σ) (wpC X y Q a σ) := rfl
theorem sx_block {id : Nat} {x : LC} : wpC X (.block id x) Q a σ = wpC X x (EPost.inBlock id Q) a σ := rfl
theorem sx_scope {x : LC} : wpC X (.scope x) Q a σ = wpC X x (EPost.noGoto Q) a σ := rfl
theorem sx_exit {id : Nat} : wpC X (.exit id) Q a σ = Q (.exit id) a σ := rfl
theorem sx_ret : wpC X .ret Q a σ = Q .ret a σ := rfl
theorem sx_keep {keep : List Nat} : keepK Q keep a σ = Q .normal (a.keep keep) σ := rfl
theorem sx_then_n : EPost.then K Q .normal a σ = K a σ := rfl
theorem sx_then_e {id : Nat} : EPost.then K Q (.exit id) a σ = Q (.exit id) a σ := rfl
theorem sx_then_r : EPost.then K Q .ret a σ = Q .ret a σ := rfl
theorem sx_in_n {id : Nat} : EPost.inBlock id Q .normal a σ = Q .normal a σ := rfl
theorem sx_in_r {id : Nat} : EPost.inBlock id Q .ret a σ = Q .ret a σ := rfl
theorem sx_in_e {id i : Nat} : EPost.inBlock id Q (.exit i) a σ = if i = id then Q .normal a σ else Q (.exit i) a σ := rfl
theorem sx_ng_n : EPost.noGoto Q .normal a σ = Q .normal a σ := rfl
theorem sx_ng_r : EPost.noGoto Q .ret a σ = Q .ret a σ := rfl
theorem sx_ng_e {i : Nat} : EPost.noGoto Q (.exit i) a σ = Q (.exit i) a σ := rfl
theorem sx_done : wpT X K .done a σ = K a σ := rfl
theorem sx_st {l : List L1} {t : GT} : wpT X K (.st l t) a σ = wpR X (wpT X K t) l a σ := rfl
theorem sx_nil : wpR X K [] a σ = K a σ := rfl

theorem sx_guard {i : I1} {s : Nat} {w : Bool} (hns : isSame i = false) : wpR X K (⟨d, i, some (s, w)⟩ :: ls) a σ = sxG (a.get s) w (wpR X K (⟨d, i, none⟩ :: ls) a σ) (wpR X K ls (a.put d (.tuple [])) σ) := by
  cases i <;> simp only [isSame, Bool.true_eq_false] at hns <;> simp only [wpR, stepL, Scr.stepG] <;> unfold sxG <;> rfl

theorem sx_mov {x : Opd} : wpR X K (⟨d, .mov x, none⟩ :: ls) a σ = wpR X K ls (a.put d (ev X a x)) σ := rfl
theorem sx_pick {c x y : Opd} : wpR X K (⟨d, .pick c x y, none⟩ :: ls) a σ = sxQ (quietV (ev X a) σ (.pick c x y)) d a σ (wpR X K ls) := rfl
theorem sx_nilck {x : Opd} : wpR X K (⟨d, .nilck x, none⟩ :: ls) a σ = sxQ (nilckA (ev X a x)) d a σ (wpR X K ls) := rfl
theorem sx_bin {op : BinOp} {x y : Opd} : wpR X K (⟨d, .bin op x y, none⟩ :: ls) a σ = sxQ (binA op (ev X a x) (ev X a y)) d a σ (wpR X K ls) := rfl
theorem sx_eqb {op : BinOp} {x y : Opd} : wpR X K (⟨d, .eqb op x y, none⟩ :: ls) a σ = sxQ (eqbA op (ev X a x) (ev X a y)) d a σ (wpR X K ls) := rfl
theorem sx_eqp {op : BinOp} {x y : Opd} : wpR X K (⟨d, .eqp op x y, none⟩ :: ls) a σ = sxQ (eqpA op (ev X a x) (ev X a y)) d a σ (wpR X K ls) := rfl
theorem sx_eqn {op : BinOp} {x y : Opd} : wpR X K (⟨d, .eqn op x y, none⟩ :: ls) a σ = sxQ (eqnA op (ev X a x) (ev X a y)) d a σ (wpR X K ls) := rfl
theorem sx_eqs {neg : Bool} {ks : List Nat} {x y : Opd} : wpR X K (⟨d, .eqs neg ks x y, none⟩ :: ls) a σ = sxQ (eqsA neg ks (ev X a x) (ev X a y)) d a σ (wpR X K ls) := rfl
theorem sx_not {x : Opd} : wpR X K (⟨d, .not x, none⟩ :: ls) a σ = sxQ (notA (ev X a x)) d a σ (wpR X K ls) := rfl
theorem sx_neg {x : Opd} : wpR X K (⟨d, .neg x, none⟩ :: ls) a σ = sxQ (negA (ev X a x)) d a σ (wpR X K ls) := rfl
theorem sx_conv {k : IntKind} {x : Opd} : wpR X K (⟨d, .conv k x, none⟩ :: ls) a σ = sxQ (convA k (ev X a x)) d a σ (wpR X K ls) := rfl
theorem sx_cvs {x : Opd} : wpR X K (⟨d, .cvs x, none⟩ :: ls) a σ = sxQ (cvsA (ev X a x)) d a σ (wpR X K ls) := rfl
theorem sx_mkf {f : FuncId} {xs ys : List Opd} : wpR X K (⟨d, .mkf f xs ys, none⟩ :: ls) a σ = wpR X K ls (a.put d (.func f (xs.map (ev X a)) (ys.map (ev X a)))) σ := rfl
theorem sx_fld {off : Nat} {x : Opd} : wpR X K (⟨d, .fld off x, none⟩ :: ls) a σ = sxQ (fldA off (ev X a x)) d a σ (wpR X K ls) := rfl
theorem sx_prt {n : Option Nat} {off : Nat} {x : Opd} : wpR X K (⟨d, .prt n off x, none⟩ :: ls) a σ = sxQ (prtA n off (ev X a x)) d a σ (wpR X K ls) := rfl
theorem sx_ixa {z : Nat} {x y : Opd} : wpR X K (⟨d, .ixa z x y, none⟩ :: ls) a σ = sxQ (ixaA z (ev X a x) (ev X a y)) d a σ (wpR X K ls) := rfl
theorem sx_ixp {n z : Nat} {x y : Opd} : wpR X K (⟨d, .ixp n z x y, none⟩ :: ls) a σ = sxQ (ixpA n z (ev X a x) (ev X a y)) d a σ (wpR X K ls) := rfl
theorem sx_ixs {x y : Opd} : wpR X K (⟨d, .ixs x y, none⟩ :: ls) a σ = sxQ (ixsA (ev X a x) (ev X a y)) d a σ (wpR X K ls) := rfl
theorem sx_slc {z : Nat} {x : Opd} {lo hi : Option Opd} : wpR X K (⟨d, .slc z x lo hi, none⟩ :: ls) a σ = sxQ (slcA z (ev X a x) (lo.map (ev X a)) (hi.map (ev X a))) d a σ (wpR X K ls) := rfl
theorem sx_sls {x : Opd} {lo hi : Option Opd} : wpR X K (⟨d, .sls x lo hi, none⟩ :: ls) a σ = sxQ (slsA (ev X a x) (lo.map (ev X a)) (hi.map (ev X a))) d a σ (wpR X K ls) := rfl
theorem sx_ext {j : Nat} {x : Opd} : wpR X K (⟨d, .ext j x, none⟩ :: ls) a σ = sxQ (extA j (ev X a x)) d a σ (wpR X K ls) := rfl
theorem sx_len {x : Opd} : wpR X K (⟨d, .len x, none⟩ :: ls) a σ = sxQ (lenA (ev X a x)) d a σ (wpR X K ls) := rfl
theorem sx_lenm {x : Opd} : wpR X K (⟨d, .lenm x, none⟩ :: ls) a σ = sxQ (lenmA σ (ev X a x)) d a σ (wpR X K ls) := rfl
theorem sx_lens {x : Opd} : wpR X K (⟨d, .lens x, none⟩ :: ls) a σ = sxQ (lensA (ev X a x)) d a σ (wpR X K ls) := rfl
theorem sx_mx {xs : List Opd} : wpR X K (⟨d, .mx xs, none⟩ :: ls) a σ = sxQ (foldA mx2 (xs.map (ev X a))) d a σ (wpR X K ls) := rfl
theorem sx_mn {xs : List Opd} : wpR X K (⟨d, .mn xs, none⟩ :: ls) a σ = sxQ (foldA mn2 (xs.map (ev X a))) d a σ (wpR X K ls) := rfl
theorem sx_build {zero : List AV} {ps : List (Nat × Nat × Opd)} : wpR X K (⟨d, .build zero ps, none⟩ :: ls) a σ = sxQ ((fillA zero (ps.map fun p => (p.1, p.2.1, ev X a p.2.2))).map .agg) d a σ (wpR X K ls) := rfl
theorem sx_load {n : Option Nat} {x : Opd} : wpR X K (⟨d, .load n x, none⟩ :: ls) a σ = sxQ (loadA σ n (ev X a x)) d a σ (wpR X K ls) := rfl
theorem sx_ent {x : Opd} : wpR X K (⟨d, .ent x, none⟩ :: ls) a σ = sxQ (entA σ (ev X a x)) d a σ (wpR X K ls) := rfl
theorem sx_lookup {ag : Bool} {ks : List Nat} {zero : AV} {ok : Bool} {m k : Opd} : wpR X K (⟨d, .lookup ag ks zero ok m k, none⟩ :: ls) a σ = sxQ (lookupA σ ag ks zero ok (ev X a k) (ev X a m)) d a σ (wpR X K ls) := rfl
theorem sx_store {n : Nat} {x v : Opd} : wpR X K (⟨d, .store n x v, none⟩ :: ls) a σ = sxO (storeA σ n (ev X a v) (ev X a x)) fun σ' => wpR X K ls (a.put d .undef) σ' := rfl
theorem sx_alloc {zero : List AV} : wpR X K (⟨d, .alloc zero, none⟩ :: ls) a σ = sxN σ fun b => wpR X K ls (a.put d (.ptr b 0)) (σ.set b (.cells zero)) := rfl
theorem sx_box {x : Opd} : wpR X K (⟨d, .box x, none⟩ :: ls) a σ = sxB (ev X a x).ok (sxN σ fun b => wpR X K ls (a.put d (.ptr b 0)) (σ.set b (.cells (ev X a x).cells))) := rfl
theorem sx_mkmap : wpR X K (⟨d, .mkmap, none⟩ :: ls) a σ = sxN σ fun b => wpR X K ls (a.put d (.map (some b))) (σ.set b (.map [] 0)) := rfl
theorem sx_mapupd {ag : Bool} {ks : List Nat} {m k v : Opd} : wpR X K (⟨d, .mapupd ag ks m k v, none⟩ :: ls) a σ = sxO (mapupdA σ ag ks (ev X a k) (ev X a v) (ev X a m)) fun σ' => wpR X K ls (a.put d .undef) σ' := rfl
theorem sx_call {f : Opd} {xs : List Opd} : wpR X K (⟨d, .call f xs, none⟩ :: ls) a σ = sxF X (ev X a f) (xs.map (ev X a)) σ fun v σ' => wpR X K ls (a.put d v) σ' := rfl
theorem sx_frz {ag : Bool} {z : Nat} {x : Opd} : wpR X K (⟨d, .frz ag z x, none⟩ :: ls) a σ = sxP (frzA σ ag z (ev X a x)) fun v σ' => wpR X K ls (a.put d v) σ' := rfl

theorem sx_ev_t {t : Nat} : ev X a (.t t) = a.get t := rfl
theorem sx_ev_c {v : AV} : ev X a (.c v) = v := rfl
theorem sx_get_same {t : Nat} {v : AV} {n : Nat} {e : List (Nat × AV)} {ds : List (AV × List AV)} : AAct.get ⟨(t, v) :: e, ds, n⟩ t = v := by simp [AAct.get]
theorem sx_get {t s : Nat} {v : AV} {n : Nat} {e : List (Nat × AV)} {ds : List (AV × List AV)} : AAct.get ⟨(s, v) :: e, ds, n⟩ t = if t = s then v else AAct.get ⟨e, ds, n⟩ t := by
  simp only [AAct.get, List.lookup_cons]
  by_cases h : t = s
  · subst h; simp
  · have : (t == s) = false := by simpa using h
    simp [this, h]
theorem sx_get_nil {t n : Nat} {ds : List (AV × List AV)} : AAct.get ⟨[], ds, n⟩ t = .undef := rfl
theorem sx_put {t n : Nat} {v : AV} {e : List (Nat × AV)} {ds : List (AV × List AV)} : AAct.put ⟨e, ds, n⟩ (some t) v = ⟨(t, v) :: e, ds, n⟩ := rfl
theorem sx_put_none {v : AV} : a.put none v = a := rfl
theorem sx_keepA {n : Nat} {e : List (Nat × AV)} {ds : List (AV × List AV)} {l : List Nat} : AAct.keep ⟨e, ds, n⟩ l = ⟨l.map fun t => (t, AAct.get ⟨e, ds, n⟩ t), ds, n⟩ := rfl
theorem sx_init {n : Nat} {args : List AV} : initA n args = ⟨initEnv 0 args, [], n⟩ := rfl

theorem sx_fun_r {rvs : List RV} {R : AV → AH → Prop} : funPost X rvs R .ret a σ = leaveA X (finishA rvs R a) a.defers σ := rfl
theorem sx_fun_n {rvs : List RV} {R : AV → AH → Prop} : funPost X rvs R .normal a σ = leaveA X (finishA rvs R a) a.defers σ := rfl
theorem sx_leave {K : AH → Prop} : leaveA X K [] σ = K σ := rfl

theorem sxg_mov {x_ : Opd} {s : Nat} {w : Bool} : wpR X K (⟨d, .mov x_, some (s, w)⟩ :: ls) a σ = sxG (a.get s) w (wpR X K (⟨d, .mov x_, none⟩ :: ls) a σ) (wpR X K ls (a.put d (.tuple [])) σ) := sx_guard rfl
theorem sxg_pick {c_ : Opd} {x_ : Opd} {y_ : Opd} {s : Nat} {w : Bool} : wpR X K (⟨d, .pick c_ x_ y_, some (s, w)⟩ :: ls) a σ = sxG (a.get s) w (wpR X K (⟨d, .pick c_ x_ y_, none⟩ :: ls) a σ) (wpR X K ls (a.put d (.tuple [])) σ) := sx_guard rfl
theorem sxg_nilck {x_ : Opd} {s : Nat} {w : Bool} : wpR X K (⟨d, .nilck x_, some (s, w)⟩ :: ls) a σ = sxG (a.get s) w (wpR X K (⟨d, .nilck x_, none⟩ :: ls) a σ) (wpR X K ls (a.put d (.tuple [])) σ) := sx_guard rfl
theorem sxg_bin {op_ : BinOp} {x_ : Opd} {y_ : Opd} {s : Nat} {w : Bool} : wpR X K (⟨d, .bin op_ x_ y_, some (s, w)⟩ :: ls) a σ = sxG (a.get s) w (wpR X K (⟨d, .bin op_ x_ y_, none⟩ :: ls) a σ) (wpR X K ls (a.put d (.tuple [])) σ) := sx_guard rfl
theorem sxg_eqs {neg_ : Bool} {ks_ : List Nat} {x_ : Opd} {y_ : Opd} {s : Nat} {w : Bool} : wpR X K (⟨d, .eqs neg_ ks_ x_ y_, some (s, w)⟩ :: ls) a σ = sxG (a.get s) w (wpR X K (⟨d, .eqs neg_ ks_ x_ y_, none⟩ :: ls) a σ) (wpR X K ls (a.put d (.tuple [])) σ) := sx_guard rfl
theorem sxg_not {x_ : Opd} {s : Nat} {w : Bool} : wpR X K (⟨d, .not x_, some (s, w)⟩ :: ls) a σ = sxG (a.get s) w (wpR X K (⟨d, .not x_, none⟩ :: ls) a σ) (wpR X K ls (a.put d (.tuple [])) σ) := sx_guard rfl
theorem sxg_neg {x_ : Opd} {s : Nat} {w : Bool} : wpR X K (⟨d, .neg x_, some (s, w)⟩ :: ls) a σ = sxG (a.get s) w (wpR X K (⟨d, .neg x_, none⟩ :: ls) a σ) (wpR X K ls (a.put d (.tuple [])) σ) := sx_guard rfl
theorem sxg_conv {k_ : IntKind} {x_ : Opd} {s : Nat} {w : Bool} : wpR X K (⟨d, .conv k_ x_, some (s, w)⟩ :: ls) a σ = sxG (a.get s) w (wpR X K (⟨d, .conv k_ x_, none⟩ :: ls) a σ) (wpR X K ls (a.put d (.tuple [])) σ) := sx_guard rfl
theorem sxg_mkf {f_ : FuncId} {first_ : List Opd} {captured_ : List Opd} {s : Nat} {w : Bool} : wpR X K (⟨d, .mkf f_ first_ captured_, some (s, w)⟩ :: ls) a σ = sxG (a.get s) w (wpR X K (⟨d, .mkf f_ first_ captured_, none⟩ :: ls) a σ) (wpR X K ls (a.put d (.tuple [])) σ) := sx_guard rfl
theorem sxg_fld {off_ : Nat} {x_ : Opd} {s : Nat} {w : Bool} : wpR X K (⟨d, .fld off_ x_, some (s, w)⟩ :: ls) a σ = sxG (a.get s) w (wpR X K (⟨d, .fld off_ x_, none⟩ :: ls) a σ) (wpR X K ls (a.put d (.tuple [])) σ) := sx_guard rfl
theorem sxg_prt {n_ : Option Nat} {off_ : Nat} {x_ : Opd} {s : Nat} {w : Bool} : wpR X K (⟨d, .prt n_ off_ x_, some (s, w)⟩ :: ls) a σ = sxG (a.get s) w (wpR X K (⟨d, .prt n_ off_ x_, none⟩ :: ls) a σ) (wpR X K ls (a.put d (.tuple [])) σ) := sx_guard rfl
theorem sxg_ixa {z_ : Nat} {x_ : Opd} {i_ : Opd} {s : Nat} {w : Bool} : wpR X K (⟨d, .ixa z_ x_ i_, some (s, w)⟩ :: ls) a σ = sxG (a.get s) w (wpR X K (⟨d, .ixa z_ x_ i_, none⟩ :: ls) a σ) (wpR X K ls (a.put d (.tuple [])) σ) := sx_guard rfl
theorem sxg_ixp {n_ : Nat} {z_ : Nat} {x_ : Opd} {i_ : Opd} {s : Nat} {w : Bool} : wpR X K (⟨d, .ixp n_ z_ x_ i_, some (s, w)⟩ :: ls) a σ = sxG (a.get s) w (wpR X K (⟨d, .ixp n_ z_ x_ i_, none⟩ :: ls) a σ) (wpR X K ls (a.put d (.tuple [])) σ) := sx_guard rfl
theorem sxg_ixs {x_ : Opd} {i_ : Opd} {s : Nat} {w : Bool} : wpR X K (⟨d, .ixs x_ i_, some (s, w)⟩ :: ls) a σ = sxG (a.get s) w (wpR X K (⟨d, .ixs x_ i_, none⟩ :: ls) a σ) (wpR X K ls (a.put d (.tuple [])) σ) := sx_guard rfl
theorem sxg_slc {z_ : Nat} {x_ : Opd} {lo_ : Option Opd} {hi_ : Option Opd} {s : Nat} {w : Bool} : wpR X K (⟨d, .slc z_ x_ lo_ hi_, some (s, w)⟩ :: ls) a σ = sxG (a.get s) w (wpR X K (⟨d, .slc z_ x_ lo_ hi_, none⟩ :: ls) a σ) (wpR X K ls (a.put d (.tuple [])) σ) := sx_guard rfl
theorem sxg_sls {x_ : Opd} {lo_ : Option Opd} {hi_ : Option Opd} {s : Nat} {w : Bool} : wpR X K (⟨d, .sls x_ lo_ hi_, some (s, w)⟩ :: ls) a σ = sxG (a.get s) w (wpR X K (⟨d, .sls x_ lo_ hi_, none⟩ :: ls) a σ) (wpR X K ls (a.put d (.tuple [])) σ) := sx_guard rfl
theorem sxg_ext {i_ : Nat} {x_ : Opd} {s : Nat} {w : Bool} : wpR X K (⟨d, .ext i_ x_, some (s, w)⟩ :: ls) a σ = sxG (a.get s) w (wpR X K (⟨d, .ext i_ x_, none⟩ :: ls) a σ) (wpR X K ls (a.put d (.tuple [])) σ) := sx_guard rfl
theorem sxg_len {x_ : Opd} {s : Nat} {w : Bool} : wpR X K (⟨d, .len x_, some (s, w)⟩ :: ls) a σ = sxG (a.get s) w (wpR X K (⟨d, .len x_, none⟩ :: ls) a σ) (wpR X K ls (a.put d (.tuple [])) σ) := sx_guard rfl
theorem sxg_lenm {x_ : Opd} {s : Nat} {w : Bool} : wpR X K (⟨d, .lenm x_, some (s, w)⟩ :: ls) a σ = sxG (a.get s) w (wpR X K (⟨d, .lenm x_, none⟩ :: ls) a σ) (wpR X K ls (a.put d (.tuple [])) σ) := sx_guard rfl
theorem sxg_lens {x_ : Opd} {s : Nat} {w : Bool} : wpR X K (⟨d, .lens x_, some (s, w)⟩ :: ls) a σ = sxG (a.get s) w (wpR X K (⟨d, .lens x_, none⟩ :: ls) a σ) (wpR X K ls (a.put d (.tuple [])) σ) := sx_guard rfl
theorem sxg_cvs {x_ : Opd} {s : Nat} {w : Bool} : wpR X K (⟨d, .cvs x_, some (s, w)⟩ :: ls) a σ = sxG (a.get s) w (wpR X K (⟨d, .cvs x_, none⟩ :: ls) a σ) (wpR X K ls (a.put d (.tuple [])) σ) := sx_guard rfl
theorem sxg_eqb {op_ : BinOp} {x_ : Opd} {y_ : Opd} {s : Nat} {w : Bool} : wpR X K (⟨d, .eqb op_ x_ y_, some (s, w)⟩ :: ls) a σ = sxG (a.get s) w (wpR X K (⟨d, .eqb op_ x_ y_, none⟩ :: ls) a σ) (wpR X K ls (a.put d (.tuple [])) σ) := sx_guard rfl
theorem sxg_eqp {op_ : BinOp} {x_ : Opd} {y_ : Opd} {s : Nat} {w : Bool} : wpR X K (⟨d, .eqp op_ x_ y_, some (s, w)⟩ :: ls) a σ = sxG (a.get s) w (wpR X K (⟨d, .eqp op_ x_ y_, none⟩ :: ls) a σ) (wpR X K ls (a.put d (.tuple [])) σ) := sx_guard rfl
theorem sxg_eqn {op_ : BinOp} {x_ : Opd} {y_ : Opd} {s : Nat} {w : Bool} : wpR X K (⟨d, .eqn op_ x_ y_, some (s, w)⟩ :: ls) a σ = sxG (a.get s) w (wpR X K (⟨d, .eqn op_ x_ y_, none⟩ :: ls) a σ) (wpR X K ls (a.put d (.tuple [])) σ) := sx_guard rfl
theorem sxg_mx {xs_ : List Opd} {s : Nat} {w : Bool} : wpR X K (⟨d, .mx xs_, some (s, w)⟩ :: ls) a σ = sxG (a.get s) w (wpR X K (⟨d, .mx xs_, none⟩ :: ls) a σ) (wpR X K ls (a.put d (.tuple [])) σ) := sx_guard rfl
theorem sxg_mn {xs_ : List Opd} {s : Nat} {w : Bool} : wpR X K (⟨d, .mn xs_, some (s, w)⟩ :: ls) a σ = sxG (a.get s) w (wpR X K (⟨d, .mn xs_, none⟩ :: ls) a σ) (wpR X K ls (a.put d (.tuple [])) σ) := sx_guard rfl
theorem sxg_build {zero_ : List AV} {parts_ : List (Nat × Nat × Opd)} {s : Nat} {w : Bool} : wpR X K (⟨d, .build zero_ parts_, some (s, w)⟩ :: ls) a σ = sxG (a.get s) w (wpR X K (⟨d, .build zero_ parts_, none⟩ :: ls) a σ) (wpR X K ls (a.put d (.tuple [])) σ) := sx_guard rfl
theorem sxg_load {n_ : Option Nat} {x_ : Opd} {s : Nat} {w : Bool} : wpR X K (⟨d, .load n_ x_, some (s, w)⟩ :: ls) a σ = sxG (a.get s) w (wpR X K (⟨d, .load n_ x_, none⟩ :: ls) a σ) (wpR X K ls (a.put d (.tuple [])) σ) := sx_guard rfl
theorem sxg_ent {x_ : Opd} {s : Nat} {w : Bool} : wpR X K (⟨d, .ent x_, some (s, w)⟩ :: ls) a σ = sxG (a.get s) w (wpR X K (⟨d, .ent x_, none⟩ :: ls) a σ) (wpR X K ls (a.put d (.tuple [])) σ) := sx_guard rfl
theorem sxg_lookup {ag_ : Bool} {ks_ : List Nat} {zero_ : AV} {ok_ : Bool} {m_ : Opd} {k_ : Opd} {s : Nat} {w : Bool} : wpR X K (⟨d, .lookup ag_ ks_ zero_ ok_ m_ k_, some (s, w)⟩ :: ls) a σ = sxG (a.get s) w (wpR X K (⟨d, .lookup ag_ ks_ zero_ ok_ m_ k_, none⟩ :: ls) a σ) (wpR X K ls (a.put d (.tuple [])) σ) := sx_guard rfl
theorem sxg_store {n_ : Nat} {x_ : Opd} {v_ : Opd} {s : Nat} {w : Bool} : wpR X K (⟨d, .store n_ x_ v_, some (s, w)⟩ :: ls) a σ = sxG (a.get s) w (wpR X K (⟨d, .store n_ x_ v_, none⟩ :: ls) a σ) (wpR X K ls (a.put d (.tuple [])) σ) := sx_guard rfl
theorem sxg_alloc {zero_ : List AV} {s : Nat} {w : Bool} : wpR X K (⟨d, .alloc zero_, some (s, w)⟩ :: ls) a σ = sxG (a.get s) w (wpR X K (⟨d, .alloc zero_, none⟩ :: ls) a σ) (wpR X K ls (a.put d (.tuple [])) σ) := sx_guard rfl
theorem sxg_box {x_ : Opd} {s : Nat} {w : Bool} : wpR X K (⟨d, .box x_, some (s, w)⟩ :: ls) a σ = sxG (a.get s) w (wpR X K (⟨d, .box x_, none⟩ :: ls) a σ) (wpR X K ls (a.put d (.tuple [])) σ) := sx_guard rfl
theorem sxg_blds {mode_ : Nat} {ag_ : Bool} {z_ : Nat} {n_ : Nat} {zero_ : List AV} {parts_ : List (Nat × Nat × Opd)} {s : Nat} {w : Bool} : wpR X K (⟨d, .blds mode_ ag_ z_ n_ zero_ parts_, some (s, w)⟩ :: ls) a σ = sxG (a.get s) w (wpR X K (⟨d, .blds mode_ ag_ z_ n_ zero_ parts_, none⟩ :: ls) a σ) (wpR X K ls (a.put d (.tuple [])) σ) := sx_guard rfl
theorem sxg_mkmap  {s : Nat} {w : Bool} : wpR X K (⟨d, .mkmap, some (s, w)⟩ :: ls) a σ = sxG (a.get s) w (wpR X K (⟨d, .mkmap, none⟩ :: ls) a σ) (wpR X K ls (a.put d (.tuple [])) σ) := sx_guard rfl
theorem sxg_mkslice {z_ : Nat} {bytes_ : Nat} {zero_ : List AV} {l_ : Opd} {c_ : Opd} {s : Nat} {w : Bool} : wpR X K (⟨d, .mkslice z_ bytes_ zero_ l_ c_, some (s, w)⟩ :: ls) a σ = sxG (a.get s) w (wpR X K (⟨d, .mkslice z_ bytes_ zero_ l_ c_, none⟩ :: ls) a σ) (wpR X K ls (a.put d (.tuple [])) σ) := sx_guard rfl
theorem sxg_append {mode_ : Nat} {ag_ : Bool} {z_ : Nat} {bytes_ : Nat} {x_ : Opd} {y_ : Opd} {s : Nat} {w : Bool} : wpR X K (⟨d, .append mode_ ag_ z_ bytes_ x_ y_, some (s, w)⟩ :: ls) a σ = sxG (a.get s) w (wpR X K (⟨d, .append mode_ ag_ z_ bytes_ x_ y_, none⟩ :: ls) a σ) (wpR X K ls (a.put d (.tuple [])) σ) := sx_guard rfl
theorem sxg_mapupd {ag_ : Bool} {ks_ : List Nat} {m_ : Opd} {k_ : Opd} {v_ : Opd} {s : Nat} {w : Bool} : wpR X K (⟨d, .mapupd ag_ ks_ m_ k_ v_, some (s, w)⟩ :: ls) a σ = sxG (a.get s) w (wpR X K (⟨d, .mapupd ag_ ks_ m_ k_ v_, none⟩ :: ls) a σ) (wpR X K ls (a.put d (.tuple [])) σ) := sx_guard rfl
theorem sxg_ment {ag_ : Bool} {ks_ : List Nat} {zero_ : AV} {m_ : Opd} {k_ : Opd} {s : Nat} {w : Bool} : wpR X K (⟨d, .ment ag_ ks_ zero_ m_ k_, some (s, w)⟩ :: ls) a σ = sxG (a.get s) w (wpR X K (⟨d, .ment ag_ ks_ zero_ m_ k_, none⟩ :: ls) a σ) (wpR X K ls (a.put d (.tuple [])) σ) := sx_guard rfl
theorem sxg_msto {m_ : Opd} {st_ : Opd} {v_ : Opd} {s : Nat} {w : Bool} : wpR X K (⟨d, .msto m_ st_ v_, some (s, w)⟩ :: ls) a σ = sxG (a.get s) w (wpR X K (⟨d, .msto m_ st_ v_, none⟩ :: ls) a σ) (wpR X K ls (a.put d (.tuple [])) σ) := sx_guard rfl
theorem sxg_rng {x_ : Opd} {s : Nat} {w : Bool} : wpR X K (⟨d, .rng x_, some (s, w)⟩ :: ls) a σ = sxG (a.get s) w (wpR X K (⟨d, .rng x_, none⟩ :: ls) a σ) (wpR X K ls (a.put d (.tuple [])) σ) := sx_guard rfl
theorem sxg_nxt {x_ : Opd} {s : Nat} {w : Bool} : wpR X K (⟨d, .nxt x_, some (s, w)⟩ :: ls) a σ = sxG (a.get s) w (wpR X K (⟨d, .nxt x_, none⟩ :: ls) a σ) (wpR X K ls (a.put d (.tuple [])) σ) := sx_guard rfl
theorem sxg_call {f_ : Opd} {xs_ : List Opd} {s : Nat} {w : Bool} : wpR X K (⟨d, .call f_ xs_, some (s, w)⟩ :: ls) a σ = sxG (a.get s) w (wpR X K (⟨d, .call f_ xs_, none⟩ :: ls) a σ) (wpR X K ls (a.put d (.tuple [])) σ) := sx_guard rfl
theorem sxg_defer {f_ : Opd} {xs_ : List Opd} {s : Nat} {w : Bool} : wpR X K (⟨d, .defer f_ xs_, some (s, w)⟩ :: ls) a σ = sxG (a.get s) w (wpR X K (⟨d, .defer f_ xs_, none⟩ :: ls) a σ) (wpR X K ls (a.put d (.tuple [])) σ) := sx_guard rfl
theorem sxg_frz {ag_ : Bool} {z_ : Nat} {x_ : Opd} {s : Nat} {w : Bool} : wpR X K (⟨d, .frz ag_ z_ x_, some (s, w)⟩ :: ls) a σ = sxG (a.get s) w (wpR X K (⟨d, .frz ag_ z_ x_, none⟩ :: ls) a σ) (wpR X K ls (a.put d (.tuple [])) σ) := sx_guard rfl

/-- What a function answers. -/
theorem sx_finish {rvs : List RV} {R : AV → AH → Prop} {l : List AV} (hl : resL σ a rvs = some l) (hR : R (packA l) σ) : finishA rvs R a σ := by
  unfold finishA
  rw [hl]
  exact ⟨_, σ, .refl _, le_refl' σ, hR⟩
end
end Go.Scr
