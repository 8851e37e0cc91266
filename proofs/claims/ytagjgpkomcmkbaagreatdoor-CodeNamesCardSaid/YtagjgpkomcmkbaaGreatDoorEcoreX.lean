/- Names of blocks are names: what a quiet instruction answers doesn't hang on them: part 24 of a program logic over the model. No condition. -/
import Derived.Test.YtagjgpkomcmkbaaGreatDoorEcoreU
namespace Go.Scr
open Go

/-- Other names for blocks; and, of those whose last cells are a slice's own, where these begin. -/
abbrev Nm := Nat → Nat × Nat

mutual
def ren (m : Nm) : AV → AV
  | .undef => .undef
  | .bool b => .bool b
  | .int k n => .int k n
  | .str s => .str s
  | .ptr b o => .ptr (m b).1 o
  | .nilptr => .nilptr
  | .rptr cs => .rptr (renL m cs)
  | .nil => .nil
  | .list z tok xs => .list z (tok.map fun t => m t.1) (renL m xs)
  | .slice z b o n => .slice z (m b).1 o n
  | .map r => .map (r.map fun b => (m b).1)
  | .func f xs ys => .func f (renL m xs) (renL m ys)
  | .nilFunc => .nilFunc
  | .yield l => .yield (m l).1
  | .iface t v => .iface t (ren m v)
  | .nilIface => .nilIface
  | .agg xs => .agg (renL m xs)
  | .tuple xs => .tuple (renL m xs)
def renL (m : Nm) : List AV → List AV
  | [] => []
  | v :: vs => ren m v :: renL m vs
end

mutual
/-- Are all the names in it below 'n'? -/
def bd (n : Nat) : AV → Bool
  | .undef | .bool _ | .int _ _ | .str _ | .nilptr | .nil | .nilFunc | .nilIface => true
  | .ptr b _ => Nat.blt b n
  | .yield l => Nat.blt l n
  | .rptr cs => bdL n cs
  | .list _ tok xs => (match tok with | none => true | some t => Nat.blt t.1 n) && bdL n xs
  | .slice _ b _ _ => Nat.blt b n
  | .map r => (match r with | none => true | some b => Nat.blt b n)
  | .func _ xs ys => bdL n xs && bdL n ys
  | .iface _ v => bd n v
  | .agg xs => bdL n xs
  | .tuple xs => bdL n xs
def bdL (n : Nat) : List AV → Bool
  | [] => true
  | v :: vs => bd n v && bdL n vs
end

theorem renL_map (m : Nm) (l : List AV) : renL m l = l.map (ren m) := by
  induction l with
  | nil => rfl
  | cons v l ih => simp [renL, ih]

def Nm.agree (n : Nat) (m m' : Nm) : Prop := ∀ x, x < n → m' x = m x
theorem Nm.agree.refl (n : Nat) (m : Nm) : Nm.agree n m m := fun _ _ => rfl
theorem Nm.agree.trans {n n' : Nat} {m m' m'' : Nm} (h : Nm.agree n m m') (h' : Nm.agree n' m' m'') (hn : n ≤ n') : Nm.agree n m m'' := fun x hx => (h' x (by omega)).trans (h x hx)

mutual
theorem ren_agree {n : Nat} {m m' : Nm} (h : Nm.agree n m m') : ∀ {v : AV}, bd n v = true → ren m' v = ren m v
  | .undef, _ | .bool _, _ | .int _ _, _ | .str _, _ | .nilptr, _ | .nil, _ | .nilFunc, _ | .nilIface, _ => rfl
  | .ptr b o, hb => by
    simp only [bd, Nat.blt_eq] at hb
    simp [ren, h b hb]
  | .yield b, hb => by
    simp only [bd, Nat.blt_eq] at hb
    simp [ren, h b hb]
  | .rptr cs, hb => by
    simp only [bd] at hb
    simp [ren, renL_agree h hb]
  | .list z none xs, hb => by
    simp only [bd, Bool.and_eq_true] at hb
    simp [ren, renL_agree h hb.2]
  | .list z (some t) xs, hb => by
    simp only [bd, Bool.and_eq_true, Nat.blt_eq] at hb
    simp [ren, renL_agree h hb.2, h _ hb.1]
  | .slice z b o k, hb => by
    simp only [bd, Nat.blt_eq] at hb
    simp [ren, h b hb]
  | .map none, _ => rfl
  | .map (some b), hb => by
    simp only [bd, Nat.blt_eq] at hb
    simp [ren, h b hb]
  | .func f xs ys, hb => by
    simp only [bd, Bool.and_eq_true] at hb
    simp [ren, renL_agree h hb.1, renL_agree h hb.2]
  | .iface t v, hb => by
    simp only [bd] at hb
    simp [ren, ren_agree h hb]
  | .agg xs, hb => by
    simp only [bd] at hb
    simp [ren, renL_agree h hb]
  | .tuple xs, hb => by
    simp only [bd] at hb
    simp [ren, renL_agree h hb]
theorem renL_agree {n : Nat} {m m' : Nm} (h : Nm.agree n m m') : ∀ {l : List AV}, bdL n l = true → renL m' l = renL m l
  | [], _ => rfl
  | v :: l, hb => by
    simp only [bdL, Bool.and_eq_true] at hb
    simp [renL, ren_agree h hb.1, renL_agree h hb.2]
end

mutual
theorem ren_closed (m : Nm) : ∀ {v : AV}, bd 0 v = true → ren m v = v
  | .undef, _ | .bool _, _ | .int _ _, _ | .str _, _ | .nilptr, _ | .nil, _ | .nilFunc, _ | .nilIface, _ => rfl
  | .ptr b o, hb => by simp [bd] at hb
  | .yield b, hb => by simp [bd] at hb
  | .rptr cs, hb => by
    simp only [bd] at hb
    simp [ren, renL_closed m hb]
  | .list z none xs, hb => by
    simp only [bd, Bool.and_eq_true] at hb
    simp [ren, renL_closed m hb.2]
  | .list z (some t) xs, hb => by simp [bd] at hb
  | .slice z b o k, hb => by simp [bd] at hb
  | .map none, _ => rfl
  | .map (some b), hb => by simp [bd] at hb
  | .func f xs ys, hb => by
    simp only [bd, Bool.and_eq_true] at hb
    simp [ren, renL_closed m hb.1, renL_closed m hb.2]
  | .iface t v, hb => by
    simp only [bd] at hb
    simp [ren, ren_closed m hb]
  | .agg xs, hb => by
    simp only [bd] at hb
    simp [ren, renL_closed m hb]
  | .tuple xs, hb => by
    simp only [bd] at hb
    simp [ren, renL_closed m hb]
theorem renL_closed (m : Nm) : ∀ {l : List AV}, bdL 0 l = true → renL m l = l
  | [], _ => rfl
  | v :: l, hb => by
    simp only [bdL, Bool.and_eq_true] at hb
    simp [renL, ren_closed m hb.1, renL_closed m hb.2]
end

mutual
theorem bd_mono {n n' : Nat} (h : n ≤ n') : ∀ {v : AV}, bd n v = true → bd n' v = true
  | .undef, _ | .bool _, _ | .int _ _, _ | .str _, _ | .nilptr, _ | .nil, _ | .nilFunc, _ | .nilIface, _ => rfl
  | .ptr b o, hb => by simp only [bd, Nat.blt_eq] at hb ⊢; omega
  | .yield b, hb => by simp only [bd, Nat.blt_eq] at hb ⊢; omega
  | .rptr cs, hb => by
    simp only [bd] at hb ⊢
    exact bdL_mono h hb
  | .list z none xs, hb => by
    simp only [bd, Bool.true_and] at hb ⊢
    exact bdL_mono h hb
  | .list z (some t) xs, hb => by
    simp only [bd, Bool.and_eq_true, Nat.blt_eq] at hb ⊢
    exact ⟨by omega, bdL_mono h hb.2⟩
  | .slice z b o k, hb => by simp only [bd, Nat.blt_eq] at hb ⊢; omega
  | .map none, _ => rfl
  | .map (some b), hb => by simp only [bd, Nat.blt_eq] at hb ⊢; omega
  | .func f xs ys, hb => by
    simp only [bd, Bool.and_eq_true] at hb ⊢
    exact ⟨bdL_mono h hb.1, bdL_mono h hb.2⟩
  | .iface t v, hb => by
    simp only [bd] at hb ⊢
    exact bd_mono h hb
  | .agg xs, hb => by
    simp only [bd] at hb ⊢
    exact bdL_mono h hb
  | .tuple xs, hb => by
    simp only [bd] at hb ⊢
    exact bdL_mono h hb
theorem bdL_mono {n n' : Nat} (h : n ≤ n') : ∀ {l : List AV}, bdL n l = true → bdL n' l = true
  | [], _ => rfl
  | v :: l, hb => by
    simp only [bdL, Bool.and_eq_true] at hb ⊢
    exact ⟨bd_mono h hb.1, bdL_mono h hb.2⟩
end

def renO (m : Nm) : AObj → AObj
  | .dfr => .dfr
  | .loop env lr st => .loop (env.map fun p => (p.1, ren m p.2)) lr st
  | .cells vs => .cells (renL m vs)
  | .map es c => .map (es.map fun x => (ren m x.1, ren m x.2.1, x.2.2)) c
  | .siter s p => .siter s p
  | .miter r a b c => .miter (r.map fun x => (m x).1) a b c

section
variable {m : Nm}

/-- A value in which no name stands. -/
def flatV : AV → Bool
  | .undef | .bool _ | .int _ _ | .str _ | .nilptr | .nil | .nilFunc | .nilIface => true
  | _ => false
theorem ren_flat {v : AV} (h : flatV v = true) : ren m v = v := by cases v <;> simp [flatV] at h <;> rfl

theorem cells_ren (v : AV) : (ren m v).cells = renL m v.cells := by cases v <;> simp [ren, AV.cells, renL]
theorem ok_ren (v : AV) : (ren m v).ok = v.ok := by cases v <;> rfl
theorem one_ren (v : AV) : (ren m v).one = v.one := by cases v <;> rfl
theorem isCell_ren (v : AV) : (ren m v).isCell = v.isCell := by cases v <;> rfl
theorem isFunc_ren (v : AV) : isFunc (ren m v) = isFunc v := by cases v <;> rfl
theorem all_one_ren (l : List AV) : (renL m l).all AV.one = l.all AV.one := by
  rw [renL_map, List.all_map]; congr 1; funext v; exact one_ren v
theorem all_isCell_ren (l : List AV) : (renL m l).all AV.isCell = l.all AV.isCell := by
  rw [renL_map, List.all_map]; congr 1; funext v; exact isCell_ren v
theorem grpOk_ren (ag : Bool) (l : List AV) : grpOk ag (renL m l) = grpOk ag l := by simp [grpOk, all_isCell_ren]
theorem len_ren (l : List AV) : (renL m l).length = l.length := by simp [renL_map]
theorem take_ren (k : Nat) (l : List AV) : renL m (l.take k) = (renL m l).take k := by simp [renL_map, List.map_take]
theorem drop_ren (k : Nat) (l : List AV) : renL m (l.drop k) = (renL m l).drop k := by simp [renL_map, List.map_drop]
theorem app_ren (l l' : List AV) : renL m (l ++ l') = renL m l ++ renL m l' := by simp [renL_map]
theorem flat_ren (l : List AV) : AV.flat (renL m l) = renL m (AV.flat l) := by
  induction l with
  | nil => rfl
  | cons v l ih =>
    have h1 : AV.flat (ren m v :: renL m l) = (ren m v).cells ++ AV.flat (renL m l) := rfl
    have h2 : AV.flat (v :: l) = v.cells ++ AV.flat l := rfl
    rw [renL, h1, h2, cells_ren, ih, app_ren]
theorem headD_ren (l : List AV) : (renL m l).headD .undef = ren m (l.headD .undef) := by cases l <;> rfl
theorem group_ren (ag : Bool) (z : Nat) : ∀ (n : Nat) (l : List AV), groupA ag z n (renL m l) = renL m (groupA ag z n l)
  | 0, _ => rfl
  | n + 1, l => by
    simp only [groupA, renL, ← drop_ren, group_ren ag z n]
    congr 1
    cases ag
    · exact headD_ren l
    · simp [ren, take_ren]

theorem get_ren (l : List AV) (i : Nat) : (renL m l)[i]? = (l[i]?).map (ren m) := by simp [renL_map]

theorem eqB_flat {op : BinOp} {b : Bool} {v : AV} (h : eqB op b = some v) : flatV v = true := by
  unfold eqB at h; split at h <;> simp at h <;> subst h <;> rfl
theorem binI_flat {op : BinOp} {k : IntKind} {x y : Int} {v : AV} (h : binI op k x y = some v) : flatV v = true := by
  unfold binI at h
  split at h <;> (try split at h) <;> simp at h <;> subst h <;> rfl
theorem shiftI_flat {op : BinOp} {k : IntKind} {x y : Int} {v : AV} (h : shiftI op k x y = some v) : flatV v = true := by
  unfold shiftI at h
  split at h
  · simp at h
  · split at h <;> simp at h <;> subst h <;> rfl
theorem binS_flat {op : BinOp} {x y : List UInt8} {v : AV} (h : binS op x y = some v) : flatV v = true := by
  unfold binS at h
  split at h <;> (try split at h) <;> simp at h <;> subst h <;> rfl

theorem binA_ren {op : BinOp} {x y v : AV} (h : binA op x y = some v) : binA op (ren m x) (ren m y) = some (ren m v) := by
  unfold binA at h
  split at h
  · split at h
    · rename_i hop
      rw [ren_flat (shiftI_flat h)]
      simp only [ren, binA, hop, if_true, h]
    · rename_i hop
      split at h
      · rename_i hk
        subst hk
        rw [ren_flat (binI_flat h)]
        simp only [ren, binA, hop, if_false, if_true, h]
      · simp at h
  · rw [ren_flat (binS_flat h)]
    simp only [ren, binA, h]
  · simp at h
theorem eqbA_ren {op : BinOp} {x y v : AV} (h : eqbA op x y = some v) : eqbA op (ren m x) (ren m y) = some (ren m v) := by
  unfold eqbA at h
  split at h
  · rw [ren_flat (eqB_flat h)]
    exact h
  · simp at h
theorem eqpA_ren {op : BinOp} {x y v : AV} (h : eqpA op x y = some v) : eqpA op (ren m x) (ren m y) = some (ren m v) := by
  unfold eqpA at h
  split at h <;> (try simp at h; done)
  all_goals (rw [ren_flat (eqB_flat h)]; exact h)
theorem eqnA_ren {op : BinOp} {x y v : AV} (h : eqnA op x y = some v) : eqnA op (ren m x) (ren m y) = some (ren m v) := by
  unfold eqnA at h
  split at h <;> (try simp at h; done)
  all_goals (rw [ren_flat (eqB_flat h)]; exact h)

theorem scalarEq_ren {k : Nat} {x y : AV} {b : Bool} (h : scalarEq k x y = some b) : scalarEq k (ren m x) (ren m y) = some b := by
  unfold scalarEq at h
  split at h <;> (try simp at h; done)
  all_goals exact h
theorem cellsEq_ren : ∀ {ks : List Nat} {xs ys : List AV} {b : Bool}, cellsEq ks xs ys = some b → cellsEq ks (renL m xs) (renL m ys) = some b
  | [], [], [], _, h => h
  | k :: ks, x :: xs, y :: ys, b, h => by
    simp only [cellsEq] at h
    simp only [renL, cellsEq]
    split at h
    · rename_i he
      rw [scalarEq_ren he]
      exact cellsEq_ren h
    · rename_i he
      rw [scalarEq_ren he]
      exact h
    · simp at h
  | [], [], _ :: _, _, h => by simp [cellsEq] at h
  | [], _ :: _, _, _, h => by simp [cellsEq] at h
  | _ :: _, [], _, _, h => by simp [cellsEq] at h
  | _ :: _, _ :: _, [], _, h => by simp [cellsEq] at h
theorem keyEq_ren {ag : Bool} {ks : List Nat} {x y : AV} {b : Bool} (h : keyEq ag ks x y = some b) : keyEq ag ks (ren m x) (ren m y) = some b := by
  unfold keyEq at h ⊢
  split at h
  · rename_i hag
    rw [if_pos hag]
    split at h
    · exact cellsEq_ren h
    · simp at h
  · rename_i hag
    rw [if_neg hag]
    split at h
    · exact scalarEq_ren h
    · simp at h

theorem fldA_ren {off : Nat} {x v : AV} (h : fldA off x = some v) : fldA off (ren m x) = some (ren m v) := by
  unfold fldA at h
  split at h <;> simp at h <;> subst h
  · rfl
  · simp [ren, fldA, drop_ren]
theorem partA_ren {n : Option Nat} {off : Nat} {xs : List AV} {v : AV} (h : partA n off xs = some v) : partA n off (renL m xs) = some (ren m v) := by
  unfold partA at h ⊢
  split at h
  · rw [get_ren, h]; rfl
  · split at h
    · rename_i hle
      rw [len_ren, if_pos hle]
      simp only [Option.some.injEq] at h
      subst h
      simp [ren, take_ren, drop_ren]
    · simp at h
theorem prtA_ren {n : Option Nat} {off : Nat} {x v : AV} (h : prtA n off x = some v) : prtA n off (ren m x) = some (ren m v) := by
  unfold prtA at h
  split at h
  · exact partA_ren h
  · simp at h
theorem ixaA_ren {z : Nat} {x i v : AV} (h : ixaA z x i = some v) : ixaA z (ren m x) (ren m i) = some (ren m v) := by
  unfold ixaA at h
  split at h
  · split at h
    · rename_i hc
      simp only [Option.map_eq_some_iff] at h
      obtain ⟨y, hy, rfl⟩ := h
      simp only [ren, ixaA, len_ren, hc, and_self, if_true, get_ren, hy, Option.map_some, cells_ren]
    · simp at h
  · split at h
    · rename_i hc
      simp only [Option.some.injEq] at h
      subst h
      simp only [ren, ixaA, hc, and_self, if_true]
    · simp at h
  · simp at h
theorem ixpA_ren {n z : Nat} {x i v : AV} (h : ixpA n z x i = some v) : ixpA n z (ren m x) (ren m i) = some (ren m v) := by
  unfold ixpA at h
  split at h
  · split at h
    · rename_i hc
      simp only [Option.some.injEq] at h
      subst h
      simp only [ren, ixpA, hc, and_self, if_true]
    · simp at h
  · split at h
    · rename_i hc
      simp only [Option.some.injEq] at h
      subst h
      simp only [ren, ixpA, hc, and_self, if_true, drop_ren]
    · simp at h
  · simp at h
theorem ixsA_ren {x i v : AV} (h : ixsA x i = some v) : ixsA (ren m x) (ren m i) = some (ren m v) := by
  unfold ixsA at h
  split at h
  · split at h
    · rename_i hc
      simp only [Option.map_eq_some_iff] at h
      obtain ⟨y, hy, rfl⟩ := h
      simp only [ren, ixsA, hc, if_true, hy, Option.map_some]
    · simp at h
  · simp at h

theorem boundsA_ren {len : Nat} {lo hi : Option AV} {r : Nat × Nat} (h : boundsA len lo hi = some r) : boundsA len (lo.map (ren m)) (hi.map (ren m)) = some r := by
  unfold boundsA at h
  split at h
  · split at h
    · exact h
    · exact h
    · simp at h
  · split at h
    · rename_i hc
      split at h
      · simpa [boundsA, ren, hc] using h
      · simpa [boundsA, ren, hc] using h
      · simp at h
    · simp at h
  · simp at h
theorem slcA_ren {z : Nat} {x v : AV} {lo hi : Option AV} (h : slcA z x lo hi = some v) : slcA z (ren m x) (lo.map (ren m)) (hi.map (ren m)) = some (ren m v) := by
  unfold slcA at h
  split at h
  · split at h
    · rename_i r hr
      simp only [Option.some.injEq] at h
      subst h
      simp only [ren, slcA, boundsA_ren hr]
    · simp at h
  · split at h
    · rename_i hz
      subst hz
      split at h
      · rename_i l hh hr
        simp only [Option.some.injEq] at h
        subst h
        simp only [ren, slcA, if_true, len_ren, boundsA_ren hr, drop_ren, take_ren, Option.some.injEq]
        split <;> simp
      · simp at h
    · simp at h
  · split at h
    · rename_i hz
      subst hz
      split at h
      · rename_i l hh hr
        simp only [Option.some.injEq] at h
        subst h
        simp only [ren, slcA, if_true, boundsA_ren hr]
        split <;> simp [ren, renL]
      · simp at h
    · simp at h
  · simp at h
theorem slsA_ren {x v : AV} {lo hi : Option AV} (h : slsA x lo hi = some v) : slsA (ren m x) (lo.map (ren m)) (hi.map (ren m)) = some (ren m v) := by
  unfold slsA at h
  split at h
  · split at h
    · rename_i l hh hr
      simp only [Option.some.injEq] at h
      subst h
      simp only [ren, slsA, boundsA_ren hr]
    · simp at h
  · simp at h
theorem lensA_ren {x v : AV} (h : lensA x = some v) : lensA (ren m x) = some (ren m v) := by
  unfold lensA at h; split at h <;> simp at h <;> subst h <;> rfl
theorem lenA_ren {x v : AV} (h : lenA x = some v) : lenA (ren m x) = some (ren m v) := by
  unfold lenA at h; split at h <;> simp at h <;> subst h <;> simp [ren, lenA, len_ren]
theorem mx2_ren {x y v : AV} (h : mx2 x y = some v) : mx2 (ren m x) (ren m y) = some (ren m v) := by
  unfold mx2 at h
  split at h
  · split at h
    · rename_i hk
      simp only [Option.some.injEq] at h
      subst h
      simp only [ren, mx2, hk, if_true]
    · simp at h
  · simp at h
theorem mn2_ren {x y v : AV} (h : mn2 x y = some v) : mn2 (ren m x) (ren m y) = some (ren m v) := by
  unfold mn2 at h
  split at h
  · split at h
    · rename_i hk
      simp only [Option.some.injEq] at h
      subst h
      simp only [ren, mn2, hk, if_true]
    · simp at h
  · simp at h
theorem foldlM_ren {f : AV → AV → Option AV} (hf : ∀ x y v, f x y = some v → f (ren m x) (ren m y) = some (ren m v)) : ∀ {xs : List AV} {x v : AV}, xs.foldlM f x = some v → (xs.map (ren m)).foldlM f (ren m x) = some (ren m v)
  | [], x, v, h => by
    simp only [List.foldlM_nil, pure, Option.some.injEq] at h
    subst h
    rfl
  | y :: xs, x, v, h => by
    simp only [List.foldlM_cons, Option.bind_eq_bind, Option.bind_eq_some_iff] at h
    obtain ⟨u, hu, h⟩ := h
    simp only [List.map_cons, List.foldlM_cons, Option.bind_eq_bind, hf _ _ _ hu, Option.bind_some]
    exact foldlM_ren hf h
theorem foldA_ren {f : AV → AV → Option AV} (hf : ∀ x y v, f x y = some v → f (ren m x) (ren m y) = some (ren m v)) {xs : List AV} {v : AV} (h : foldA f xs = some v) : foldA f (xs.map (ren m)) = some (ren m v) := by
  cases xs with
  | nil => simp [foldA] at h
  | cons x xs => exact foldlM_ren hf h
theorem fillA_ren : ∀ {ps : List (Nat × Nat × AV)} {cs cs' : List AV}, fillA cs ps = some cs' → fillA (renL m cs) (ps.map fun p => (p.1, p.2.1, ren m p.2.2)) = some (renL m cs')
  | [], cs, cs', h => by
    simp only [fillA, Option.some.injEq] at h
    subst h
    rfl
  | (off, size, v) :: ps, cs, cs', h => by
    simp only [fillA] at h
    split at h
    · rename_i hc
      simp only [List.map_cons, fillA, cells_ren, len_ren, ok_ren, hc, and_self, if_true, ← take_ren, ← drop_ren, ← app_ren]
      exact fillA_ren h
    · simp at h
theorem eqsA_ren {neg : Bool} {ks : List Nat} {x y v : AV} (h : eqsA neg ks x y = some v) : eqsA neg ks (ren m x) (ren m y) = some (ren m v) := by
  unfold eqsA at h
  split at h
  · simp only [Option.map_eq_some_iff] at h
    obtain ⟨b, hb, rfl⟩ := h
    simp only [ren, eqsA, cellsEq_ren hb, Option.map_some]
  · simp at h
theorem nilckA_ren {x v : AV} (h : nilckA x = some v) : nilckA (ren m x) = some (ren m v) := by
  unfold nilckA at h; split at h <;> simp at h <;> subst h <;> rfl
theorem notA_ren {x v : AV} (h : notA x = some v) : notA (ren m x) = some (ren m v) := by
  unfold notA at h; split at h <;> simp at h <;> subst h <;> rfl
theorem negA_ren {x v : AV} (h : negA x = some v) : negA (ren m x) = some (ren m v) := by
  unfold negA at h
  split at h
  · simp only [Option.some.injEq] at h
    subst h
    rfl
  · simp at h
theorem convA_ren {k : IntKind} {x v : AV} (h : convA k x = some v) : convA k (ren m x) = some (ren m v) := by
  unfold convA at h; split at h <;> simp at h <;> subst h <;> rfl
theorem cvsA_ren {x v : AV} (h : cvsA x = some v) : cvsA (ren m x) = some (ren m v) := by
  unfold cvsA at h; split at h <;> simp at h <;> subst h <;> rfl
theorem extA_ren {i : Nat} {x v : AV} (h : extA i x = some v) : extA i (ren m x) = some (ren m v) := by
  unfold extA at h
  split at h
  · simp only [ren, extA, get_ren, h, Option.map_some]
  · simp at h

/-- What lies in one heap lies in the other one, under its other name. -/
def Reads (m : Nm) (σ ρ : AH) : Prop := ∀ b o, σ.heap b = some o → ρ.heap (m b).1 = some (renO m o)

variable {σ ρ : AH}

theorem loadA_ren (hh : Reads m σ ρ) {n : Option Nat} {x v : AV} (h : loadA σ n x = some v) : loadA ρ n (ren m x) = some (ren m v) := by
  unfold loadA at h
  split at h
  · exact partA_ren h
  · split at h
    · rename_i vs hb
      have := hh _ _ hb
      simp only [ren, loadA, this, renO]
      exact partA_ren h
    · simp at h
  · simp at h
theorem lenmA_ren (hh : Reads m σ ρ) {x v : AV} (h : lenmA σ x = some v) : lenmA ρ (ren m x) = some (ren m v) := by
  unfold lenmA at h
  split at h
  · simp only [Option.some.injEq] at h
    subst h
    rfl
  · split at h
    · rename_i es c hb
      have := hh _ _ hb
      simp only [Option.some.injEq] at h
      subst h
      simp [ren, lenmA, this, renO]
    · simp at h
  · simp at h
theorem findA_ren {ag : Bool} {ks : List Nat} {k : AV} : ∀ {es : List (AV × AV × Nat)} {r : Option AV}, findA ag ks k es = some r → findA ag ks (ren m k) (es.map fun x => (ren m x.1, ren m x.2.1, x.2.2)) = some (r.map (ren m))
  | [], r, h => by
    simp only [findA, Option.some.injEq] at h
    subst h
    rfl
  | (k', v, n) :: es, r, h => by
    simp only [findA] at h
    simp only [List.map_cons, findA]
    split at h
    · rename_i he
      simp only [Option.some.injEq] at h
      subst h
      rw [keyEq_ren he]
      rfl
    · rename_i he
      rw [keyEq_ren he]
      exact findA_ren h
    · simp at h
theorem keyOk_ren {ag : Bool} {ks : List Nat} {k : AV} (h : keyOk ag ks k = true) : keyOk ag ks (ren m k) = true := by
  unfold keyOk at *
  rw [Option.isSome_iff_exists] at *
  obtain ⟨b, hb⟩ := h
  exact ⟨b, keyEq_ren hb⟩
theorem lookupA_ren (hh : Reads m σ ρ) {ag : Bool} {ks : List Nat} {zero : AV} (hz : ren m zero = zero) {ok : Bool} {k x v : AV} (h : lookupA σ ag ks zero ok k x = some v) : lookupA ρ ag ks zero ok (ren m k) (ren m x) = some (ren m v) := by
  unfold lookupA at h
  split at h
  · split at h
    · simp at h
    · rename_i hk
      have hk : keyOk ag ks k = true := by simpa using hk
      simp only [Option.some.injEq] at h
      subst h
      simp only [ren, lookupA, Option.map_none, keyOk_ren hk, Bool.not_true, Bool.false_eq_true, if_false]
      cases ok <;> simp [ren, renL, hz]
  · split at h
    · rename_i es c hb
      have hb' := hh _ _ hb
      split at h
      · simp at h
      · rename_i hk
        have hk : keyOk ag ks k = true := by simpa using hk
        simp only [ren, lookupA, Option.map_some, hb', renO, keyOk_ren hk, Bool.not_true, Bool.false_eq_true, if_false]
        split at h
        · rename_i hf
          rw [findA_ren hf]
          simp only [Option.some.injEq] at h
          subst h
          cases ok <;> simp [ren, renL]
        · rename_i hf
          rw [findA_ren hf]
          simp only [Option.some.injEq] at h
          subst h
          cases ok <;> simp [ren, renL, hz]
        · simp at h
    · simp at h
  · simp at h

theorem find_ren {stamp : Nat} : ∀ {es : List (AV × AV × Nat)} {e : AV × AV × Nat}, es.find? (fun e => e.2.2 == stamp) = some e → (es.map fun x => (ren m x.1, ren m x.2.1, x.2.2)).find? (fun e => e.2.2 == stamp) = some (ren m e.1, ren m e.2.1, e.2.2)
  | [], _, h => by simp at h
  | y :: es, e, h => by
    rw [List.find?_cons] at h
    rw [List.map_cons, List.find?_cons]
    split at h
    · rename_i hq
      simp only [Option.some.injEq] at h
      subst h
      simp only [hq]
    · rename_i hq
      simp only [hq]
      exact find_ren h
theorem entA_ren (hh : Reads m σ ρ) {x v : AV} (h : entA σ x = some v) : entA ρ (ren m x) = some (ren m v) := by
  unfold entA at h
  split at h
  · split at h
    · rename_i hb
      have hb' := hh _ _ hb
      split at h
      · rename_i stamp es clock hst hm
        have hm' := hh _ _ hm
        split at h
        · rename_i hc
          simp only [Option.map_eq_some_iff] at h
          obtain ⟨e, he, rfl⟩ := h
          simp only [ren, entA, hb', renO, Option.map_some, hst, hm', hc, if_true, find_ren he, renL]
        · simp at h
      · simp at h
    · simp at h
  · simp at h

/-- The values that are written into an instruction name no block. -/
def I1.closed : I1 → Bool
  | .build zero _ => bdL 0 zero
  | .lookup _ _ zero _ _ _ => bd 0 zero
  | .ment _ _ zero _ _ => bd 0 zero
  | .alloc zero => bdL 0 zero
  | .blds _ _ _ _ zero _ => bdL 0 zero
  | .mkslice _ _ zero _ _ => bdL 0 zero
  | _ => true

theorem quietV_ren (hh : Reads m σ ρ) {e : Opd → AV} {i : I1} (hc : i.closed = true) {v : AV} (h : quietV e σ i = some v) : quietV (fun o => ren m (e o)) ρ i = some (ren m v) := by
  cases i <;> simp only [quietV] at h ⊢ <;> try (simp at h; done)
  case mov => simp only [Option.some.injEq] at h; subst h; rfl
  case pick c x y =>
    split at h
    · rename_i b hb
      simp only [Option.some.injEq] at h
      subst h
      simp only [hb, ren]
      cases b <;> simp
    · simp at h
  case nilck => exact nilckA_ren h
  case bin => exact binA_ren h
  case eqs => exact eqsA_ren h
  case not => exact notA_ren h
  case neg => exact negA_ren h
  case conv => exact convA_ren h
  case mkf f xs ys =>
    simp only [Option.some.injEq] at h
    subst h
    simp [ren, renL_map, Function.comp_def]
  case fld => exact fldA_ren h
  case prt => exact prtA_ren h
  case ixa => exact ixaA_ren h
  case ixp => exact ixpA_ren h
  case ixs => exact ixsA_ren h
  case slc z x lo hi =>
    have := slcA_ren (m := m) h
    simp only [Option.map_map] at this
    exact this
  case sls x lo hi =>
    have := slsA_ren (m := m) h
    simp only [Option.map_map] at this
    exact this
  case ext => exact extA_ren h
  case len => exact lenA_ren h
  case lenm => exact lenmA_ren hh h
  case lens => exact lensA_ren h
  case cvs => exact cvsA_ren h
  case eqb => exact eqbA_ren h
  case eqp => exact eqpA_ren h
  case eqn => exact eqnA_ren h
  case mx xs =>
    have := foldA_ren (m := m) (f := mx2) (fun _ _ _ => mx2_ren) h
    rw [List.map_map] at this
    exact this
  case mn xs =>
    have := foldA_ren (m := m) (f := mn2) (fun _ _ _ => mn2_ren) h
    rw [List.map_map] at this
    exact this
  case build zero ps =>
    simp only [Option.map_eq_some_iff] at h
    obtain ⟨cs, hcs, rfl⟩ := h
    have := fillA_ren (m := m) hcs
    rw [List.map_map, renL_closed m hc] at this
    have e : (fun p => (p.1, p.2.1, ren m p.2.2)) ∘ (fun p : Nat × Nat × Opd => (p.1, p.2.1, e p.2.2)) = fun p => (p.1, p.2.1, ren m (e p.2.2)) := rfl
    rw [e] at this
    rw [this]
    rfl
  case load => exact loadA_ren hh h
  case ent => exact entA_ren hh h
  case lookup ag ks zero ok mm k => exact lookupA_ren hh (ren_closed m hc) h

end
end Go.Scr
