/- Each quiet instruction answers what the model's operation answers: part 8 of a program logic over the model: keys, structs held against each other, structs that are built. No condition but that the operation was lowered to it. -/
import Derived.Test.YtagjgpkomcmkbaaGreatDoorEcoreG
namespace Go.Scr
open Go

section
variable {P : Program} {w : World} {I : Imm}

theorem run_scalarEq (d : Nat) {t : TypeId} {k : Nat} (hk : kindP P t = some k) {x y : AV} {cx cy : Value} (hx : VRel w I x cx) (hy : VRel w I y cy) {b : Bool} (h : scalarEq k x y = some b) :
    (Op.equalIn (d + 1) t cx cy).run P w = .ok b w := by
  unfold scalarEq at h
  split at h
  · split at h
    · rename_i hc
      obtain ⟨rfl, rfl⟩ := hc
      simp only [Option.some.injEq] at h
      subst h
      obtain rfl := hx.int_inv
      obtain rfl := hy.int_inv
      unfold kindP at hk
      split at hk <;> simp_all
      rename_i hu
      simp [Op.equalIn, run_underlying hu]
    · simp at h
  · split at h
    · rename_i hc
      subst hc
      simp only [Option.some.injEq] at h
      subst h
      obtain ⟨s, rfl, rfl⟩ := hx.str_inv
      obtain ⟨s', rfl, rfl⟩ := hy.str_inv
      unfold kindP at hk
      split at hk <;> simp_all
      rename_i hu
      rw [run_equalIn_string w d t s s' hu, ByteArray.toList_eq, ByteArray.toList_eq]
      simp
    · simp at h
  · split at h
    · rename_i hc
      subst hc
      simp only [Option.some.injEq] at h
      subst h
      obtain rfl := hx.bool_inv
      obtain rfl := hy.bool_inv
      unfold kindP at hk
      split at hk <;> simp_all
      rename_i hu
      exact equalIn_bool d hu _ _
    · simp at h
  · simp at h

theorem kindP_shape {t : TypeId} {k : Nat} (h : kindP P t = some k) : shapeP P t = some none := by
  unfold kindP at h
  unfold shapeP
  split at h <;> simp_all

theorem run_cellsEq (d : Nat) {xs ys : List AV} {vs us : Array Value} (hx : VRels w I xs vs) (hy : VRels w I ys us) :
    ∀ (fs : List Field) (o : Nat) (ks : List Nat) (b : Bool), flatP P o fs = some ks → cellsEq ks (xs.drop o) (ys.drop o) = some b → (Op.eqFields (d + 1) vs us fs).run P w = .ok b w
  | [], o, ks, b, hf, h => by
    simp only [flatP, Option.some.injEq] at hf
    subst hf
    unfold cellsEq at h
    split at h
    · simp only [Option.some.injEq] at h
      subst h
      simp [Op.eqFields]
    · rename_i hks _ _
      cases hks
    · simp at h
  | f :: fs, o, ks, b, hf, h => by
    simp only [flatP] at hf
    split at hf
    · rename_i hc
      split at hf
      · rename_i k ks' hk hks
        simp only [Option.some.injEq] at hf
        subst hf
        cases hxd : xs.drop o with
        | nil => rw [hxd] at h; simp [cellsEq] at h
        | cons x xs' =>
          cases hyd : ys.drop o with
          | nil => rw [hxd, hyd] at h; simp [cellsEq] at h
          | cons y ys' =>
            rw [hxd, hyd] at h
            simp only [cellsEq] at h
            have hxo : xs[o]? = some x := by
              have := congrArg (·[0]?) hxd
              simpa [List.getElem?_drop] using this
            have hyo : ys[o]? = some y := by
              have := congrArg (·[0]?) hyd
              simpa [List.getElem?_drop] using this
            have hxs : xs.drop (o + 1) = xs' := by
              have := congrArg (List.drop 1) hxd
              simpa [List.drop_drop] using this
            have hys : ys.drop (o + 1) = ys' := by
              have := congrArg (List.drop 1) hyd
              simpa [List.drop_drop] using this
            obtain ⟨u, p1, p2⟩ := run_part (P := P) (kindP_shape hk) (off := o) hx (v := x) (by simpa [partA] using hxo)
            obtain ⟨u', p3, p4⟩ := run_part (P := P) (kindP_shape hk) (off := o) hy (v := y) (by simpa [partA] using hyo)
            obtain ⟨hname, rfl⟩ := hc
            cases hs : scalarEq k x y with
            | none => rw [hs] at h; simp at h
            | some r =>
              rw [hs] at h
              have hr := run_scalarEq (P := P) d hk p2 p4 hs
              cases r with
              | false =>
                simp only [Option.some.injEq] at h
                subst h
                simp [Op.eqFields, hname, p1, p3, hr]
              | true =>
                have ih := run_cellsEq d hx hy fs (f.offset + 1) ks' b hks (by rw [hxs, hys]; exact h)
                simp [Op.eqFields, hname, p1, p3, hr, ih]
      · simp at hf
    · simp at hf

theorem eqsP_spec {t : TypeId} {ks : List Nat} (h : eqsP P t = some ks) : ∃ fs, P.underlying t = some (.struct fs) ∧ P.stoodInHeld t = false ∧ P.eqGuardType P.depth t = false ∧ flatP P 0 fs.toList = some ks := by
  unfold eqsP at h
  split at h
  · rename_i fs hu
    split at h
    · rename_i hc
      exact ⟨fs, hu, hc.1, hc.2, h⟩
    · simp at h
  · simp at h

theorem run_structEq (d : Nat) {t : TypeId} {ks : List Nat} (hk : eqsP P t = some ks) {xs ys : List AV} {vs us : Array Value} (hx : VRels w I xs vs) (hy : VRels w I ys us) {b : Bool} (h : cellsEq ks xs ys = some b) :
    (Op.equalIn (d + 2) t (.agg vs) (.agg us)).run P w = .ok b w := by
  obtain ⟨fs, hu, h1, _, h3⟩ := eqsP_spec hk
  have hf : P.fieldsOf t = fs := by simp [Program.fieldsOf, hu]
  have := run_equalIn_struct (P := P) w (d + 1) t vs us (by rw [hf]; exact hu) h1
  rw [this, hf]
  exact run_cellsEq d hx hy fs.toList 0 ks b h3 (by simpa using h)

theorem run_keyEq (d : Nat) {t : TypeId} {r : Bool × List Nat} (hk : keyP P t = some r) {x y : AV} {cx cy : Value} (hx : VRel w I x cx) (hy : VRel w I y cy) {b : Bool} (h : keyEq r.1 r.2 x y = some b) :
    (Op.equalIn (d + 2) t cx cy).run P w = .ok b w := by
  unfold keyP at hk
  split at hk
  · simp only [Option.map_eq_some_iff] at hk
    obtain ⟨ks, hks, rfl⟩ := hk
    simp only [keyEq, if_true] at h
    split at h
    · obtain ⟨vs, rfl, hvs⟩ := hx.agg_inv
      obtain ⟨us, rfl, hus⟩ := hy.agg_inv
      exact run_structEq d hks hvs hus h
    · simp at h
  · simp only [Option.map_eq_some_iff] at hk
    obtain ⟨k, hks, rfl⟩ := hk
    simp only [keyEq, Bool.false_eq_true, if_false] at h
    exact run_scalarEq (d + 1) hks hx hy h

theorem run_eqs {op : BinOp} {t : TypeId} {x y : Operand} {a b : AV} {ca cb : Value} {v : AV} {ks : List Nat} {neg : Bool} (hk : eqsP P t = some ks) (hop : (op = .eql ∧ neg = false) ∨ (op = .neq ∧ neg = true))
    (ha : VRel w I a ca) (hb : VRel w I b cb) (h : eqsA neg ks a b = some v) :
    ∃ u, (do eqGuard op t x y ca cb; binOp op t ca cb : Sem Value).run P w = .ok u w ∧ VRel w I v u := by
  unfold eqsA at h
  split at h
  · obtain ⟨vs, rfl, hvs⟩ := ha.agg_inv
    obtain ⟨us, rfl, hus⟩ := hb.agg_inv
    simp only [Option.map_eq_some_iff] at h
    obtain ⟨r, hr, rfl⟩ := h
    have he : (Op.equal t (.agg vs) (.agg us)).run P w = .ok r w := run_structEq 9998 hk hvs hus hr
    have hg : (eqGuard op t x y (.agg vs) (.agg us)).run P w = .ok () w := by
      obtain ⟨fs, _, _, h2, _⟩ := eqsP_spec hk
      rcases hop with ⟨rfl, _⟩ | ⟨rfl, _⟩ <;> simp [eqGuard, h2]
    rcases hop with ⟨rfl, rfl⟩ | ⟨rfl, rfl⟩
    · refine ⟨.bool r, ?_, .bool _⟩
      rw [Sem.run_bind, hg]
      simp [binOp, he]
    · refine ⟨.bool (!r), ?_, .bool _⟩
      rw [Sem.run_bind, hg]
      simp [binOp, he]
  · simp at h

/- Structs and slices that are built. -/
theorem foldl_set (off : Nat) : ∀ (l : List Value) (k : Nat) (cs : Array Value), off + k + l.length ≤ cs.size →
    ((l.zipIdx k).foldl (fun (cs : Array Value) (p : Value × Nat) => cs.setIfInBounds (off + p.2) p.1) cs).toList =
      cs.toList.take (off + k) ++ l ++ cs.toList.drop (off + k + l.length)
  | [], k, cs, _ => by simp
  | v :: l, k, cs, h => by
    simp only [List.zipIdx_cons, List.foldl_cons]
    rw [foldl_set off l (k + 1) _ (by simp at h ⊢; omega)]
    simp only [Array.toList_setIfInBounds, List.length_cons] at h ⊢
    rw [show off + (k + 1) = off + k + 1 by omega, List.take_set, List.drop_set_of_lt (by omega)]
    have hlt : off + k < cs.toList.length := by simp; omega
    have hl : (cs.toList.take (off + k)).length = off + k := by rw [List.length_take]; omega
    rw [List.take_succ_eq_append_getElem hlt, List.set_append, if_neg (by omega), hl, Nat.sub_self]
    simp [Nat.add_assoc, Nat.add_comm 1]

theorem VRels.splice {cs : List AV} {ccs : Array Value} (h : VRels w I cs ccs) {xs : List AV} {vs : Array Value} (hx : VRels w I xs vs) (off : Nat) (hle : off + xs.length ≤ cs.length) :
    VRels w I (cs.take off ++ xs ++ cs.drop (off + xs.length)) (ccs.toList.take off ++ vs.toList ++ ccs.toList.drop (off + vs.size)).toArray := by
  obtain ⟨h1, h2⟩ := h
  obtain ⟨h3, h4⟩ := hx
  refine ⟨by simp; omega, fun i c hc => ?_⟩
  rw [Array.getD_eq_getD_getElem?, List.getElem?_toArray]
  rw [List.append_assoc, List.getElem?_append] at hc ⊢
  simp only [List.length_take, Array.length_toList] at hc ⊢
  rw [Nat.min_eq_left (by omega)] at hc
  rw [Nat.min_eq_left (by omega)]
  split
  · rename_i hi
    rw [if_pos hi, List.getElem?_take, if_pos hi] at hc
    rw [List.getElem?_take, if_pos hi]
    simpa [Array.getD_eq_getD_getElem?] using h2 i c hc
  · rename_i hi
    rw [if_neg hi] at hc
    rw [List.getElem?_append] at hc ⊢
    simp only [Array.length_toList]
    split
    · rename_i hj
      rw [if_pos (by omega)] at hc
      simpa [Array.getD_eq_getD_getElem?] using h4 _ c hc
    · rename_i hj
      rw [if_neg (by omega), List.getElem?_drop] at hc
      rw [List.getElem?_drop]
      have := h2 _ c hc
      rw [Array.getD_eq_getD_getElem?] at this
      rw [show off + vs.size + (i - off - vs.size) = off + xs.length + (i - off - xs.length) by omega]
      simpa using this

theorem run_fill {X : Ctx} {a : AAct} {A : Act} {σ : AH} (hr : Rel X I σ w) (ha : ARel w I a A) {place : Nat → Option (Nat × Nat)} :
    ∀ {parts : List (Nat × Operand)} {ps : List (Nat × Nat × Opd)} {cs cs' : List AV} {ccs : Array Value}, lowParts place parts = some ps → VRels w I cs ccs →
      fillA cs (ps.map fun p => (p.1, p.2.1, ev X a p.2.2)) = some cs' →
      ∃ ccs', Instr.fill place ccs (parts.map fun p => (p.1, A.eval p.2)) = some ccs' ∧ VRels w I cs' ccs'
  | [], ps, cs, cs', ccs, hl, hv, hf => by
    simp only [lowParts, Option.some.injEq] at hl
    subst hl
    simp only [List.map_nil, fillA, Option.some.injEq] at hf
    subst hf
    exact ⟨ccs, by simp [Instr.fill], hv⟩
  | (i, x) :: parts, ps, cs, cs', ccs, hl, hv, hf => by
    simp only [lowParts] at hl
    split at hl
    · rename_i off n y r hp hy hps
      simp only [Option.some.injEq] at hl
      subst hl
      simp only [List.map_cons, fillA] at hf
      split at hf
      · rename_i hc
        have hxv := opd_sound hr ha hy
        have hcells := hxv.cells (fun e => by rw [e] at hc; simp [AV.ok] at hc)
        have hs := hv.splice hcells off (by omega)
        rw [hc.1] at hs
        have hvs : (A.eval x).cells.size = n := by rw [← hcells.1]; exact hc.1
        obtain ⟨ccs', h1, h2⟩ := run_fill hr ha hps hs hf
        refine ⟨ccs', ?_, h2⟩
        have hfold : ((A.eval x).cells.zipIdx.foldl (fun (cs : Array Value) (p : Value × Nat) => cs.setIfInBounds (off + p.2) p.1) ccs) =
            (ccs.toList.take off ++ (A.eval x).cells.toList ++ ccs.toList.drop (off + (A.eval x).cells.size)).toArray := by
          rw [← Array.foldl_toList, Array.toList_zipIdx]
          apply Array.ext'
          rw [foldl_set off _ 0 ccs (by have := hv.1; simp; omega)]
          simp
        simp only [List.map_cons, Instr.fill, hp]
        rw [if_neg (by have := hv.1; simp only [Bool.or_eq_true, decide_eq_true_eq]; omega)]
        have hfold' : (A.eval x).cells.zipIdx.foldl (fun cs (x : Value × Nat) => match x with | (c, j) => cs.setIfInBounds (off + j) c) ccs = _ := hfold
        rw [hfold']
        exact h1
      · simp at hf
    · simp at hl

end
end Go.Scr
