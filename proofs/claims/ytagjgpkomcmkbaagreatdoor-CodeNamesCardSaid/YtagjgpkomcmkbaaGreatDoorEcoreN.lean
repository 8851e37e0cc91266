/- What turns memory keeps the relation: part 14 of a program logic over the model: slices that are made, and append. No condition but that the operation was lowered to the instruction. -/
import Derived.Test.YtagjgpkomcmkbaaGreatDoorEcoreM
namespace Go.Scr
open Go

section
variable {X : Ctx} {I : Imm} {σ : AH} {w : World} {a : AAct} {A : Act}

theorem flatten_replicate_get {α : Type} (zs : List α) : ∀ (n i : Nat), i < n * zs.length → ((List.replicate n zs).flatten)[i]? = zs[i % zs.length]?
  | 0, i, h => by simp at h
  | n + 1, i, h => by
    rw [List.replicate_succ, List.flatten_cons, List.getElem?_append]
    split
    · rename_i hi
      rw [Nat.mod_eq_of_lt hi]
    · rename_i hi
      rw [flatten_replicate_get zs n (i - zs.length) (by rw [Nat.add_mul] at h; omega)]
      congr 1
      rw [← Nat.mod_eq_sub_mod (by omega)]

/-- Cells of a zero value, as often as they are wanted. -/
theorem zeros_rel {z : AV} {u : Value} (h : VRel w I z u) (hu : z ≠ .undef) {m n : Nat} (hm : z.cells.length = m) (hpos : 0 < m) :
    VRels w I (List.replicate n z.cells).flatten ((Array.range (n * m)).map fun i => u.cells[i % u.cells.size]!) := by
  have hc := h.cells hu
  have hlen : (List.replicate n z.cells).flatten.length = n * m := by simp [hm]
  refine ⟨by rw [hlen]; simp, fun i c hi => ?_⟩
  have hlt : i < n * m := by rw [← hlen]; exact (List.getElem?_eq_some_iff.1 hi).1
  rw [flatten_replicate_get z.cells n i (by rw [hm]; exact hlt)] at hi
  have := hc.2 _ c hi
  have hmod : i % u.cells.size < u.cells.size := Nat.mod_lt _ (by rw [← hc.1, hm]; exact hpos)
  rw [hc.1] at this
  rw [Array.getD_eq_getD_getElem?, Array.getElem?_map, Array.getElem?_range, if_pos hlt]
  rw [Array.getD_eq_getD_getElem?, Array.getElem?_eq_getElem hmod] at this
  simpa [getElem!_pos, hmod] using this

theorem shape_alloc_new (w : World) (c : Array Value) (e : TypeId) : (w.alloc (.cells c e)).shape? w.heap.size = some (e, c.size) := by
  unfold World.shape?
  rw [heap_alloc_new w _]

/-- A list of elements at a new row. -/
theorem newList_rel {c : Array Value} {e : TypeId} {cs : List AV} {I' : Imm} (hl : cs.length ≤ c.size) (hv : ∀ i v, cs[i]? = some v → VRel w I v (c.getD i undef)) (x : Ext I w I' (w.alloc (.cells c e)))
    (hI : ∀ i, i < cs.length → I' w.heap.size i) {z n cap : Nat} {xs : List AV} (hz : ∀ x ∈ xs, x.cells.length = z) (hxs : AV.flat xs = cs) (hn : xs.length = n) (hcap : n ≤ cap) (hcz : cap * z ≤ c.size) (tr : Bool) :
    VRel (w.alloc (.cells c e)) I' (.list z (if tr then some (w.heap.size, n * z) else none) xs) (.slice (some ⟨w.heap.size, 0, none⟩) n cap) := by
  subst hn
  have hlen := length_flat hz
  rw [hxs] at hlen
  refine .list _ _ _ _ _ _ (fun i => c.getD i undef) hz (fun i v hi => ?_) (fun i hi => ?_) hcap fun t ht => ?_
  · rw [hxs] at hi
    exact (hv i v hi).ext x
  · rw [← hlen] at hi
    rw [Nat.zero_add]
    refine ⟨hI i hi, ?_⟩
    rw [cell_of_row _ _ _ _ _ _ (heap_alloc_new w _), Array.getD_eq_getD_getElem?, Array.getElem?_eq_getElem (by omega)]
    rfl
  · cases tr with
    | false => simp at ht
    | true =>
      simp only [if_true, Option.some.injEq] at ht
      subst ht
      exact ⟨by simp, e, c.size, shape_alloc_new w _ _, by omega⟩

theorem did_blds (hr : Rel X I σ w) (ha : ARel w I a A) {dst : Option Nat} (hd : ∀ d, dst = some d → d < a.n) {mode : Nat} {t : TypeId} {n : Nat} {parts : Array (Nat × Operand)} {i : I1}
    (hl : lowBuildSlice X.P mode t n parts.toList = some i) {K : AAct → AH → Prop} (hs : stepI X dst a σ K i) :
    Did X I w A dst K ((do pure (Next.value (← Instr.buildSlice t n (parts.map fun (i, x) => (i, A.eval x)))) : Sem Next).run X.P w) := by
  unfold lowBuildSlice at hl
  split at hl
  · rename_i e hu
    split at hl
    · rename_i ag z zero hag hz hzero
      split at hl
      · rename_i hc
        obtain ⟨hbig, hpos, hzl, hagz⟩ := hc
        simp only [Option.map_eq_some_iff] at hl
        obtain ⟨ps, hps, rfl⟩ := hl
        simp only [stepI, stepV, optK] at hs
        split at hs
        · rename_i cs hcs
          obtain ⟨u, h1, h2⟩ := run_zeroValue hzero w I
          have hzr := zeros_rel h2 (zeroP_ok hzero) hzl hpos (n := n)
          obtain ⟨ccs, f1, f2⟩ := run_fill hr ha hps hzr hcs
          have hcsl : cs.length = n * z := by
            have : ∀ (ps : List (Nat × Nat × AV)) (cs cs' : List AV), fillA cs ps = some cs' → cs'.length = cs.length := by
              intro ps
              induction ps with
              | nil => intro cs cs' h; simp only [fillA, Option.some.injEq] at h; rw [h]
              | cons p ps ih =>
                intro cs cs' h
                obtain ⟨off, sz, v⟩ := p
                simp only [fillA] at h
                split at h
                · rename_i hq
                  rw [ih _ _ h]
                  simp
                  omega
                · simp at h
            rw [this _ _ _ hcs]
            simp [hzl]
          have hrun : (Instr.buildSlice t n (parts.map fun (i, x) => (i, A.eval x))).run X.P w = .ok (.slice (some ⟨w.heap.size, 0, none⟩) n n) (w.alloc (.cells ccs e)) := by
            have hne : ¬ (16777216 < n * z) := by omega
            simp only [Instr.buildSlice, Sem.run_bind, run_underlying hu, Result.andThen_ok, run_sizeOf hz, Sem.run_ite]
            rw [if_neg (by simpa using hne)]
            by_cases h0 : n * z = 0
            · have : n = 0 := by rcases Nat.mul_eq_zero.1 h0 with h | h <;> omega
              subst this
              have he : ∀ f : Nat → Value, (Array.range (0 * z)).map f = #[] := fun f => by simp
              rw [he] at f1
              rw [if_pos h0]
              simp only [Sem.run_pure, Result.andThen_ok, he]
              have hpl : (parts.map fun x => (x.1, A.eval x.2)).toList = parts.toList.map fun p => (p.1, A.eval p.2) := by simp
              rw [hpl, f1]
              simp [newRow]
            · rw [if_neg h0]
              simp only [h1, Result.andThen_ok, Sem.run_pure]
              have hpl : (parts.map fun x => (x.1, A.eval x.2)).toList = parts.toList.map fun p => (p.1, A.eval p.2) := by simp
              rw [hpl, f1]
              simp [newRow]
          have hcl : cs.length ≤ ccs.size := Nat.le_of_eq f2.1
          have fin : ∀ (v : AV) (I' : Imm) (σ' : AH), K (a.put dst v) σ' → Rel X I' σ' (w.alloc (.cells ccs e)) → Ext I w I' (w.alloc (.cells ccs e)) → VRel (w.alloc (.cells ccs e)) I' v (.slice (some ⟨w.heap.size, 0, none⟩) n n) →
              Did X I w A dst K ((do pure (Next.value (← Instr.buildSlice t n (parts.map fun (i, x) => (i, A.eval x)))) : Sem Next).run X.P w) := fun v I' σ' k1 k2 k3 k4 =>
            ⟨_, _, I', _, _, .inl (by simp only [Sem.run_bind, hrun, Result.andThen_ok, Sem.run_pure]), k1, k2, (ha.ext k3).put hd k4, k3⟩
          have hccs : n * z ≤ ccs.size := by rw [← hcsl]; exact hcl
          unfold newRowA at hs
          split at hs
          · obtain ⟨hg, hk⟩ := hs
            obtain ⟨g1, g2, g3⟩ := flat_group hagz n cs (by omega) hg
            obtain ⟨I', r1, x1, i1⟩ := hr.newList (c := ccs) (e := e) hcl false
            exact fin _ I' σ hk r1 x1 (newList_rel hcl f2.2 x1 i1 g3 (by rw [g1]; exact List.take_of_length_le (by omega)) g2 (Nat.le_refl _) hccs false)
          · obtain ⟨hg, hk⟩ := hs
            obtain ⟨g1, g2, g3⟩ := flat_group hagz n cs (by omega) hg
            obtain ⟨I', r1, x1, i1⟩ := hr.newList (c := ccs) (e := e) hcl true
            rw [hcsl] at r1
            exact fin _ I' _ (hk _ hr.fresh) r1 x1 (newList_rel hcl f2.2 x1 i1 g3 (by rw [g1]; exact List.take_of_length_le (by omega)) g2 (Nat.le_refl _) hccs true)
          · exact fin _ I _ (hs _ hr.fresh) (hr.newCells hcl f2.2) (Ext.alloc hr _) (.slice _ _ _ _ _ (Nat.le_refl _) ⟨e, ccs.size, shape_alloc_new w _ _, by omega⟩)
        · exact hs.elim
      · simp at hl
    · simp at hl
  · simp at hl

theorem run_bytes {P : Program} {t : TypeId} {n : Nat} (h : bytesP P t = some n) : ∃ i, P.info? t = some i ∧ i.bytes = n := by
  simp only [bytesP, Option.map_eq_some_iff] at h
  exact h

theorem did_mkslice (hr : Rel X I σ w) (ha : ARel w I a A) {dst : Option Nat} (hd : ∀ d, dst = some d → d < a.n) {t e : TypeId} (hu : X.P.underlying t = some (.slice e)) {z bytes : Nat} {zero : AV} (hz : sizeP X.P e = some z)
    (hby : bytesP X.P e = some bytes) (hzero : zeroP X.P e = some zero) (hpos : 0 < z) (hzl : zero.cells.length = z) {l c : AV} {cl cc : Value} (hlv : VRel w I l cl) (hcv : VRel w I c cc) {K : AAct → AH → Prop}
    (hs : mksliceA z bytes zero.cells l c σ fun v σ' => K (a.put dst v) σ') : Did X I w A dst K ((do pure (Next.value (← Instr.makeSlice t cl cc)) : Sem Next).run X.P w) := by
  unfold mksliceA at hs
  split at hs
  · rename_i k n k' m
    obtain rfl := hlv.int_inv
    obtain rfl := hcv.int_inv
    obtain ⟨h0, h1, h2, h3, hk⟩ := hs
    obtain ⟨i, hi, hib⟩ := run_bytes hby
    obtain ⟨u, q1, q2⟩ := run_zeroValue hzero w I
    have hzr := zeros_rel q2 (zeroP_ok hzero) hzl hpos (n := m.toNat)
    have wl : IntKind.i64.wrap n = n := by
      unfold IntKind.wrap
      simp only [IntKind.signed, IntKind.bits]
      simp
      omega
    have wc : IntKind.i64.wrap m = m := by
      unfold IntKind.wrap
      simp only [IntKind.signed, IntKind.bits]
      simp
      omega
    have hrun : (Instr.makeSlice t (.int k n) (.int k' m)).run X.P w =
        .ok (.slice (some ⟨w.heap.size, 0, none⟩) n.toNat m.toNat) (w.alloc (.cells ((Array.range (m.toNat * z)).map fun i => u.cells[i % u.cells.size]!) e)) := by
      have hb : ¬ ((bytes : Int) * m > 281474976710656) := by rw [Int.mul_comm]; omega
      have hm0 : ¬ m < 0 := by omega
      have hn0 : ¬ n < 0 := by omega
      have hnm : ¬ n > m := by omega
      simp only [Instr.makeSlice, Sem.run_bind, run_underlying hu, Result.andThen_ok, asInt, asIntOf, Sem.run_pure, typeInfo, run_program, hi, hib, wl, wc]
      have hcond : (decide (m < 0) || decide ((bytes : Int) * m > 2 ^ 48) || decide (n < 0) || decide (n > m)) = false := by
        simp only [Bool.or_eq_false_iff, decide_eq_false_iff_not]
        exact ⟨⟨⟨hm0, by simpa using hb⟩, hn0⟩, hnm⟩
      rw [Sem.run_ite, if_neg (by rw [hcond]; simp)]
      simp only [Sem.run_bind, run_askRoom, run_sizeOf hz, Sem.run_ite, Sem.run_pure, Result.andThen_ok]
      by_cases hmz : m.toNat * z = 0
      · have he : ∀ f : Nat → Value, (Array.range (m.toNat * z)).map f = #[] := fun f => by rw [hmz]; simp
        rw [if_pos hmz]
        simp only [he]
        simp [newRow]
      · rw [if_neg hmz]
        simp [q1, newRow]
    refine ⟨.slice (some ⟨w.heap.size, 0, none⟩) n.toNat m.toNat, w.alloc (.cells ((Array.range (m.toNat * z)).map fun i => u.cells[i % u.cells.size]!) e), I, _, _, .inl (by simp only [Sem.run_bind, hrun, Result.andThen_ok, Sem.run_pure]), hk _ hr.fresh, hr.newCells (Nat.le_of_eq hzr.1) hzr.2, (ha.ext (Ext.alloc hr _)).put hd ?_, Ext.alloc hr _⟩
    exact .slice _ _ _ _ _ (by omega) ⟨e, m.toNat * z, by rw [shape_alloc_new]; simp, by omega⟩
  · exact hs.elim

end
end Go.Scr
