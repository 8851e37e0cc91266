/- Each quiet instruction answers what the model's operation answers: part 7 of a program logic over the model: slices, structs, maps. No condition but that the operation was lowered to it. -/
import Derived.Test.YtagjgpkomcmkbaaGreatDoorEcoreF
namespace Go.Scr
open Go

def VRelO (w : World) (I : Imm) : Option AV → Option Value → Prop
  | none, none => True
  | some a, some v => VRel w I a v
  | _, _ => False

section
variable {P : Program} {w : World} {I : Imm}

theorem run_bounds {b : Bool} {len cap l h : Nat} {lo hi : Option AV} {clo chi : Option Value} (hlo : VRelO w I lo clo) (hhi : VRelO w I hi chi) (hb : boundsA len lo hi = some (l, h)) (hc : len ≤ cap) :
    (Instr.sliceBounds b len cap clo chi none).run P w = .ok (l, h, cap) w ∧ l ≤ h ∧ h ≤ len := by
  unfold boundsA at hb
  split at hb
  · obtain rfl : chi = none := by cases chi <;> simp_all [VRelO]
    split at hb
    · obtain rfl : clo = none := by cases clo <;> simp_all [VRelO]
      simp only [Option.some.injEq, Prod.mk.injEq] at hb
      obtain ⟨rfl, rfl⟩ := hb
      exact ⟨by simp [Instr.sliceBounds], by omega, by omega⟩
    · rename_i k n
      obtain ⟨cl, rfl⟩ : ∃ cl, clo = some cl := by cases clo <;> simp_all [VRelO]
      obtain rfl := VRel.int_inv hlo
      split at hb
      · rename_i hn
        simp only [Option.some.injEq, Prod.mk.injEq] at hb
        obtain ⟨rfl, rfl⟩ := hb
        exact ⟨by simp [Instr.sliceBounds, Instr.sliceBound, asIntOf, hn.1, hn.2], by omega, by omega⟩
      · simp at hb
    · simp at hb
  · rename_i k n
    obtain ⟨ch, rfl⟩ : ∃ ch, chi = some ch := by cases chi <;> simp_all [VRelO]
    obtain rfl := VRel.int_inv hhi
    split at hb
    · rename_i hn
      have h1 : n ≤ (cap : Int) := by omega
      have h2 : ((n.toNat : Nat) : Int) = n := by omega
      split at hb
      · obtain rfl : clo = none := by cases clo <;> simp_all [VRelO]
        simp only [Option.some.injEq, Prod.mk.injEq] at hb
        obtain ⟨rfl, rfl⟩ := hb
        exact ⟨by simp [Instr.sliceBounds, Instr.sliceBound, asIntOf, hn.1, h1], by omega, by omega⟩
      · rename_i k' n'
        obtain ⟨cl, rfl⟩ : ∃ cl, clo = some cl := by cases clo <;> simp_all [VRelO]
        obtain rfl := VRel.int_inv hlo
        split at hb
        · rename_i hn'
          simp only [Option.some.injEq, Prod.mk.injEq] at hb
          obtain ⟨rfl, rfl⟩ := hb
          exact ⟨by simp [Instr.sliceBounds, Instr.sliceBound, asIntOf, hn.1, h1, hn'.1, h2, hn'.2], by omega, by omega⟩
        · simp at hb
      · simp at hb
    · simp at hb
  · simp at hb

theorem run_slc {t : TypeId} {X : Ctx} {a : AAct} {σ : AH} {x : Opd} {lo hi : Option Opd} {i : I1} (hl : lowSlice P t x lo hi = some i) {v : AV} {cx : Value} {clo chi : Option Value}
    (hx : VRel w I (ev X a x) cx) (hlo : VRelO w I (lo.map (ev X a)) clo) (hhi : VRelO w I (hi.map (ev X a)) chi) (hq : quietI X a σ i = some v) :
    ∃ u, (Instr.sliceAt t cx clo chi none).run P w = .ok u w ∧ VRel w I v u := by
  unfold lowSlice at hl
  split at hl
  · rename_i hu
    simp only [Option.some.injEq] at hl
    subst hl
    simp only [quietI, quietV, slsA] at hq
    split at hq
    · rename_i s hs
      rw [hs] at hx
      obtain ⟨bs, rfl, rfl⟩ := hx.str_inv
      split at hq
      · rename_i l h hb
        simp only [Option.some.injEq] at hq
        subst hq
        obtain ⟨h1, h2, h3⟩ := run_bounds (P := P) (b := false) (cap := bs.size) hlo hhi hb (Nat.le_refl _)
        refine ⟨.string (bs.extract l h), ?_, .str _ _ ?_⟩
        · have h1' : (Instr.sliceBounds false bs.size bs.size clo chi none).run P w = .ok (l, h, bs.size) w := h1
          simp [Instr.sliceAt, Instr.slice, run_underlying hu, h1']
        · simp [List.drop_take]
      · simp at hq
    · simp at hq
  · rename_i e hu
    simp only [Option.map_eq_some_iff] at hl
    obtain ⟨z, hz, rfl⟩ := hl
    simp only [quietI, quietV, slcA] at hq
    have hrun : ∀ (p : Option Addr) (len cap l h : Nat), (Instr.sliceBounds true len cap clo chi none).run P w = .ok (l, h, cap) w →
        (Instr.sliceAt t (.slice p len cap) clo chi none).run P w = .ok (.slice (if cap = l then p else p.map (·.add (l * z))) (h - l) (cap - l)) w := fun p len cap l h hb => by
      simp [Instr.sliceAt, Instr.slice, run_underlying hu, hb, run_sizeOf hz]
    split at hq
    · rename_i hs
      rw [hs] at hx
      obtain rfl := hx.nil_inv
      split at hq
      · rename_i lh hb
        obtain ⟨l, h⟩ := lh
        simp only [Option.some.injEq] at hq
        subst hq
        obtain ⟨h1, h2, h3⟩ := run_bounds (P := P) (b := true) (cap := 0) hlo hhi hb (Nat.le_refl _)
        refine ⟨_, hrun _ _ _ _ _ h1, ?_⟩
        obtain rfl : h = 0 := by omega
        obtain rfl : l = 0 := by omega
        exact .nil
      · simp at hq
    · rename_i z' tok xs hs
      rw [hs] at hx
      obtain ⟨B, off, cap, cv, rfl, g1, g2, g3, g4, g5⟩ := hx.list_inv
      split at hq
      · rename_i hzz
        subst hzz
        split at hq
        · rename_i l h hb
          simp only [Option.some.injEq] at hq
          subst hq
          obtain ⟨h1, h2, h3⟩ := run_bounds (P := P) (b := true) (cap := cap) hlo hhi hb g4
          refine ⟨_, hrun _ _ _ _ _ h1, ?_⟩
          have hlen : ((xs.take h).drop l).length = h - l := by simp; omega
          rw [show (if cap = l then (some (⟨B, off, none⟩ : Addr)) else (some (⟨B, off, none⟩ : Addr)).map (·.add (l * z))) = some ⟨B, if cap = l then off else off + l * z, none⟩ by
            split <;> simp [Addr.add_none]]
          rw [← hlen]
          have hsub : ∀ x ∈ (xs.take h).drop l, x ∈ xs := fun x hx' => List.mem_of_mem_take (List.mem_of_mem_drop hx')
          have hz' : ∀ x ∈ (xs.take h).drop l, x.cells.length = z := fun x hx' => g1 x (hsub x hx')
          have hfl : ∀ i c, (AV.flat ((xs.take h).drop l))[i]? = some c → i < (h - l) * z ∧ (AV.flat xs)[l * z + i]? = some c := fun i c hc => by
            have hi : i < (h - l) * z := by
              have := (List.getElem?_eq_some_iff.1 hc).1
              rwa [length_flat hz', hlen] at this
            refine ⟨hi, ?_⟩
            have hzpos : 0 < z := Nat.pos_of_ne_zero fun h0 => by subst h0; simp at hi
            have hq : i / z < h - l := (Nat.div_lt_iff_lt_mul hzpos).2 hi
            have hr : i % z < z := Nat.mod_lt _ hzpos
            have hx1 : ((xs.take h).drop l)[i / z]? = xs[l + i / z]? := by
              rw [List.getElem?_drop, List.getElem?_take, if_pos (by omega)]
            have hlt : l + i / z < xs.length := by omega
            have e1 := flat_at hz' (i / z) (i % z) xs[l + i / z] (by rw [hx1]; exact List.getElem?_eq_getElem hlt) hr
            have e2 := flat_at g1 (l + i / z) (i % z) xs[l + i / z] (List.getElem?_eq_getElem hlt) hr
            have hdm : i / z * z + i % z = i := Nat.div_add_mod' i z
            rw [hdm] at e1
            rw [show (l + i / z) * z + i % z = l * z + i by rw [Nat.add_mul]; omega] at e2
            rw [e2, ← e1]
            exact hc
          have hlz : l ≤ xs.length := by omega
          refine .list _ _ _ _ _ _ (fun i => cv (l * z + i)) hz' (fun i c hc => g2 _ _ (hfl i c hc).2) (fun i hi => ?_) (by rw [hlen]; omega) fun t ht => ?_
          · rw [hlen] at hi
            have hpos : l < h := Nat.lt_of_not_le fun hle => by
              have : h - l = 0 := by omega
              rw [this] at hi
              simp at hi
            have hle2 : (h - l) * z + l * z ≤ xs.length * z := by rw [← Nat.add_mul]; exact Nat.mul_le_mul_right z (by omega)
            rw [if_neg (by omega)]
            have := g3 (l * z + i) (by omega)
            simpa [Nat.add_assoc] using this
          · split at ht
            · rename_i hcond
              obtain ⟨e1, e', n, e2, e3⟩ := g5 t ht
              obtain ⟨rfl, hcond⟩ := hcond
              by_cases hl0 : l = 0
              · subst hl0
                have : (if cap = 0 then off else off + 0 * z) = off := by split <;> simp
                rw [this, hlen]
                exact ⟨by simpa using e1, e', n, e2, by simpa using e3⟩
              · have hlt : l < xs.length := by omega
                rw [if_neg (by omega), hlen]
                refine ⟨?_, e', n, e2, ?_⟩
                · rw [e1, Prod.mk.injEq]
                  refine ⟨rfl, ?_⟩
                  rw [Nat.add_assoc, ← Nat.add_mul]
                  congr 2
                  omega
                · rw [Nat.add_assoc, ← Nat.add_mul]
                  rwa [show l + (cap - l) = cap by omega]
            · simp at ht
        · simp at hq
      · simp at hq
    · rename_i z' b o len hs
      rw [hs] at hx
      obtain ⟨cap, rfl, hcap, e', n, e2, e3⟩ := hx.slice_inv
      split at hq
      · rename_i hzz
        subst hzz
        split at hq
        · rename_i l h hb
          simp only [Option.some.injEq] at hq
          subst hq
          obtain ⟨h1, h2, h3⟩ := run_bounds (P := P) (b := true) (cap := cap) hlo hhi hb hcap
          refine ⟨_, hrun _ _ _ _ _ h1, ?_⟩
          rw [show (if cap = l then (some (⟨b, o, none⟩ : Addr)) else (some (⟨b, o, none⟩ : Addr)).map (·.add (l * z))) = some ⟨b, if cap = l then o else o + l * z, none⟩ by
            split <;> simp [Addr.add_none]]
          split
          · rename_i hcond
            have hoff : (if cap = l then o else o + l * z) = o + l * z := by
              split
              · rename_i hcl
                rcases hcond with h0 | h0
                · subst h0; simp
                · omega
              · rfl
            rw [hoff]
            refine .slice _ _ _ _ _ (by omega) ⟨e', n, e2, ?_⟩
            rw [Nat.add_assoc, ← Nat.add_mul]
            rwa [show l + (cap - l) = cap by omega]
          · rename_i hcond
            have : h - l = 0 := by omega
            rw [this]
            exact .list _ none [] _ _ _ (fun _ => undef) (fun x hx' => by simp at hx') (fun i c hc => by simp [AV.flat] at hc) (fun i hi => by simp at hi) (by simp) (fun t ht => by simp at ht)
        · simp at hq
      · simp at hq
    · simp at hq
  · simp at hl

theorem run_part {t : TypeId} {n : Option Nat} (hs : shapeP P t = some n) {off : Nat} {xs : List AV} {vs : Array Value} (hx : VRels w I xs vs) {v : AV} (hq : partA n off xs = some v) :
    ∃ u, (part t vs off).run P w = .ok u w ∧ VRel w I v u := by
  cases n with
  | none =>
    simp only [partA] at hq
    have hlt : off < vs.size := by have := (List.getElem?_eq_some_iff.1 hq).1; rw [← hx.1]; exact this
    refine ⟨vs[off], ?_, by have := hx.2 off v hq; simpa [Array.getD_eq_getD_getElem?, hlt] using this⟩
    simp [part, run_isAgg hs, hlt]
  | some n =>
    simp only [partA] at hq
    split at hq
    · rename_i hn
      simp only [Option.some.injEq] at hq
      subst hq
      obtain ⟨h1, h2⟩ := hx.part off n hn
      exact ⟨.agg (vs.extract off (off + n)), by simp [part, run_isAgg hs, run_sizeOf (shapeP_size hs)], .agg _ _ h1 h2⟩
    · simp at hq

theorem run_field {s : TypeId} {f : Nat} {x : Opd} {i : I1} {X : Ctx} {a : AAct} {σ : AH} (hl : lowField P s f x = some i) {v : AV} {cx : Value}
    (hx : VRel w I (ev X a x) cx) (hq : quietI X a σ i = some v) : ∃ u, (Instr.field s cx f).run P w = .ok u w ∧ VRel w I v u := by
  unfold lowField at hl
  split at hl
  · rename_i fs hu
    split at hl
    · rename_i fd hf
      simp only [Option.map_eq_some_iff] at hl
      obtain ⟨n, hn, rfl⟩ := hl
      simp only [quietI, quietV] at hq
      unfold prtA at hq
      split at hq
      · rename_i xs he
        rw [he] at hx
        obtain ⟨vs, rfl, hvs⟩ := hx.agg_inv
        obtain ⟨u, h1, h2⟩ := run_part (P := P) hn hvs hq
        exact ⟨u, by simp [Instr.field, run_underlying hu, hf, asAgg, h1], h2⟩
      · simp at hq
    · simp at hl
  · simp at hl

end
end Go.Scr
