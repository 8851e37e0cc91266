/- What the listed variables hold, as the walks ask it. Conditions: the world is one in which they hold what the row says. -/
import Derived.Test.YtagjgpkomcmkbaaGreatDoorBase
set_option maxRecDepth 100000
namespace Go.Proofs.YtagjgpkomcmkbaaGreatDoor
open Go Go.Scr Go.RowKit Go.ChangeShapes Go.WideShapes

/-- All cells that lie there. -/
def allI (W : World) : Imm := fun b i => (W.cell? ⟨b, i, none⟩).isSome = true

theorem laid_mem {P : Program} {W : World} : ∀ {l : List (String × DataW Unit)} {ps : List MemPlace}, DataW.LaidVars P W l ps → ∀ x ∈ l, ∃ g t cs fuel p, P.globalNamed x.1 = some g ∧ (P.globals[g]?).map (·.type) = some t ∧ W.var? P x.1 = some cs ∧
    DataW.trod (fun _ => ()) P W 0 (fun _ => true) false fuel t cs.toList = some (x.2, p)
  | [], _, _, x, hx => by simp at hx
  | (n, d) :: r, ps, h, x, hx => by
    obtain ⟨g, t, cs, fuel, p, q, h1, h2, h3, h4, h5, _⟩ := h
    rcases List.mem_cons.1 hx with rfl | hx
    · exact ⟨g, t, cs, fuel, p, h1, h2, h3, h4⟩
    · exact laid_mem h5 x hx

theorem strs_inj {ss : List ByteArray} {l : List (List UInt8)} (h : (strs ss : List (DataW Unit)) = l.map fun x => .lit (.string x)) : ss.map (fun s => s.data.toList) = l := by
  induction ss generalizing l with
  | nil => cases l <;> simp [strs] at h ⊢
  | cons s ss ih =>
    cases l with
    | nil => simp [strs] at h
    | cons x l =>
      simp only [strs, List.map_cons, List.cons.injEq, DataW.lit.injEq, Lit.string.injEq] at h ⊢
      exact ⟨h.1, ih h.2⟩

theorem flat_strs (l : List (List UInt8)) : AV.flat (l.map AV.str) = l.map AV.str := by
  induction l with
  | nil => rfl
  | cons x l ih =>
    simp only [AV.flat, List.map_cons, List.flatMap_cons, AV.cells] at ih ⊢
    rw [ih]
    rfl

/-- A variable that holds a slice of texts. -/
theorem glob_of {W : World} {nm : String} {g : Nat} {l : List (List UInt8)} (hg : Tryz.prog.globalNamed nm = some g) (ht : (Tryz.prog.globals[g]?).map (·.type) = some 30) (hne : l ≠ [])
    (h : ∃ g t cs fuel p, Tryz.prog.globalNamed nm = some g ∧ (Tryz.prog.globals[g]?).map (·.type) = some t ∧ W.var? Tryz.prog nm = some cs ∧
      DataW.trod (fun _ => ()) Tryz.prog W 0 (fun _ => true) false fuel t cs.toList = some (.slice (l.map fun x => .lit (.string x)) [], p)) :
    allI W g 0 ∧ ∃ cv, W.cell? ⟨g, 0, none⟩ = some cv ∧ VRel W (allI W) (.list 1 none (l.map .str)) cv := by
  obtain ⟨g', t, cs, fuel, p, h1, h2, h3, h4⟩ := h
  obtain rfl : g = g' := Option.some.inj (hg.symm.trans h1)
  obtain rfl : 30 = t := Option.some.inj (ht.symm.trans h2)
  have c9 : Tryz.prog.cellsOf 9 = 1 := by kernel_rfl
  rcases open_strings Tryz.underlying30 Tryz.underlying9 c9 h4 with ⟨_, hx⟩ | ⟨a, len, cap, ss, hcs, _, hle, _, hlen, hx, hcell, _⟩
  · simp at hx
  · simp only [Prod.mk.injEq, DataW.slice.injEq] at hx
    obtain ⟨⟨e1, e2⟩, _⟩ := hx
    simp only [if_true] at hlen
    have hdrop : ss.drop len = [] := by
      cases hq : ss.drop len with
      | nil => rfl
      | cons y ys => rw [hq] at e2; simp [strs] at e2
    have hcap : ss.length ≤ len := by simpa using hdrop
    rw [List.take_of_length_le hcap] at e1
    have hss := strs_inj e1.symm
    have hll : l.length = ss.length := by rw [← hss]; simp
    have hlen' : len = ss.length := by omega
    have hpos : 0 < ss.length := by rw [← hll]; exact List.length_pos_iff.2 hne
    obtain ⟨B, off, spot⟩ := a
    have hspot : spot = none := by
      have := hcell 0 hpos
      cases spot with
      | none => rfl
      | some s =>
        simp only [World.cell?, Addr.add] at this
        split at this <;> simp at this
    subst hspot
    have hc0 : W.cell? ⟨g, 0, none⟩ = some (.slice (some ⟨B, off, none⟩) len cap) := by
      have := World.var?_cell h1 h3 0
      rw [Array.eq_one_of_toList hcs] at this
      simpa using this
    refine ⟨by simp [allI, hc0], _, hc0, ?_⟩
    have key : VRel W (allI W) (.list 1 none (l.map .str)) (.slice (some ⟨B, off, none⟩) (l.map AV.str).length cap) := by
      refine .list 1 none (l.map .str) B off cap (fun i => .string (ss.getD i ByteArray.empty)) (fun x hx => ?_) (fun i c hc => ?_) (fun i hi => ?_) (by simp; omega) (fun t ht => by simp at ht)
      · obtain ⟨y, _, rfl⟩ := List.mem_map.1 hx
        rfl
      · rw [flat_strs, ← hss] at hc
        simp only [List.getElem?_map, Option.map_eq_some_iff] at hc
        obtain ⟨x, ⟨s, hs, rfl⟩, rfl⟩ := hc
        refine .str _ _ ?_
        simp [List.getD_eq_getElem?_getD, hs]
      · have := hcell i (by simpa [hll] using hi)
        have this : W.cell? ⟨B, off + i, none⟩ = some (.string (ss.getD i ByteArray.empty)) := by
          by_cases h0 : i = 0
          · subst h0
            simpa [Addr.add] using this
          · simpa [Addr.add, h0] using this
        exact ⟨by simp [allI, this], this⟩
    rw [List.length_map, hll, ← hlen'] at key
    exact key

def gS6 : List (List UInt8) := [[66, 69, 71, 73, 78], [69, 78, 68], [102, 117, 110, 99, 116, 105, 111, 110], [105, 102], [101, 108, 115, 101], [119, 104, 105, 108, 101], [102, 111, 114], [105, 110], [98, 114, 101, 97, 107], [99, 111, 110, 116, 105, 110, 117, 101], [110, 101, 120, 116], [101, 120, 105, 116], [114, 101, 116, 117, 114, 110], [100, 101, 108, 101, 116, 101], [112, 114, 105, 110, 116], [112, 114, 105, 110, 116, 102]]
def gS7 : List (List UInt8) := [[108, 101, 110, 103, 116, 104], [115, 117, 98, 115, 116, 114], [105, 110, 100, 101, 120], [115, 112, 108, 105, 116], [115, 117, 98], [103, 115, 117, 98], [109, 97, 116, 99, 104], [116, 111, 108, 111, 119, 101, 114], [116, 111, 117, 112, 112, 101, 114], [105, 110, 116], [115, 112, 114, 105, 110, 116, 102], [114, 97, 110, 100], [115, 114, 97, 110, 100]]
def gS8 : List (List UInt8) := [[103, 101, 116, 108, 105, 110, 101], [115, 121, 115, 116, 101, 109], [99, 108, 111, 115, 101], [102, 102, 108, 117, 115, 104], [115, 121, 115, 116, 105, 109, 101], [115, 116, 114, 102, 116, 105, 109, 101]]
def gS2 : List (List UInt8) := [[78, 82], [78, 70], [70, 83], [79, 70, 83], [79, 82, 83], [70, 73, 76, 69, 78, 65, 77, 69], [82, 83, 84, 65, 82, 84], [82, 76, 69, 78, 71, 84, 72]]
def gS1 : List (List UInt8) := [[108, 101, 110, 103, 116, 104], [115, 117, 98, 115, 116, 114], [105, 110, 100, 101, 120], [115, 112, 108, 105, 116], [109, 97, 116, 99, 104], [116, 111, 108, 111, 119, 101, 114], [116, 111, 117, 112, 112, 101, 114], [105, 110, 116], [115, 112, 114, 105, 110, 116, 102], [114, 97, 110, 100], [115, 114, 97, 110, 100]]
def gS3 : List (List UInt8) := [[61], [43, 61], [45, 61], [42, 61], [47, 61], [37, 61], [112, 114, 101, 105, 110, 99], [112, 114, 101, 100, 101, 99], [112, 111, 115, 116, 105, 110, 99], [112, 111, 115, 116, 100, 101, 99]]
def gS5 : List (List UInt8) := [[97, 100, 100], [115, 117, 98], [109, 117, 108], [100, 105, 118], [109, 111, 100], [99, 97, 116], [108, 101, 115, 115], [108, 101, 115, 115, 101, 113], [101, 113, 117, 97, 108], [110, 111, 116, 101, 113, 117, 97, 108], [103, 114, 101, 97, 116, 101, 114], [103, 114, 101, 97, 116, 101, 114, 101, 113]]
def gS4 : List (List UInt8) := [[110, 111, 116], [110, 101, 103], [112, 108, 117, 115]]
def gS0 : List (List UInt8) := [[78, 82], [78, 70], [70, 83], [79, 70, 83], [79, 82, 83], [70, 73, 76, 69, 78, 65, 77, 69], [82, 83, 84, 65, 82, 84], [82, 76, 69, 78, 71, 84, 72]]

theorem glob_cases {W : World} {l : List (String × DataW Unit)} (hl : l = [("scribe/lex.words", Rows.laid_scribe_lex_words), ("scribe/lex.builtins", Rows.laid_scribe_lex_builtins), ("scribe/lex.banned", Rows.laid_scribe_lex_banned), ("scribe/resolve.special", Rows.laid_scribe_resolve_special), ("scribe/code.names", Rows.laid_scribe_code_names), ("scribe/code.modes", Rows.laid_scribe_code_modes), ("scribe/code.binaries", Rows.laid_scribe_code_binaries), ("scribe/code.unaries", Rows.laid_scribe_code_unaries), ("scribe/code.special", Rows.laid_scribe_code_special)]) (h : laidMetH Tryz.prog l W) :
    ∀ g v, gT g = some v → allI W g 0 ∧ ∃ cv, W.cell? ⟨g, 0, none⟩ = some cv ∧ VRel W (allI W) v cv := by
  subst hl
  rw [MakeChecks.laidMetH_plain _ _ _ (by kernel_rfl)] at h
  obtain ⟨ps, hv, _⟩ := h
  have hm := laid_mem hv
  intro g v hgv
  have hmem := lookup_mem' hgv
  simp only [gTab, List.mem_cons, List.not_mem_nil, or_false, Prod.mk.injEq] at hmem
  rcases hmem with ⟨rfl, rfl⟩ | ⟨rfl, rfl⟩ | ⟨rfl, rfl⟩ | ⟨rfl, rfl⟩ | ⟨rfl, rfl⟩ | ⟨rfl, rfl⟩ | ⟨rfl, rfl⟩ | ⟨rfl, rfl⟩ | ⟨rfl, rfl⟩
  · exact glob_of (nm := "scribe/lex.words") (l := gS6) (by kernel_rfl) (by kernel_rfl) (by simp [gS6]) (hm ("scribe/lex.words", Rows.laid_scribe_lex_words) (by simp))
  · exact glob_of (nm := "scribe/lex.builtins") (l := gS7) (by kernel_rfl) (by kernel_rfl) (by simp [gS7]) (hm ("scribe/lex.builtins", Rows.laid_scribe_lex_builtins) (by simp))
  · exact glob_of (nm := "scribe/lex.banned") (l := gS8) (by kernel_rfl) (by kernel_rfl) (by simp [gS8]) (hm ("scribe/lex.banned", Rows.laid_scribe_lex_banned) (by simp))
  · exact glob_of (nm := "scribe/resolve.special") (l := gS2) (by kernel_rfl) (by kernel_rfl) (by simp [gS2]) (hm ("scribe/resolve.special", Rows.laid_scribe_resolve_special) (by simp))
  · exact glob_of (nm := "scribe/code.names") (l := gS1) (by kernel_rfl) (by kernel_rfl) (by simp [gS1]) (hm ("scribe/code.names", Rows.laid_scribe_code_names) (by simp))
  · exact glob_of (nm := "scribe/code.modes") (l := gS3) (by kernel_rfl) (by kernel_rfl) (by simp [gS3]) (hm ("scribe/code.modes", Rows.laid_scribe_code_modes) (by simp))
  · exact glob_of (nm := "scribe/code.binaries") (l := gS5) (by kernel_rfl) (by kernel_rfl) (by simp [gS5]) (hm ("scribe/code.binaries", Rows.laid_scribe_code_binaries) (by simp))
  · exact glob_of (nm := "scribe/code.unaries") (l := gS4) (by kernel_rfl) (by kernel_rfl) (by simp [gS4]) (hm ("scribe/code.unaries", Rows.laid_scribe_code_unaries) (by simp))
  · exact glob_of (nm := "scribe/code.special") (l := gS0) (by kernel_rfl) (by kernel_rfl) (by simp [gS0]) (hm ("scribe/code.special", Rows.laid_scribe_code_special) (by simp))

/-- A run that begins in such a world. -/
theorem start_of {W : World} {l : List (String × DataW Unit)} (hl : l = [("scribe/lex.words", Rows.laid_scribe_lex_words), ("scribe/lex.builtins", Rows.laid_scribe_lex_builtins), ("scribe/lex.banned", Rows.laid_scribe_lex_banned), ("scribe/resolve.special", Rows.laid_scribe_resolve_special), ("scribe/code.names", Rows.laid_scribe_code_names), ("scribe/code.modes", Rows.laid_scribe_code_modes), ("scribe/code.binaries", Rows.laid_scribe_code_binaries), ("scribe/code.unaries", Rows.laid_scribe_code_unaries), ("scribe/code.special", Rows.laid_scribe_code_special)]) (h : laidMetH Tryz.prog l W) (hsh : W.ShapedOpen Tryz.prog) :
    Start ⟨Tryz.prog, W.heap.size, W, gT⟩ ∧ Rel ⟨Tryz.prog, W.heap.size, W, gT⟩ (allI W) ⟨fun _ => none, fun _ => none⟩ W := by
  obtain ⟨m, hm⟩ := Tryz.laysM144.s1_3 W hsh
  have hm : W.cell? ⟨9, 0, none⟩ = some (.int .i64 m) := hm
  have h9 : 9 < W.heap.size := by
    rcases Nat.lt_or_ge 9 W.heap.size with h' | h'
    · exact h'
    · simp [World.cell?, Array.getElem?_eq_none h'] at hm
  exact ⟨⟨rfl, rfl, ⟨m, hm⟩, h9⟩, ⟨fun b o hb => by simp at hb, fun b e hb => by simp at hb, glob_cases hl h, fun b i hb => Option.isSome_iff_exists.1 hb, Nat.le_refl _, fun _ _ => rfl, rfl, rfl, rfl⟩⟩

end Go.Proofs.YtagjgpkomcmkbaaGreatDoor
