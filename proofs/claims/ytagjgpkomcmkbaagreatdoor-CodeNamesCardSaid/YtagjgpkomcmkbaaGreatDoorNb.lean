/- CodeNames: the functions of the language have their names. For every number; the listed variables hold what the program's text lays (the tied card). -/
import Derived.Test.YtagjgpkomcmkbaaGreatDoorWrap
import Derived.Test.YtagjgpkomcmkbaaGreatDoorNa
import Derived.Test.YtagjgpkomcmkbaaGreatDoorAwk
import Derived.Test.YtagjgpkomcmkbaaGreatDoorTie
import Derived.Test.YtagjgpkomcmkbaaGreatDoorCards
set_option maxRecDepth 100000
namespace Go.Proofs.YtagjgpkomcmkbaaGreatDoor
open Go Go.Scr Go.RowKit Go.ChangeShapes Go.WideShapes Go.ChangeAt

theorem awake_calls {X : Ctx} (hX : Start X) (σ : AH) : ECalls X 9 [] σ fun v σ' => v = .bool true ∧ σ.le σ' :=
  (reckoned hX rfl awake_run σ).mono fun v σ' h => by
    obtain ⟨⟨m, rfl⟩, h2⟩ := h
    exact ⟨rfl, h2⟩

theorem names_lifted (os : Os) (started : os.Started) (H : Type) (enc : TypeId × Value → H) :
    ReturnsInHanded {} Tryz.checked os 5 .any (fun w args => (Rows.codeNamesSpec.pre enc Tryz.prog Tryz.f5 [] false w args ∧ laidMetH Tryz.prog Rows.codeNamesRow.laid w) ∧ sizedMet enc Tryz.prog Tryz.f5 (OpenSpec.ofChange Rows.codeNamesSpec) false w args)
      (Rows.codeNamesSpec.post enc Tryz.prog Tryz.f5 false true false false) := by
  refine returns_shaped_and (C := Tryz.checked) (Y := fun w _ => laidMetH Tryz.prog Rows.codeNamesRow.laid w) (fun _ _ _ hh h => h.of_heap hh) own started (by kernel_rfl) Tryz.func5
    (ChangeSpec.witness_shaped (enc := enc) (C := Tryz.checked) (os := os) (X := fun w _ => laidMetH Tryz.prog Rows.codeNamesRow.laid w) false (World.doorLaid Tryz.prog 2000 os) #[.int .i64 0] 8 rfl (World.shaped_of_RefB (by kernel_rfl) (by kernel_rfl)) (by kernel_rfl) (by kernel_rfl) (by kernel_rfl)
      (laidMetH_of_parts3 (fuel := 8) (laidMet_of_run' 8 (by kernel_rfl) (by kernel_rfl)) (by kernel_rfl) (by kernel_rfl))) ?_
  intro W base args ds gs before hval0 hW _ hL hsh
  have hval : ∀ (j : Nat) t v, Tryz.f5.params[j]? = some t → args[j]? = some v → Value.okWide Tryz.prog W .any base t v := hval0
  have hW' := hW
  obtain ⟨p, q, hA0, hV, rfl, hfz, hnd⟩ := hW
  have hA : DataW.TrodAll enc Tryz.prog W 0 (fun _ => true) true Tryz.f5.params.toList args.toList ds p := hA0
  rw [Tryz.params5] at hA hval
  obtain ⟨v0, d0, rfl, rfl, h0⟩ := trodAll_one hA
  obtain ⟨rfl, rfl⟩ := trodVars_none hV
  obtain ⟨n, rfl, rfl, rfl, wn⟩ := open_int Tryz.underlying3 (hval 0 3 v0 rfl rfl) h0
  clear hA0 hval0
  simp only [List.append_nil] at hW'
  obtain ⟨hX, hr⟩ := start_of rfl hL hsh
  have hv : VRels W (allI W) [.int .i64 n] #[.int .i64 n] := ⟨rfl, fun i c hc => by
    rcases i with _ | i
    · simp only [List.getElem?_cons_zero, Option.some.injEq] at hc
      subst hc
      exact .int _ _
    · simp at hc⟩
  refine (calls_of (L5 _ rfl).callFunc (names_calls hX n _ (awake_calls hX)) hr hv).mono fun e W' hq => ?_
  obtain ⟨rfl, I', σ', h4⟩ := hq
  exact ⟨_, rfl, post_of_below (pa := []) (pv := []) hW' (fun _ _ _ => trodAll_mk1 (shut_bool Tryz.underlying4 _)) (fun sp _ => trodAll_mk1 (shut_int Tryz.underlying3 wn)) (fun _ _ => rfl) rfl (below_of h4) (ok_one (by kernel_rfl) rfl (okWide_bool_mk Tryz.underlying4 _))⟩

theorem names_row : Rows.CodeNamesSaid :=
  OpenClaim.holds_of_wide 5 Tryz.f5 rfl rfl rfl rfl rfl rfl rfl ⟨rfl, rfl, rfl, rfl, rfl⟩ rfl rfl rfl rfl rfl (by kernel_rfl) Tryz.func5 (by kernel_rfl)
    (of_decide_eq_true (by kernel_rfl)) (by unfold Func.isWrapper; first | (rw [if_pos (by decide +kernel)]; kernel_rfl) | (rw [if_neg (by decide +kernel)]; exact ⟨rfl, rfl⟩))
    (fun os started H enc _ => names_lifted os started H enc)

theorem codeNames_holds : Rows.CodeNamesCardSaid :=
  Claim7.holds_tied_plain_at .later [] [.widerDeep, .widerDeep, .widerDeep, .widerDeep, .widerDeep, .widerDeep, .widerDeep, .widerDeep, .widerDeep] true (true, "6dfbe3340b83b15896a0b61dc004d8fd559526c1efbae6a831c5161eeac36e9c") false
    names_row (fun _ h => by cases h) (by kernel_rfl) (fun _ h => by cases h) codeNames_row_tie rfl ⟨rfl, rfl⟩ (by kernel_rfl) rfl
    (fun f fn hf hfn => by
      obtain rfl : f = 5 := Option.some.inj ((show Tryz.prog.funcNamed "scribe/scribelaw15.CodeNames" = some 5 by kernel_rfl).symm.trans hf) |>.symm
      obtain rfl : fn = Tryz.f5 := (Option.some.inj (Tryz.func5.symm.trans hfn)).symm
      exact ⟨by kernel_rfl, fun j t ht => by
        rw [Tryz.params5] at ht
        have hm : t ∈ [3] := by simpa using Array.mem_of_getElem? ht
        have hall : ([3].all fun u => !Tryz.prog.wantsStandIn u) = true := by kernel_rfl
        exact (show Tryz.prog.wantsStandIn t = false by simpa using List.all_eq_true.1 hall t hm)⟩)
    (by kernel_rfl)
#print axioms codeNames_holds
end Go.Proofs.YtagjgpkomcmkbaaGreatDoor
