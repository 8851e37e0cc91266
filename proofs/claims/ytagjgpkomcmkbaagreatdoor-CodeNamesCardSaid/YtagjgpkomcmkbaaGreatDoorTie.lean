/-
  DERIVED. GIVEN WITH THE SEED: THE PROGRAM's TIES (one call each: nine closed facts by the kernel) AND EACH ROW's TIE, after the 31st guide's Derived/Test/Toyas{Tie, Card}.lean. No idea stands in it: it is a product of the set-up. Laid BY PROGRAM, IN A SANDBOX (cutbox-door.mjs). By AI agents, Wed Nov 11 2026. No macro, syntax, notation, axiom, sorry.
-/
import Derived.Test.YtagjgpkomcmkbaaGreatDoorRows
import Derived.LaidByTextLater
import Derived.SevenTiedAt
import Derived.LaidSub
import Derived.LaidOnce
namespace Go.Proofs.YtagjgpkomcmkbaaGreatDoor
open Go
set_option maxRecDepth 100000
theorem seatTie1 : Tryz.prog.laidByTextLater [("scribe/lex.words", Rows.laid_scribe_lex_words), ("scribe/lex.builtins", Rows.laid_scribe_lex_builtins), ("scribe/lex.banned", Rows.laid_scribe_lex_banned), ("scribe/resolve.special", Rows.laid_scribe_resolve_special), ("scribe/code.names", Rows.laid_scribe_code_names), ("scribe/code.modes", Rows.laid_scribe_code_modes), ("scribe/code.binaries", Rows.laid_scribe_code_binaries), ("scribe/code.unaries", Rows.laid_scribe_code_unaries), ("scribe/code.special", Rows.laid_scribe_code_special)] [.widerDeep, .widerDeep, .widerDeep, .widerDeep, .widerDeep, .widerDeep, .widerDeep, .widerDeep, .widerDeep] true :=
  Program.laidByTextLater_by_one 54 8 17 (by kernel_rfl) (by kernel_rfl) (by kernel_rfl) (by kernel_rfl) (by kernel_rfl) (by kernel_rfl) (fun _ _ => by kernel_rfl)
theorem noOwnUnsafe : Tryz.pinned.checked.prog.headLifts.contains "ownunsafe" = false := by kernel_rfl
theorem tie : Tryz.prog.laidByTextLater [("scribe/lex.words", Rows.laid_scribe_lex_words), ("scribe/lex.builtins", Rows.laid_scribe_lex_builtins), ("scribe/lex.banned", Rows.laid_scribe_lex_banned), ("scribe/resolve.special", Rows.laid_scribe_resolve_special), ("scribe/code.names", Rows.laid_scribe_code_names), ("scribe/code.modes", Rows.laid_scribe_code_modes), ("scribe/code.binaries", Rows.laid_scribe_code_binaries), ("scribe/code.unaries", Rows.laid_scribe_code_unaries), ("scribe/code.special", Rows.laid_scribe_code_special)] [.widerDeep, .widerDeep, .widerDeep, .widerDeep, .widerDeep, .widerDeep, .widerDeep, .widerDeep, .widerDeep] true :=
  Program.laidByTextLater.sub seatTie1 ["scribe/lex.words", "scribe/lex.builtins", "scribe/lex.banned", "scribe/resolve.special", "scribe/code.names", "scribe/code.modes", "scribe/code.binaries", "scribe/code.unaries", "scribe/code.special"] (by kernel_rfl) (by kernel_rfl)
theorem codeBent_row_tie : Rows.codeBentRow.laidByTextAt .later Tryz.pinned [.widerDeep, .widerDeep, .widerDeep, .widerDeep, .widerDeep, .widerDeep, .widerDeep, .widerDeep, .widerDeep] true :=
  OpenClaim.laidByTextAt_later rfl rfl tie noOwnUnsafe
theorem codeTwice_row_tie : Rows.codeTwiceRow.laidByTextAt .later Tryz.pinned [.widerDeep, .widerDeep, .widerDeep, .widerDeep, .widerDeep, .widerDeep, .widerDeep, .widerDeep, .widerDeep] true :=
  OpenClaim.laidByTextAt_later rfl rfl tie noOwnUnsafe
theorem codeNames_row_tie : Rows.codeNamesRow.laidByTextAt .later Tryz.pinned [.widerDeep, .widerDeep, .widerDeep, .widerDeep, .widerDeep, .widerDeep, .widerDeep, .widerDeep, .widerDeep] true :=
  OpenClaim.laidByTextAt_later rfl rfl tie noOwnUnsafe
theorem codeChecks_row_tie : Rows.codeChecksRow.laidByTextAt .later Tryz.pinned [.widerDeep, .widerDeep, .widerDeep, .widerDeep, .widerDeep, .widerDeep, .widerDeep, .widerDeep, .widerDeep] true :=
  OpenClaim.laidByTextAt_later rfl rfl tie noOwnUnsafe
theorem codeBentUpto_row_tie : Rows.codeBentUptoRow.laidByTextAt .later Tryz.pinned [.widerDeep, .widerDeep, .widerDeep, .widerDeep, .widerDeep, .widerDeep, .widerDeep, .widerDeep, .widerDeep] true :=
  OpenClaim.laidByTextAt_later rfl rfl tie noOwnUnsafe
theorem codeTwiceUpto_row_tie : Rows.codeTwiceUptoRow.laidByTextAt .later Tryz.pinned [.widerDeep, .widerDeep, .widerDeep, .widerDeep, .widerDeep, .widerDeep, .widerDeep, .widerDeep, .widerDeep] true :=
  OpenClaim.laidByTextAt_later rfl rfl tie noOwnUnsafe
theorem codeNamesUpto_row_tie : Rows.codeNamesUptoRow.laidByTextAt .later Tryz.pinned [.widerDeep, .widerDeep, .widerDeep, .widerDeep, .widerDeep, .widerDeep, .widerDeep, .widerDeep, .widerDeep] true :=
  OpenClaim.laidByTextAt_later rfl rfl tie noOwnUnsafe
theorem codeChecksUpto_row_tie : Rows.codeChecksUptoRow.laidByTextAt .later Tryz.pinned [.widerDeep, .widerDeep, .widerDeep, .widerDeep, .widerDeep, .widerDeep, .widerDeep, .widerDeep, .widerDeep] true :=
  OpenClaim.laidByTextAt_later rfl rfl tie noOwnUnsafe
end Go.Proofs.YtagjgpkomcmkbaaGreatDoor
