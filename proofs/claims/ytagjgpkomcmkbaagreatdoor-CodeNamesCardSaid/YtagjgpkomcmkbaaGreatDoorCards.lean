/-
  DERIVED. GIVEN WITH THE SEED: THE CARDS: each row of YtagjgpkomcmkbaaGreatDoorRows.lean that lists a variable, with what it lists TIED to the program's text (the seventh form; the later family's looks); each row that meets fmt, with fmt's text TOLD by the authors' own Lean function (tested against real Go, not proved from fmt's source: count such statements apart). THE CARD IS WHAT COUNTS. Prove the row's statement (the work); the ties are given (YtagjgpkomcmkbaaGreatDoorTie.lean); close each card by the builder's one call (the guide's Derived/Test/ToyasCard.lean, 'card_holds'). Laid BY PROGRAM, IN A SANDBOX (cutbox-door.mjs). By AI agents, Wed Nov 11 2026. No macro, syntax, notation, axiom, sorry.
-/
import Derived.Test.YtagjgpkomcmkbaaGreatDoorRows
import GoSem.ClaimSeven
namespace Go.Proofs.YtagjgpkomcmkbaaGreatDoor
namespace Rows

/-- THE TIED CARD OF 'scribelaw15.CodeBent'. -/
def codeBentCard : Claim7 := { stood := { row := codeBentRow, standIns := [], harness := (true, "6dfbe3340b83b15896a0b61dc004d8fd559526c1efbae6a831c5161eeac36e9c"), looks := false }, kinds := [], alts := [], laidByText := true, laidKinds := [.widerDeep, .widerDeep, .widerDeep, .widerDeep, .widerDeep, .widerDeep, .widerDeep, .widerDeep, .widerDeep], laidTests := true, laidLooks := .later }
def CodeBentCardSaid : Prop := Claim7.holds Tryz.pinned (.plain (OpenSpec.ofChange codeBentSpec)) codeBentCard

/-- THE TIED CARD OF 'scribelaw15.CodeTwice'. -/
def codeTwiceCard : Claim7 := { stood := { row := codeTwiceRow, standIns := [], harness := (true, "6dfbe3340b83b15896a0b61dc004d8fd559526c1efbae6a831c5161eeac36e9c"), looks := false }, kinds := [], alts := [], laidByText := true, laidKinds := [.widerDeep, .widerDeep, .widerDeep, .widerDeep, .widerDeep, .widerDeep, .widerDeep, .widerDeep, .widerDeep], laidTests := true, laidLooks := .later }
def CodeTwiceCardSaid : Prop := Claim7.holds Tryz.pinned (.plain (OpenSpec.ofChange codeTwiceSpec)) codeTwiceCard

/-- THE TIED CARD OF 'scribelaw15.CodeNames'. -/
def codeNamesCard : Claim7 := { stood := { row := codeNamesRow, standIns := [], harness := (true, "6dfbe3340b83b15896a0b61dc004d8fd559526c1efbae6a831c5161eeac36e9c"), looks := false }, kinds := [], alts := [], laidByText := true, laidKinds := [.widerDeep, .widerDeep, .widerDeep, .widerDeep, .widerDeep, .widerDeep, .widerDeep, .widerDeep, .widerDeep], laidTests := true, laidLooks := .later }
def CodeNamesCardSaid : Prop := Claim7.holds Tryz.pinned (.plain (OpenSpec.ofChange codeNamesSpec)) codeNamesCard

/-- THE TIED CARD OF 'scribelaw15.CodeChecks'. -/
def codeChecksCard : Claim7 := { stood := { row := codeChecksRow, standIns := [], harness := (true, "6dfbe3340b83b15896a0b61dc004d8fd559526c1efbae6a831c5161eeac36e9c"), looks := false }, kinds := [], alts := [], laidByText := true, laidKinds := [.widerDeep, .widerDeep, .widerDeep, .widerDeep, .widerDeep, .widerDeep, .widerDeep, .widerDeep, .widerDeep], laidTests := true, laidLooks := .later }
def CodeChecksCardSaid : Prop := Claim7.holds Tryz.pinned (.plain (OpenSpec.ofChange codeChecksSpec)) codeChecksCard

/-- THE SECOND FORM's CARD OF 'scribelaw15.CodeBent'. -/
def codeBentUptoCard : Claim7 := { stood := { row := codeBentUptoRow, standIns := [], harness := (true, "6dfbe3340b83b15896a0b61dc004d8fd559526c1efbae6a831c5161eeac36e9c"), looks := false }, kinds := [], alts := [], laidByText := true, laidKinds := [.widerDeep, .widerDeep, .widerDeep, .widerDeep, .widerDeep, .widerDeep, .widerDeep, .widerDeep, .widerDeep], laidTests := true, laidLooks := .later }
def CodeBentUptoCardSaid : Prop := Claim7.holds Tryz.pinned (.plain (OpenSpec.upto codeBentSpec)) codeBentUptoCard

/-- THE SECOND FORM's CARD OF 'scribelaw15.CodeTwice'. -/
def codeTwiceUptoCard : Claim7 := { stood := { row := codeTwiceUptoRow, standIns := [], harness := (true, "6dfbe3340b83b15896a0b61dc004d8fd559526c1efbae6a831c5161eeac36e9c"), looks := false }, kinds := [], alts := [], laidByText := true, laidKinds := [.widerDeep, .widerDeep, .widerDeep, .widerDeep, .widerDeep, .widerDeep, .widerDeep, .widerDeep, .widerDeep], laidTests := true, laidLooks := .later }
def CodeTwiceUptoCardSaid : Prop := Claim7.holds Tryz.pinned (.plain (OpenSpec.upto codeTwiceSpec)) codeTwiceUptoCard

/-- THE SECOND FORM's CARD OF 'scribelaw15.CodeNames'. -/
def codeNamesUptoCard : Claim7 := { stood := { row := codeNamesUptoRow, standIns := [], harness := (true, "6dfbe3340b83b15896a0b61dc004d8fd559526c1efbae6a831c5161eeac36e9c"), looks := false }, kinds := [], alts := [], laidByText := true, laidKinds := [.widerDeep, .widerDeep, .widerDeep, .widerDeep, .widerDeep, .widerDeep, .widerDeep, .widerDeep, .widerDeep], laidTests := true, laidLooks := .later }
def CodeNamesUptoCardSaid : Prop := Claim7.holds Tryz.pinned (.plain (OpenSpec.upto codeNamesSpec)) codeNamesUptoCard

/-- THE SECOND FORM's CARD OF 'scribelaw15.CodeChecks'. -/
def codeChecksUptoCard : Claim7 := { stood := { row := codeChecksUptoRow, standIns := [], harness := (true, "6dfbe3340b83b15896a0b61dc004d8fd559526c1efbae6a831c5161eeac36e9c"), looks := false }, kinds := [], alts := [], laidByText := true, laidKinds := [.widerDeep, .widerDeep, .widerDeep, .widerDeep, .widerDeep, .widerDeep, .widerDeep, .widerDeep, .widerDeep], laidTests := true, laidLooks := .later }
def CodeChecksUptoCardSaid : Prop := Claim7.holds Tryz.pinned (.plain (OpenSpec.upto codeChecksSpec)) codeChecksUptoCard
end Rows
end Go.Proofs.YtagjgpkomcmkbaaGreatDoor
