/-
  NARROWER THAN 'FOR EVERY INPUT', by the rows' own cells (each row's printed sentence says how): CodeBent: laid · CodeTwice: laid · CodeNames: laid · CodeChecks: laid.
  DERIVED. THE GIVEN ROWS OF THIS SEAT. 4 by the template 'for every input the law returns true; each argument reads behind the call as it read before'; 0 by the template 'total and deterministic' (their statements: YtagjgpkomcmkbaaGreatDoorTotals.lean).
  GIVEN WITH THE SEED: the statements are not yours to turn. If you find one false, say at which input.
  Laid BY PROGRAM, IN A SANDBOX (cutbox-rows.mjs): the forced cells as the released guide's own fill.sh prints them over the translation 480a55c3d5bd2cf1… (all of the seat's roots in one cut). By AI agents, Wed Nov 11 2026. No macro, syntax, notation, axiom, sorry.
-/
import Derived.Test.YtagjgpkomcmkbaaGreatDoorChecked
import GoSem.Claim
import GoSem.ClaimJoined
import GoSem.ClaimMapViews
import Derived.JoinedTies
import Derived.KernelRfl
namespace Go.Proofs.YtagjgpkomcmkbaaGreatDoor
/- THE CELL 'sum', in the pinned program and in every row, IS THE sha256 OF THE DUMP (.gsa) THAT YtagjgpkomcmkbaaGreatDoorProg.lean LOADS. Nothing in Lean hashes anything: it is a label: what it is worth is what the hold of that sum in a sandbox is worth. -/
noncomputable def Tryz.pinned : Pinned := { name := "ytagjgpkomcmkbaagreatdoor", sum := "480a55c3d5bd2cf1e76c8531f10b0fa0c895ac998ea148c9c0c3bdcdae8d4742", checked := Tryz.checked }
namespace Rows
def none {H : Type} : Left H := { results := [], args := [] }

/- WHAT THE LISTED PACKAGE-LEVEL VARIABLES READ AS WHEN THE CALL BEGINS. Each datum BY PROGRAM (the guide's laid-datum.mjs) off the statement by which the dump's own 'gosem.cut.vars' lays the variable. In a bare row this is a premise. The card (YtagjgpkomcmkbaaGreatDoorCards.lean) ties it to the program's text. -/
def laid_scribe_lex_words {H : Type} : DataW H := .slice [.lit (.string [66, 69, 71, 73, 78]), .lit (.string [69, 78, 68]), .lit (.string [102, 117, 110, 99, 116, 105, 111, 110]), .lit (.string [105, 102]), .lit (.string [101, 108, 115, 101]), .lit (.string [119, 104, 105, 108, 101]), .lit (.string [102, 111, 114]), .lit (.string [105, 110]), .lit (.string [98, 114, 101, 97, 107]), .lit (.string [99, 111, 110, 116, 105, 110, 117, 101]), .lit (.string [110, 101, 120, 116]), .lit (.string [101, 120, 105, 116]), .lit (.string [114, 101, 116, 117, 114, 110]), .lit (.string [100, 101, 108, 101, 116, 101]), .lit (.string [112, 114, 105, 110, 116]), .lit (.string [112, 114, 105, 110, 116, 102])] []
def laid_scribe_lex_builtins {H : Type} : DataW H := .slice [.lit (.string [108, 101, 110, 103, 116, 104]), .lit (.string [115, 117, 98, 115, 116, 114]), .lit (.string [105, 110, 100, 101, 120]), .lit (.string [115, 112, 108, 105, 116]), .lit (.string [115, 117, 98]), .lit (.string [103, 115, 117, 98]), .lit (.string [109, 97, 116, 99, 104]), .lit (.string [116, 111, 108, 111, 119, 101, 114]), .lit (.string [116, 111, 117, 112, 112, 101, 114]), .lit (.string [105, 110, 116]), .lit (.string [115, 112, 114, 105, 110, 116, 102]), .lit (.string [114, 97, 110, 100]), .lit (.string [115, 114, 97, 110, 100])] []
def laid_scribe_lex_banned {H : Type} : DataW H := .slice [.lit (.string [103, 101, 116, 108, 105, 110, 101]), .lit (.string [115, 121, 115, 116, 101, 109]), .lit (.string [99, 108, 111, 115, 101]), .lit (.string [102, 102, 108, 117, 115, 104]), .lit (.string [115, 121, 115, 116, 105, 109, 101]), .lit (.string [115, 116, 114, 102, 116, 105, 109, 101])] []
def laid_scribe_resolve_special {H : Type} : DataW H := .slice [.lit (.string [78, 82]), .lit (.string [78, 70]), .lit (.string [70, 83]), .lit (.string [79, 70, 83]), .lit (.string [79, 82, 83]), .lit (.string [70, 73, 76, 69, 78, 65, 77, 69]), .lit (.string [82, 83, 84, 65, 82, 84]), .lit (.string [82, 76, 69, 78, 71, 84, 72])] []
def laid_scribe_code_names {H : Type} : DataW H := .slice [.lit (.string [108, 101, 110, 103, 116, 104]), .lit (.string [115, 117, 98, 115, 116, 114]), .lit (.string [105, 110, 100, 101, 120]), .lit (.string [115, 112, 108, 105, 116]), .lit (.string [109, 97, 116, 99, 104]), .lit (.string [116, 111, 108, 111, 119, 101, 114]), .lit (.string [116, 111, 117, 112, 112, 101, 114]), .lit (.string [105, 110, 116]), .lit (.string [115, 112, 114, 105, 110, 116, 102]), .lit (.string [114, 97, 110, 100]), .lit (.string [115, 114, 97, 110, 100])] []
def laid_scribe_code_modes {H : Type} : DataW H := .slice [.lit (.string [61]), .lit (.string [43, 61]), .lit (.string [45, 61]), .lit (.string [42, 61]), .lit (.string [47, 61]), .lit (.string [37, 61]), .lit (.string [112, 114, 101, 105, 110, 99]), .lit (.string [112, 114, 101, 100, 101, 99]), .lit (.string [112, 111, 115, 116, 105, 110, 99]), .lit (.string [112, 111, 115, 116, 100, 101, 99])] []
def laid_scribe_code_binaries {H : Type} : DataW H := .slice [.lit (.string [97, 100, 100]), .lit (.string [115, 117, 98]), .lit (.string [109, 117, 108]), .lit (.string [100, 105, 118]), .lit (.string [109, 111, 100]), .lit (.string [99, 97, 116]), .lit (.string [108, 101, 115, 115]), .lit (.string [108, 101, 115, 115, 101, 113]), .lit (.string [101, 113, 117, 97, 108]), .lit (.string [110, 111, 116, 101, 113, 117, 97, 108]), .lit (.string [103, 114, 101, 97, 116, 101, 114]), .lit (.string [103, 114, 101, 97, 116, 101, 114, 101, 113])] []
def laid_scribe_code_unaries {H : Type} : DataW H := .slice [.lit (.string [110, 111, 116]), .lit (.string [110, 101, 103]), .lit (.string [112, 108, 117, 115])] []
def laid_scribe_code_special {H : Type} : DataW H := .slice [.lit (.string [78, 82]), .lit (.string [78, 70]), .lit (.string [70, 83]), .lit (.string [79, 70, 83]), .lit (.string [79, 82, 83]), .lit (.string [70, 73, 76, 69, 78, 65, 77, 69]), .lit (.string [82, 83, 84, 65, 82, 84]), .lit (.string [82, 76, 69, 78, 71, 84, 72])] []

/-- 'scribelaw15.CodeBent': WHATEVER THE INPUT: true; the input reads as it did. -/
def codeBentSpec : ChangeSpec := { name := "codeBent", fn := fun _ => fun
  | [d1, d2, d3, d4, d5] => { results := [.lit (.bool true)], args := [d1, d2, d3, d4, d5] }
  | _ => none }
def codeBentRow : OpenClaim := { program := "ytagjgpkomcmkbaagreatdoor", sum := "480a55c3d5bd2cf1e76c8531f10b0fa0c895ac998ea148c9c0c3bdcdae8d4742", func := "scribe/scribelaw15.CodeBent", spec := "codeBent", inPlace := ["internal/abi.NoEscape", "internal/bytealg.IndexByteString", "internal/bytealg.IndexString"], unfollowed := true, recurses := true, named := ["scribe/code.special", "scribe/lex.words", "scribe/lex.builtins", "scribe/lex.banned", "internal/bytealg.MaxLen", "scribe/resolve.special", "scribe/code.modes", "scribe/code.unaries", "scribe/code.binaries", "scribe/code.names"], plainKeys := false, apart := false, laid := [("scribe/lex.words", laid_scribe_lex_words), ("scribe/lex.builtins", laid_scribe_lex_builtins), ("scribe/lex.banned", laid_scribe_lex_banned), ("scribe/resolve.special", laid_scribe_resolve_special), ("scribe/code.names", laid_scribe_code_names), ("scribe/code.modes", laid_scribe_code_modes), ("scribe/code.binaries", laid_scribe_code_binaries), ("scribe/code.unaries", laid_scribe_code_unaries), ("scribe/code.special", laid_scribe_code_special)] }
def CodeBentSaid : Prop := codeBentRow.holds Tryz.pinned (OpenSpec.ofChange codeBentSpec)

/-- ITS FALSE NEIGHBOUR: 'it returns false'. Refute it at one input. -/
def codeBentWrong : ChangeSpec := { name := "codeBent", fn := fun _ => fun
  | [d1, d2, d3, d4, d5] => { results := [.lit (.bool false)], args := [d1, d2, d3, d4, d5] }
  | _ => none }
def CodeBentWrongFalsely : Prop := codeBentRow.holds Tryz.pinned (OpenSpec.ofChange codeBentWrong)

/-- 'scribelaw15.CodeTwice': WHATEVER THE INPUT: true; the input reads as it did. -/
def codeTwiceSpec : ChangeSpec := { name := "codeTwice", fn := fun _ => fun
  | [d] => { results := [.lit (.bool true)], args := [d] }
  | _ => none }
def codeTwiceRow : OpenClaim := { program := "ytagjgpkomcmkbaagreatdoor", sum := "480a55c3d5bd2cf1e76c8531f10b0fa0c895ac998ea148c9c0c3bdcdae8d4742", func := "scribe/scribelaw15.CodeTwice", spec := "codeTwice", inPlace := ["internal/abi.NoEscape", "internal/bytealg.IndexByteString", "internal/bytealg.IndexString"], unfollowed := true, recurses := true, named := ["scribe/code.special", "scribe/lex.words", "scribe/lex.builtins", "scribe/lex.banned", "internal/bytealg.MaxLen", "scribe/resolve.special", "scribe/code.modes", "scribe/code.unaries", "scribe/code.binaries", "scribe/code.names"], plainKeys := false, apart := false, laid := [("scribe/lex.words", laid_scribe_lex_words), ("scribe/lex.builtins", laid_scribe_lex_builtins), ("scribe/lex.banned", laid_scribe_lex_banned), ("scribe/resolve.special", laid_scribe_resolve_special), ("scribe/code.names", laid_scribe_code_names), ("scribe/code.modes", laid_scribe_code_modes), ("scribe/code.binaries", laid_scribe_code_binaries), ("scribe/code.unaries", laid_scribe_code_unaries), ("scribe/code.special", laid_scribe_code_special)] }
def CodeTwiceSaid : Prop := codeTwiceRow.holds Tryz.pinned (OpenSpec.ofChange codeTwiceSpec)

/-- ITS FALSE NEIGHBOUR: 'it returns false'. Refute it at one input. -/
def codeTwiceWrong : ChangeSpec := { name := "codeTwice", fn := fun _ => fun
  | [d] => { results := [.lit (.bool false)], args := [d] }
  | _ => none }
def CodeTwiceWrongFalsely : Prop := codeTwiceRow.holds Tryz.pinned (OpenSpec.ofChange codeTwiceWrong)

/-- 'scribelaw15.CodeNames': WHATEVER THE INPUT: true; the input reads as it did. -/
def codeNamesSpec : ChangeSpec := { name := "codeNames", fn := fun _ => fun
  | [d] => { results := [.lit (.bool true)], args := [d] }
  | _ => none }
def codeNamesRow : OpenClaim := { program := "ytagjgpkomcmkbaagreatdoor", sum := "480a55c3d5bd2cf1e76c8531f10b0fa0c895ac998ea148c9c0c3bdcdae8d4742", func := "scribe/scribelaw15.CodeNames", spec := "codeNames", inPlace := ["internal/abi.NoEscape", "internal/bytealg.IndexByteString", "internal/bytealg.IndexString"], unfollowed := true, recurses := true, named := ["scribe/code.special", "scribe/lex.words", "scribe/lex.builtins", "scribe/lex.banned", "internal/bytealg.MaxLen", "scribe/resolve.special", "scribe/code.modes", "scribe/code.unaries", "scribe/code.binaries", "scribe/code.names"], plainKeys := false, apart := false, laid := [("scribe/lex.words", laid_scribe_lex_words), ("scribe/lex.builtins", laid_scribe_lex_builtins), ("scribe/lex.banned", laid_scribe_lex_banned), ("scribe/resolve.special", laid_scribe_resolve_special), ("scribe/code.names", laid_scribe_code_names), ("scribe/code.modes", laid_scribe_code_modes), ("scribe/code.binaries", laid_scribe_code_binaries), ("scribe/code.unaries", laid_scribe_code_unaries), ("scribe/code.special", laid_scribe_code_special)] }
def CodeNamesSaid : Prop := codeNamesRow.holds Tryz.pinned (OpenSpec.ofChange codeNamesSpec)

/-- ITS FALSE NEIGHBOUR: 'it returns false'. Refute it at one input. -/
def codeNamesWrong : ChangeSpec := { name := "codeNames", fn := fun _ => fun
  | [d] => { results := [.lit (.bool false)], args := [d] }
  | _ => none }
def CodeNamesWrongFalsely : Prop := codeNamesRow.holds Tryz.pinned (OpenSpec.ofChange codeNamesWrong)

/-- 'scribelaw15.CodeChecks': WHATEVER THE INPUT: true; the input reads as it did. -/
def codeChecksSpec : ChangeSpec := { name := "codeChecks", fn := fun _ => fun
  | [d] => { results := [.lit (.bool true)], args := [d] }
  | _ => none }
def codeChecksRow : OpenClaim := { program := "ytagjgpkomcmkbaagreatdoor", sum := "480a55c3d5bd2cf1e76c8531f10b0fa0c895ac998ea148c9c0c3bdcdae8d4742", func := "scribe/scribelaw15.CodeChecks", spec := "codeChecks", inPlace := ["internal/abi.NoEscape", "internal/bytealg.IndexByteString", "internal/bytealg.IndexString"], unfollowed := true, recurses := true, named := ["scribe/code.special", "scribe/code.modes", "scribe/code.unaries", "scribe/code.binaries", "scribe/code.names", "scribe/lex.words", "scribe/lex.builtins", "scribe/lex.banned", "internal/bytealg.MaxLen", "scribe/resolve.special"], plainKeys := false, apart := false, laid := [("scribe/lex.words", laid_scribe_lex_words), ("scribe/lex.builtins", laid_scribe_lex_builtins), ("scribe/lex.banned", laid_scribe_lex_banned), ("scribe/resolve.special", laid_scribe_resolve_special), ("scribe/code.names", laid_scribe_code_names), ("scribe/code.modes", laid_scribe_code_modes), ("scribe/code.binaries", laid_scribe_code_binaries), ("scribe/code.unaries", laid_scribe_code_unaries), ("scribe/code.special", laid_scribe_code_special)] }
def CodeChecksSaid : Prop := codeChecksRow.holds Tryz.pinned (OpenSpec.ofChange codeChecksSpec)

/-- ITS FALSE NEIGHBOUR: 'it returns false'. Refute it at one input. -/
def codeChecksWrong : ChangeSpec := { name := "codeChecks", fn := fun _ => fun
  | [d] => { results := [.lit (.bool false)], args := [d] }
  | _ => none }
def CodeChecksWrongFalsely : Prop := codeChecksRow.holds Tryz.pinned (OpenSpec.ofChange codeChecksWrong)

/- THE SECOND FORM. 'bulk': how many values and letters a reading holds, each counted each time it is reached (what is shared counts as often as it is met; a slice's spare places count too). A statement '..UptoSaid' is the law's where the arguments, and the package variables that the reading takes, are together of bulk at most 1048576: NARROWER than '..Said'. Prove '..Said' where nothing that the law and all that it calls make is longer than what came in: it says more and counts as full. Else prove '..UptoSaid'. A law counts once. -/
mutual
def uptoBulk {H : Type} : DataW H → Nat
  | .lit (.string bytes) => bytes.length + 1
  | .lit _ => 1
  | .nil => 1
  | .ptr d => uptoBulk d + 1
  | .slice elems spare => uptoBulkAll elems + uptoBulkAll spare + 1
  | .agg parts => uptoBulkAll parts + 1
  | .iface _ d => uptoBulk d + 1
  | .map entries => uptoBulkEntries entries + 1
  | .held _ => 1
def uptoBulkAll {H : Type} : List (DataW H) → Nat
  | [] => 0
  | d :: r => uptoBulk d + uptoBulkAll r
def uptoBulkEntries {H : Type} : List (Lit × DataW H) → Nat
  | [] => 0
  | x :: r => uptoBulkEntry x + uptoBulkEntries r
def uptoBulkEntry {H : Type} : Lit × DataW H → Nat
  | (.string bytes, d) => bytes.length + uptoBulk d + 1
  | (_, d) => uptoBulk d + 1
 end
def uptoSmall : (H : Type) → List (DataW H) → Bool := fun _ ds => decide (uptoBulkAll ds ≤ 1048576)
def OpenSpec.upto (s : _root_.Go.ChangeSpec) : _root_.Go.OpenSpec := { _root_.Go.OpenSpec.ofChange s with cond := some uptoSmall }

/-- 'scribelaw15.CodeBent', WHERE WHAT IT READS IS OF BULK AT MOST 1048576: true; the input reads as it did. -/
def codeBentUptoRow : OpenClaim := { program := "ytagjgpkomcmkbaagreatdoor", sum := "480a55c3d5bd2cf1e76c8531f10b0fa0c895ac998ea148c9c0c3bdcdae8d4742", func := "scribe/scribelaw15.CodeBent", spec := "codeBent", inPlace := ["internal/abi.NoEscape", "internal/bytealg.IndexByteString", "internal/bytealg.IndexString"], unfollowed := true, recurses := true, named := ["scribe/code.special", "scribe/lex.words", "scribe/lex.builtins", "scribe/lex.banned", "internal/bytealg.MaxLen", "scribe/resolve.special", "scribe/code.modes", "scribe/code.unaries", "scribe/code.binaries", "scribe/code.names"], plainKeys := false, apart := false, laid := [("scribe/lex.words", laid_scribe_lex_words), ("scribe/lex.builtins", laid_scribe_lex_builtins), ("scribe/lex.banned", laid_scribe_lex_banned), ("scribe/resolve.special", laid_scribe_resolve_special), ("scribe/code.names", laid_scribe_code_names), ("scribe/code.modes", laid_scribe_code_modes), ("scribe/code.binaries", laid_scribe_code_binaries), ("scribe/code.unaries", laid_scribe_code_unaries), ("scribe/code.special", laid_scribe_code_special)], narrowed := true }
def CodeBentUptoSaid : Prop := codeBentUptoRow.holds Tryz.pinned (OpenSpec.upto codeBentSpec)

/-- 'scribelaw15.CodeTwice', WHERE WHAT IT READS IS OF BULK AT MOST 1048576: true; the input reads as it did. -/
def codeTwiceUptoRow : OpenClaim := { program := "ytagjgpkomcmkbaagreatdoor", sum := "480a55c3d5bd2cf1e76c8531f10b0fa0c895ac998ea148c9c0c3bdcdae8d4742", func := "scribe/scribelaw15.CodeTwice", spec := "codeTwice", inPlace := ["internal/abi.NoEscape", "internal/bytealg.IndexByteString", "internal/bytealg.IndexString"], unfollowed := true, recurses := true, named := ["scribe/code.special", "scribe/lex.words", "scribe/lex.builtins", "scribe/lex.banned", "internal/bytealg.MaxLen", "scribe/resolve.special", "scribe/code.modes", "scribe/code.unaries", "scribe/code.binaries", "scribe/code.names"], plainKeys := false, apart := false, laid := [("scribe/lex.words", laid_scribe_lex_words), ("scribe/lex.builtins", laid_scribe_lex_builtins), ("scribe/lex.banned", laid_scribe_lex_banned), ("scribe/resolve.special", laid_scribe_resolve_special), ("scribe/code.names", laid_scribe_code_names), ("scribe/code.modes", laid_scribe_code_modes), ("scribe/code.binaries", laid_scribe_code_binaries), ("scribe/code.unaries", laid_scribe_code_unaries), ("scribe/code.special", laid_scribe_code_special)], narrowed := true }
def CodeTwiceUptoSaid : Prop := codeTwiceUptoRow.holds Tryz.pinned (OpenSpec.upto codeTwiceSpec)

/-- 'scribelaw15.CodeNames', WHERE WHAT IT READS IS OF BULK AT MOST 1048576: true; the input reads as it did. -/
def codeNamesUptoRow : OpenClaim := { program := "ytagjgpkomcmkbaagreatdoor", sum := "480a55c3d5bd2cf1e76c8531f10b0fa0c895ac998ea148c9c0c3bdcdae8d4742", func := "scribe/scribelaw15.CodeNames", spec := "codeNames", inPlace := ["internal/abi.NoEscape", "internal/bytealg.IndexByteString", "internal/bytealg.IndexString"], unfollowed := true, recurses := true, named := ["scribe/code.special", "scribe/lex.words", "scribe/lex.builtins", "scribe/lex.banned", "internal/bytealg.MaxLen", "scribe/resolve.special", "scribe/code.modes", "scribe/code.unaries", "scribe/code.binaries", "scribe/code.names"], plainKeys := false, apart := false, laid := [("scribe/lex.words", laid_scribe_lex_words), ("scribe/lex.builtins", laid_scribe_lex_builtins), ("scribe/lex.banned", laid_scribe_lex_banned), ("scribe/resolve.special", laid_scribe_resolve_special), ("scribe/code.names", laid_scribe_code_names), ("scribe/code.modes", laid_scribe_code_modes), ("scribe/code.binaries", laid_scribe_code_binaries), ("scribe/code.unaries", laid_scribe_code_unaries), ("scribe/code.special", laid_scribe_code_special)], narrowed := true }
def CodeNamesUptoSaid : Prop := codeNamesUptoRow.holds Tryz.pinned (OpenSpec.upto codeNamesSpec)

/-- 'scribelaw15.CodeChecks', WHERE WHAT IT READS IS OF BULK AT MOST 1048576: true; the input reads as it did. -/
def codeChecksUptoRow : OpenClaim := { program := "ytagjgpkomcmkbaagreatdoor", sum := "480a55c3d5bd2cf1e76c8531f10b0fa0c895ac998ea148c9c0c3bdcdae8d4742", func := "scribe/scribelaw15.CodeChecks", spec := "codeChecks", inPlace := ["internal/abi.NoEscape", "internal/bytealg.IndexByteString", "internal/bytealg.IndexString"], unfollowed := true, recurses := true, named := ["scribe/code.special", "scribe/code.modes", "scribe/code.unaries", "scribe/code.binaries", "scribe/code.names", "scribe/lex.words", "scribe/lex.builtins", "scribe/lex.banned", "internal/bytealg.MaxLen", "scribe/resolve.special"], plainKeys := false, apart := false, laid := [("scribe/lex.words", laid_scribe_lex_words), ("scribe/lex.builtins", laid_scribe_lex_builtins), ("scribe/lex.banned", laid_scribe_lex_banned), ("scribe/resolve.special", laid_scribe_resolve_special), ("scribe/code.names", laid_scribe_code_names), ("scribe/code.modes", laid_scribe_code_modes), ("scribe/code.binaries", laid_scribe_code_binaries), ("scribe/code.unaries", laid_scribe_code_unaries), ("scribe/code.special", laid_scribe_code_special)], narrowed := true }
def CodeChecksUptoSaid : Prop := codeChecksUptoRow.holds Tryz.pinned (OpenSpec.upto codeChecksSpec)

end Rows
end Go.Proofs.YtagjgpkomcmkbaaGreatDoor
