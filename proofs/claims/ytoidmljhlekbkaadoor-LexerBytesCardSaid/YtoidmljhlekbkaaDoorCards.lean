/-
  DERIVED. GIVEN WITH THE SEED: THE CARDS: each row of YtoidmljhlekbkaaDoorRows.lean that lists a variable, with what it lists TIED to the program's text (the seventh form; the later family's looks); each row that meets fmt, with fmt's text TOLD by the authors' own Lean function (tested against real Go, not proved from fmt's source: count such statements apart). THE CARD IS WHAT COUNTS. Prove the row's statement (the work); the ties are given (YtoidmljhlekbkaaDoorTie.lean); close each card by the builder's one call (the guide's Derived/Test/ToyasCard.lean, 'card_holds'). Laid BY PROGRAM, IN A SANDBOX (cutbox-door.mjs). By AI agents, Wed Nov 11 2026. No macro, syntax, notation, axiom, sorry.
-/
import Derived.Test.YtoidmljhlekbkaaDoorRows
import GoSem.ClaimSeven
namespace Go.Proofs.YtoidmljhlekbkaaDoor
namespace Rows

/-- THE TIED CARD OF 'trunnionlaw11.LexerTokens'. -/
def lexerTokensCard : Claim7 := { stood := { row := lexerTokensRow, standIns := [], harness := (true, "09660570d19ad61ea6fcc418b4fa2f246f51f27fdcf28e094159d75741c40f88"), looks := false }, kinds := [], alts := [], laidByText := true, laidKinds := [.data, .pinned], laidTests := true, laidLooks := .later }
def LexerTokensCardSaid : Prop := Claim7.holds Tryd.pinned (.plain (OpenSpec.ofChange lexerTokensSpec)) lexerTokensCard

/-- THE TIED CARD OF 'trunnionlaw11.LexerBytes'. -/
def lexerBytesCard : Claim7 := { stood := { row := lexerBytesRow, standIns := [], harness := (true, "09660570d19ad61ea6fcc418b4fa2f246f51f27fdcf28e094159d75741c40f88"), looks := false }, kinds := [], alts := [], laidByText := true, laidKinds := [.data, .pinned], laidTests := true, laidLooks := .later }
def LexerBytesCardSaid : Prop := Claim7.holds Tryd.pinned (.plain (OpenSpec.ofChange lexerBytesSpec)) lexerBytesCard

/-- THE TIED CARD OF 'trunnionlaw11.LexerNumbers'. -/
def lexerNumbersCard : Claim7 := { stood := { row := lexerNumbersRow, standIns := [], harness := (true, "09660570d19ad61ea6fcc418b4fa2f246f51f27fdcf28e094159d75741c40f88"), looks := false }, kinds := [], alts := [], laidByText := true, laidKinds := [.data, .pinned], laidTests := true, laidLooks := .later }
def LexerNumbersCardSaid : Prop := Claim7.holds Tryd.pinned (.plain (OpenSpec.ofChange lexerNumbersSpec)) lexerNumbersCard

/-- THE TIED CARD OF 'trunnionlaw11.LexerStrings'. -/
def lexerStringsCard : Claim7 := { stood := { row := lexerStringsRow, standIns := [], harness := (true, "09660570d19ad61ea6fcc418b4fa2f246f51f27fdcf28e094159d75741c40f88"), looks := false }, kinds := [], alts := [], laidByText := true, laidKinds := [.data, .pinned], laidTests := true, laidLooks := .later }
def LexerStringsCardSaid : Prop := Claim7.holds Tryd.pinned (.plain (OpenSpec.ofChange lexerStringsSpec)) lexerStringsCard

/-- THE TIED CARD OF 'trunnionlaw11.LexerLines'. -/
def lexerLinesCard : Claim7 := { stood := { row := lexerLinesRow, standIns := [], harness := (true, "09660570d19ad61ea6fcc418b4fa2f246f51f27fdcf28e094159d75741c40f88"), looks := false }, kinds := [], alts := [], laidByText := true, laidKinds := [.data, .pinned], laidTests := true, laidLooks := .later }
def LexerLinesCardSaid : Prop := Claim7.holds Tryd.pinned (.plain (OpenSpec.ofChange lexerLinesSpec)) lexerLinesCard

/-- THE TIED CARD OF 'trunnionlaw11.LexerNames'. -/
def lexerNamesCard : Claim7 := { stood := { row := lexerNamesRow, standIns := [], harness := (true, "09660570d19ad61ea6fcc418b4fa2f246f51f27fdcf28e094159d75741c40f88"), looks := false }, kinds := [], alts := [], laidByText := true, laidKinds := [.data, .pinned], laidTests := true, laidLooks := .later }
def LexerNamesCardSaid : Prop := Claim7.holds Tryd.pinned (.plain (OpenSpec.ofChange lexerNamesSpec)) lexerNamesCard

/-- THE SECOND FORM's CARD OF 'trunnionlaw11.LexerTokens'. -/
def lexerTokensUptoCard : Claim7 := { stood := { row := lexerTokensUptoRow, standIns := [], harness := (true, "09660570d19ad61ea6fcc418b4fa2f246f51f27fdcf28e094159d75741c40f88"), looks := false }, kinds := [], alts := [], laidByText := true, laidKinds := [.data, .pinned], laidTests := true, laidLooks := .later }
def LexerTokensUptoCardSaid : Prop := Claim7.holds Tryd.pinned (.plain (OpenSpec.upto lexerTokensSpec)) lexerTokensUptoCard

/-- THE SECOND FORM's CARD OF 'trunnionlaw11.LexerBytes'. -/
def lexerBytesUptoCard : Claim7 := { stood := { row := lexerBytesUptoRow, standIns := [], harness := (true, "09660570d19ad61ea6fcc418b4fa2f246f51f27fdcf28e094159d75741c40f88"), looks := false }, kinds := [], alts := [], laidByText := true, laidKinds := [.data, .pinned], laidTests := true, laidLooks := .later }
def LexerBytesUptoCardSaid : Prop := Claim7.holds Tryd.pinned (.plain (OpenSpec.upto lexerBytesSpec)) lexerBytesUptoCard

/-- THE SECOND FORM's CARD OF 'trunnionlaw11.LexerNumbers'. -/
def lexerNumbersUptoCard : Claim7 := { stood := { row := lexerNumbersUptoRow, standIns := [], harness := (true, "09660570d19ad61ea6fcc418b4fa2f246f51f27fdcf28e094159d75741c40f88"), looks := false }, kinds := [], alts := [], laidByText := true, laidKinds := [.data, .pinned], laidTests := true, laidLooks := .later }
def LexerNumbersUptoCardSaid : Prop := Claim7.holds Tryd.pinned (.plain (OpenSpec.upto lexerNumbersSpec)) lexerNumbersUptoCard

/-- THE SECOND FORM's CARD OF 'trunnionlaw11.LexerStrings'. -/
def lexerStringsUptoCard : Claim7 := { stood := { row := lexerStringsUptoRow, standIns := [], harness := (true, "09660570d19ad61ea6fcc418b4fa2f246f51f27fdcf28e094159d75741c40f88"), looks := false }, kinds := [], alts := [], laidByText := true, laidKinds := [.data, .pinned], laidTests := true, laidLooks := .later }
def LexerStringsUptoCardSaid : Prop := Claim7.holds Tryd.pinned (.plain (OpenSpec.upto lexerStringsSpec)) lexerStringsUptoCard

/-- THE SECOND FORM's CARD OF 'trunnionlaw11.LexerLines'. -/
def lexerLinesUptoCard : Claim7 := { stood := { row := lexerLinesUptoRow, standIns := [], harness := (true, "09660570d19ad61ea6fcc418b4fa2f246f51f27fdcf28e094159d75741c40f88"), looks := false }, kinds := [], alts := [], laidByText := true, laidKinds := [.data, .pinned], laidTests := true, laidLooks := .later }
def LexerLinesUptoCardSaid : Prop := Claim7.holds Tryd.pinned (.plain (OpenSpec.upto lexerLinesSpec)) lexerLinesUptoCard

/-- THE SECOND FORM's CARD OF 'trunnionlaw11.LexerNames'. -/
def lexerNamesUptoCard : Claim7 := { stood := { row := lexerNamesUptoRow, standIns := [], harness := (true, "09660570d19ad61ea6fcc418b4fa2f246f51f27fdcf28e094159d75741c40f88"), looks := false }, kinds := [], alts := [], laidByText := true, laidKinds := [.data, .pinned], laidTests := true, laidLooks := .later }
def LexerNamesUptoCardSaid : Prop := Claim7.holds Tryd.pinned (.plain (OpenSpec.upto lexerNamesSpec)) lexerNamesUptoCard
end Rows
end Go.Proofs.YtoidmljhlekbkaaDoor
