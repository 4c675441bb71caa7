/-
  DERIVED. GIVEN WITH THE SEED: THE CARDS: each row of YtmfldcacjpligaaDoorRows.lean that lists a variable, with what it lists TIED to the program's text (the seventh form; the later family's looks); each row that meets fmt, with fmt's text TOLD by the authors' own Lean function (tested against real Go, not proved from fmt's source: count such statements apart). THE CARD IS WHAT COUNTS. Prove the row's statement (the work); the ties are given (YtmfldcacjpligaaDoorTie.lean); close each card by the builder's one call (the guide's Derived/Test/ToyasCard.lean, 'card_holds'). Laid BY PROGRAM, IN A SANDBOX (cutbox-door.mjs). By AI agents, Wed Nov 11 2026. No macro, syntax, notation, axiom, sorry.
-/
import Derived.Test.YtmfldcacjpligaaDoorRows
import GoSem.ClaimSeven
namespace Go.Proofs.YtmfldcacjpligaaDoor
namespace Rows

/-- THE TIED CARD OF 'trunnionlaw2.IsaUnlike'. -/
def isaUnlikeCard : Claim7 := { stood := { row := isaUnlikeRow, standIns := [], harness := (true, "39aec8b67d58486c1757729f7cf1061685c7bb5a679f24a134a8bf8912420bdd"), looks := false }, kinds := [], alts := [], laidByText := true, laidKinds := [.data, .data, .data, .listed, .data], laidTests := true, laidLooks := .later }
def IsaUnlikeCardSaid : Prop := Claim7.holds Tryd.pinned (.plain (OpenSpec.ofChange isaUnlikeSpec)) isaUnlikeCard

/-- THE TIED CARD OF 'trunnionlaw2.IsaTexts'. -/
def isaTextsCard : Claim7 := { stood := { row := isaTextsRow, standIns := [], harness := (true, "39aec8b67d58486c1757729f7cf1061685c7bb5a679f24a134a8bf8912420bdd"), looks := false }, kinds := [], alts := [], laidByText := true, laidKinds := [.data, .data, .data, .listed, .data], laidTests := true, laidLooks := .later }
def IsaTextsCardSaid : Prop := Claim7.holds Tryd.pinned (.plain (OpenSpec.ofChange isaTextsSpec)) isaTextsCard

/-- THE TIED CARD OF 'trunnionlaw2.IsaNames'. -/
def isaNamesCard : Claim7 := { stood := { row := isaNamesRow, standIns := [], harness := (true, "39aec8b67d58486c1757729f7cf1061685c7bb5a679f24a134a8bf8912420bdd"), looks := false }, kinds := [], alts := [], laidByText := true, laidKinds := [.data, .data, .data, .listed, .data], laidTests := true, laidLooks := .later }
def IsaNamesCardSaid : Prop := Claim7.holds Tryd.pinned (.plain (OpenSpec.ofChange isaNamesSpec)) isaNamesCard

/-- THE TIED CARD OF 'trunnionlaw2.IsaAll'. -/
def isaAllCard : Claim7 := { stood := { row := isaAllRow, standIns := [], harness := (true, "39aec8b67d58486c1757729f7cf1061685c7bb5a679f24a134a8bf8912420bdd"), looks := false }, kinds := [], alts := [], laidByText := true, laidKinds := [.data, .data, .data, .listed, .data], laidTests := true, laidLooks := .later }
def IsaAllCardSaid : Prop := Claim7.holds Tryd.pinned (.plain (OpenSpec.ofChange isaAllSpec)) isaAllCard

/-- THE TIED CARD OF 'trunnionlaw2.IsaEncodes'. -/
def isaEncodesCard : Claim7 := { stood := { row := isaEncodesRow, standIns := [], harness := (true, "39aec8b67d58486c1757729f7cf1061685c7bb5a679f24a134a8bf8912420bdd"), looks := false }, kinds := [], alts := [], laidByText := true, laidKinds := [.data, .data, .data, .listed, .data], laidTests := true, laidLooks := .later }
def IsaEncodesCardSaid : Prop := Claim7.holds Tryd.pinned (.plain (OpenSpec.ofChange isaEncodesSpec)) isaEncodesCard

/-- THE TIED CARD OF 'trunnionlaw2.IsaDecodes'. -/
def isaDecodesCard : Claim7 := { stood := { row := isaDecodesRow, standIns := [], harness := (true, "39aec8b67d58486c1757729f7cf1061685c7bb5a679f24a134a8bf8912420bdd"), looks := false }, kinds := [], alts := [], laidByText := true, laidKinds := [.data, .data, .data, .listed, .data], laidTests := true, laidLooks := .later }
def IsaDecodesCardSaid : Prop := Claim7.holds Tryd.pinned (.plain (OpenSpec.ofChange isaDecodesSpec)) isaDecodesCard

/-- THE TIED CARD OF 'trunnionlaw2.IsaFields'. -/
def isaFieldsCard : Claim7 := { stood := { row := isaFieldsRow, standIns := [], harness := (true, "39aec8b67d58486c1757729f7cf1061685c7bb5a679f24a134a8bf8912420bdd"), looks := false }, kinds := [], alts := [], laidByText := true, laidKinds := [.data, .data, .data, .listed, .data], laidTests := true, laidLooks := .later }
def IsaFieldsCardSaid : Prop := Claim7.holds Tryd.pinned (.plain (OpenSpec.ofChange isaFieldsSpec)) isaFieldsCard

/-- THE TIED CARD OF 'trunnionlaw2.IsaSigns'. -/
def isaSignsCard : Claim7 := { stood := { row := isaSignsRow, standIns := [], harness := (true, "39aec8b67d58486c1757729f7cf1061685c7bb5a679f24a134a8bf8912420bdd"), looks := false }, kinds := [], alts := [], laidByText := true, laidKinds := [.data, .data, .data, .listed, .data], laidTests := true, laidLooks := .later }
def IsaSignsCardSaid : Prop := Claim7.holds Tryd.pinned (.plain (OpenSpec.ofChange isaSignsSpec)) isaSignsCard

/-- THE SECOND FORM's CARD OF 'trunnionlaw2.IsaUnlike'. -/
def isaUnlikeUptoCard : Claim7 := { stood := { row := isaUnlikeUptoRow, standIns := [], harness := (true, "39aec8b67d58486c1757729f7cf1061685c7bb5a679f24a134a8bf8912420bdd"), looks := false }, kinds := [], alts := [], laidByText := true, laidKinds := [.data, .data, .data, .listed, .data], laidTests := true, laidLooks := .later }
def IsaUnlikeUptoCardSaid : Prop := Claim7.holds Tryd.pinned (.plain (OpenSpec.upto isaUnlikeSpec)) isaUnlikeUptoCard

/-- THE SECOND FORM's CARD OF 'trunnionlaw2.IsaTexts'. -/
def isaTextsUptoCard : Claim7 := { stood := { row := isaTextsUptoRow, standIns := [], harness := (true, "39aec8b67d58486c1757729f7cf1061685c7bb5a679f24a134a8bf8912420bdd"), looks := false }, kinds := [], alts := [], laidByText := true, laidKinds := [.data, .data, .data, .listed, .data], laidTests := true, laidLooks := .later }
def IsaTextsUptoCardSaid : Prop := Claim7.holds Tryd.pinned (.plain (OpenSpec.upto isaTextsSpec)) isaTextsUptoCard

/-- THE SECOND FORM's CARD OF 'trunnionlaw2.IsaNames'. -/
def isaNamesUptoCard : Claim7 := { stood := { row := isaNamesUptoRow, standIns := [], harness := (true, "39aec8b67d58486c1757729f7cf1061685c7bb5a679f24a134a8bf8912420bdd"), looks := false }, kinds := [], alts := [], laidByText := true, laidKinds := [.data, .data, .data, .listed, .data], laidTests := true, laidLooks := .later }
def IsaNamesUptoCardSaid : Prop := Claim7.holds Tryd.pinned (.plain (OpenSpec.upto isaNamesSpec)) isaNamesUptoCard

/-- THE SECOND FORM's CARD OF 'trunnionlaw2.IsaAll'. -/
def isaAllUptoCard : Claim7 := { stood := { row := isaAllUptoRow, standIns := [], harness := (true, "39aec8b67d58486c1757729f7cf1061685c7bb5a679f24a134a8bf8912420bdd"), looks := false }, kinds := [], alts := [], laidByText := true, laidKinds := [.data, .data, .data, .listed, .data], laidTests := true, laidLooks := .later }
def IsaAllUptoCardSaid : Prop := Claim7.holds Tryd.pinned (.plain (OpenSpec.upto isaAllSpec)) isaAllUptoCard

/-- THE SECOND FORM's CARD OF 'trunnionlaw2.IsaEncodes'. -/
def isaEncodesUptoCard : Claim7 := { stood := { row := isaEncodesUptoRow, standIns := [], harness := (true, "39aec8b67d58486c1757729f7cf1061685c7bb5a679f24a134a8bf8912420bdd"), looks := false }, kinds := [], alts := [], laidByText := true, laidKinds := [.data, .data, .data, .listed, .data], laidTests := true, laidLooks := .later }
def IsaEncodesUptoCardSaid : Prop := Claim7.holds Tryd.pinned (.plain (OpenSpec.upto isaEncodesSpec)) isaEncodesUptoCard

/-- THE SECOND FORM's CARD OF 'trunnionlaw2.IsaDecodes'. -/
def isaDecodesUptoCard : Claim7 := { stood := { row := isaDecodesUptoRow, standIns := [], harness := (true, "39aec8b67d58486c1757729f7cf1061685c7bb5a679f24a134a8bf8912420bdd"), looks := false }, kinds := [], alts := [], laidByText := true, laidKinds := [.data, .data, .data, .listed, .data], laidTests := true, laidLooks := .later }
def IsaDecodesUptoCardSaid : Prop := Claim7.holds Tryd.pinned (.plain (OpenSpec.upto isaDecodesSpec)) isaDecodesUptoCard

/-- THE SECOND FORM's CARD OF 'trunnionlaw2.IsaFields'. -/
def isaFieldsUptoCard : Claim7 := { stood := { row := isaFieldsUptoRow, standIns := [], harness := (true, "39aec8b67d58486c1757729f7cf1061685c7bb5a679f24a134a8bf8912420bdd"), looks := false }, kinds := [], alts := [], laidByText := true, laidKinds := [.data, .data, .data, .listed, .data], laidTests := true, laidLooks := .later }
def IsaFieldsUptoCardSaid : Prop := Claim7.holds Tryd.pinned (.plain (OpenSpec.upto isaFieldsSpec)) isaFieldsUptoCard

/-- THE SECOND FORM's CARD OF 'trunnionlaw2.IsaSigns'. -/
def isaSignsUptoCard : Claim7 := { stood := { row := isaSignsUptoRow, standIns := [], harness := (true, "39aec8b67d58486c1757729f7cf1061685c7bb5a679f24a134a8bf8912420bdd"), looks := false }, kinds := [], alts := [], laidByText := true, laidKinds := [.data, .data, .data, .listed, .data], laidTests := true, laidLooks := .later }
def IsaSignsUptoCardSaid : Prop := Claim7.holds Tryd.pinned (.plain (OpenSpec.upto isaSignsSpec)) isaSignsUptoCard
end Rows
end Go.Proofs.YtmfldcacjpligaaDoor
