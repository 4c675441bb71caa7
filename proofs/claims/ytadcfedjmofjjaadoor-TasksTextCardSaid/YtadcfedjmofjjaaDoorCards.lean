/-
  DERIVED. GIVEN WITH THE SEED: THE CARDS: each row of YtadcfedjmofjjaaDoorRows.lean that lists a variable, with what it lists TIED to the program's text (the seventh form; the later family's looks); each row that meets fmt, with fmt's text TOLD by the authors' own Lean function (tested against real Go, not proved from fmt's source: count such statements apart). THE CARD IS WHAT COUNTS. Prove the row's statement (the work); the ties are given (YtadcfedjmofjjaaDoorTie.lean); close each card by the builder's one call (the guide's Derived/Test/ToyasCard.lean, 'card_holds'). Laid BY PROGRAM, IN A SANDBOX (cutbox-door.mjs). By AI agents, Wed Nov 11 2026. No macro, syntax, notation, axiom, sorry.
-/
import Derived.Test.YtadcfedjmofjjaaDoorRows
import GoSem.ClaimSeven
namespace Go.Proofs.YtadcfedjmofjjaaDoor
namespace Rows

/-- THE TIED CARD OF 'trunnionlaw23.TasksParse'. -/
def tasksParseCard : Claim7 := { stood := { row := tasksParseRow, standIns := [], harness := (true, "cd25cd98e6b07ce2ec45e326a0e2180856af4a133adcd76279f06a115718373a"), looks := false }, kinds := [], alts := [], laidByText := true, laidKinds := [.data, .pinned], laidTests := true, laidLooks := .later }
def TasksParseCardSaid : Prop := Claim7.holds Tryd.pinned (.plain (OpenSpec.ofChange tasksParseSpec)) tasksParseCard

/-- THE TIED CARD OF 'trunnionlaw23.TasksLoose'. -/
def tasksLooseCard : Claim7 := { stood := { row := tasksLooseRow, standIns := [], harness := (true, "cd25cd98e6b07ce2ec45e326a0e2180856af4a133adcd76279f06a115718373a"), looks := false }, kinds := [], alts := [], laidByText := true, laidKinds := [.data, .pinned], laidTests := true, laidLooks := .later }
def TasksLooseCardSaid : Prop := Claim7.holds Tryd.pinned (.plain (OpenSpec.ofChange tasksLooseSpec)) tasksLooseCard

/-- THE TIED CARD OF 'trunnionlaw23.TasksText'. -/
def tasksTextCard : Claim7 := { stood := { row := tasksTextRow, standIns := [], harness := (true, "cd25cd98e6b07ce2ec45e326a0e2180856af4a133adcd76279f06a115718373a"), looks := false }, kinds := [], alts := [], laidByText := true, laidKinds := [.data, .data, .data, .data, .pinned], laidTests := true, laidLooks := .later }
def TasksTextCardSaid : Prop := Claim7.holds Tryd.pinned (.plain (OpenSpec.ofChange tasksTextSpec)) tasksTextCard

/-- THE TIED CARD OF 'trunnionlaw23.TasksLimits'. -/
def tasksLimitsCard : Claim7 := { stood := { row := tasksLimitsRow, standIns := [], harness := (true, "cd25cd98e6b07ce2ec45e326a0e2180856af4a133adcd76279f06a115718373a"), looks := false }, kinds := [], alts := [], laidByText := true, laidKinds := [.data, .data, .data, .data, .pinned], laidTests := true, laidLooks := .later }
def TasksLimitsCardSaid : Prop := Claim7.holds Tryd.pinned (.plain (OpenSpec.ofChange tasksLimitsSpec)) tasksLimitsCard

/-- THE TIED CARD OF 'trunnionlaw23.TasksMany'. -/
def tasksManyCard : Claim7 := { stood := { row := tasksManyRow, standIns := [], harness := (true, "cd25cd98e6b07ce2ec45e326a0e2180856af4a133adcd76279f06a115718373a"), looks := false }, kinds := [], alts := [], laidByText := true, laidKinds := [.data, .data, .data, .data, .pinned], laidTests := true, laidLooks := .later }
def TasksManyCardSaid : Prop := Claim7.holds Tryd.pinned (.plain (OpenSpec.ofChange tasksManySpec)) tasksManyCard

/-- THE SECOND FORM's CARD OF 'trunnionlaw23.TasksParse'. -/
def tasksParseUptoCard : Claim7 := { stood := { row := tasksParseUptoRow, standIns := [], harness := (true, "cd25cd98e6b07ce2ec45e326a0e2180856af4a133adcd76279f06a115718373a"), looks := false }, kinds := [], alts := [], laidByText := true, laidKinds := [.data, .pinned], laidTests := true, laidLooks := .later }
def TasksParseUptoCardSaid : Prop := Claim7.holds Tryd.pinned (.plain (OpenSpec.upto tasksParseSpec)) tasksParseUptoCard

/-- THE SECOND FORM's CARD OF 'trunnionlaw23.TasksLoose'. -/
def tasksLooseUptoCard : Claim7 := { stood := { row := tasksLooseUptoRow, standIns := [], harness := (true, "cd25cd98e6b07ce2ec45e326a0e2180856af4a133adcd76279f06a115718373a"), looks := false }, kinds := [], alts := [], laidByText := true, laidKinds := [.data, .pinned], laidTests := true, laidLooks := .later }
def TasksLooseUptoCardSaid : Prop := Claim7.holds Tryd.pinned (.plain (OpenSpec.upto tasksLooseSpec)) tasksLooseUptoCard

/-- THE SECOND FORM's CARD OF 'trunnionlaw23.TasksText'. -/
def tasksTextUptoCard : Claim7 := { stood := { row := tasksTextUptoRow, standIns := [], harness := (true, "cd25cd98e6b07ce2ec45e326a0e2180856af4a133adcd76279f06a115718373a"), looks := false }, kinds := [], alts := [], laidByText := true, laidKinds := [.data, .data, .data, .data, .pinned], laidTests := true, laidLooks := .later }
def TasksTextUptoCardSaid : Prop := Claim7.holds Tryd.pinned (.plain (OpenSpec.upto tasksTextSpec)) tasksTextUptoCard

/-- THE SECOND FORM's CARD OF 'trunnionlaw23.TasksLimits'. -/
def tasksLimitsUptoCard : Claim7 := { stood := { row := tasksLimitsUptoRow, standIns := [], harness := (true, "cd25cd98e6b07ce2ec45e326a0e2180856af4a133adcd76279f06a115718373a"), looks := false }, kinds := [], alts := [], laidByText := true, laidKinds := [.data, .data, .data, .data, .pinned], laidTests := true, laidLooks := .later }
def TasksLimitsUptoCardSaid : Prop := Claim7.holds Tryd.pinned (.plain (OpenSpec.upto tasksLimitsSpec)) tasksLimitsUptoCard

/-- THE SECOND FORM's CARD OF 'trunnionlaw23.TasksMany'. -/
def tasksManyUptoCard : Claim7 := { stood := { row := tasksManyUptoRow, standIns := [], harness := (true, "cd25cd98e6b07ce2ec45e326a0e2180856af4a133adcd76279f06a115718373a"), looks := false }, kinds := [], alts := [], laidByText := true, laidKinds := [.data, .data, .data, .data, .pinned], laidTests := true, laidLooks := .later }
def TasksManyUptoCardSaid : Prop := Claim7.holds Tryd.pinned (.plain (OpenSpec.upto tasksManySpec)) tasksManyUptoCard
end Rows
end Go.Proofs.YtadcfedjmofjjaaDoor
