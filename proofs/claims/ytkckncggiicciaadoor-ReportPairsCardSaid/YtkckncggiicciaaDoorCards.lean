/-
  DERIVED. GIVEN WITH THE SEED: THE CARDS: each row of YtkckncggiicciaaDoorRows.lean that lists a variable, with what it lists TIED to the program's text (the seventh form; the later family's looks); each row that meets fmt, with fmt's text TOLD by the authors' own Lean function (tested against real Go, not proved from fmt's source: count such statements apart). THE CARD IS WHAT COUNTS. Prove the row's statement (the work); the ties are given (YtkckncggiicciaaDoorTie.lean); close each card by the builder's one call (the guide's Derived/Test/ToyasCard.lean, 'card_holds'). Laid BY PROGRAM, IN A SANDBOX (cutbox-door.mjs). By AI agents, Wed Nov 11 2026. No macro, syntax, notation, axiom, sorry.
-/
import Derived.Test.YtkckncggiicciaaDoorRows
import GoSem.ClaimSeven
namespace Go.Proofs.YtkckncggiicciaaDoor
namespace Rows

/-- THE TIED CARD OF 'skerrylaw28.ReportLags'. -/
def reportLagsCard : Claim7 := { stood := { row := reportLagsRow, standIns := [], harness := (true, "54760166042e10a07103ffea2c31cda3650b70c2368d7a8825d48a27f23dfbc1"), looks := true }, kinds := [], alts := [], laidByText := true, laidKinds := [.data, .data, .data], laidTests := true, laidLooks := .later }
def ReportLagsCardSaid : Prop := Claim7.holds Tryd.pinned (.plain (OpenSpec.ofChange reportLagsSpec)) reportLagsCard

/-- THE TIED CARD OF 'skerrylaw28.ReportExact'. -/
def reportExactCard : Claim7 := { stood := { row := reportExactRow, standIns := [], harness := (true, "54760166042e10a07103ffea2c31cda3650b70c2368d7a8825d48a27f23dfbc1"), looks := true }, kinds := [], alts := [], laidByText := true, laidKinds := [.data, .data, .data], laidTests := true, laidLooks := .later }
def ReportExactCardSaid : Prop := Claim7.holds Tryd.pinned (.plain (OpenSpec.ofChange reportExactSpec)) reportExactCard

/-- THE TIED CARD OF 'skerrylaw28.ReportLogs'. -/
def reportLogsCard : Claim7 := { stood := { row := reportLogsRow, standIns := [], harness := (true, "54760166042e10a07103ffea2c31cda3650b70c2368d7a8825d48a27f23dfbc1"), looks := true }, kinds := [], alts := [], laidByText := true, laidKinds := [.data, .data, .data], laidTests := true, laidLooks := .later }
def ReportLogsCardSaid : Prop := Claim7.holds Tryd.pinned (.plain (OpenSpec.ofChange reportLogsSpec)) reportLogsCard

/-- THE TIED CARD OF 'skerrylaw28.ReportPairs'. -/
def reportPairsCard : Claim7 := { stood := { row := reportPairsRow, standIns := [], harness := (true, "54760166042e10a07103ffea2c31cda3650b70c2368d7a8825d48a27f23dfbc1"), looks := true }, kinds := [], alts := [], laidByText := true, laidKinds := [.data, .data, .data, .sentinel, .sentinel], laidTests := true, laidLooks := .later }
def ReportPairsCardSaid : Prop := Claim7.holds Tryd.pinned (.plain (OpenSpec.ofChange reportPairsSpec)) reportPairsCard

/-- THE SECOND FORM's CARD OF 'skerrylaw28.ReportLags'. -/
def reportLagsUptoCard : Claim7 := { stood := { row := reportLagsUptoRow, standIns := [], harness := (true, "54760166042e10a07103ffea2c31cda3650b70c2368d7a8825d48a27f23dfbc1"), looks := true }, kinds := [], alts := [], laidByText := true, laidKinds := [.data, .data, .data], laidTests := true, laidLooks := .later }
def ReportLagsUptoCardSaid : Prop := Claim7.holds Tryd.pinned (.plain (OpenSpec.upto reportLagsSpec)) reportLagsUptoCard

/-- THE SECOND FORM's CARD OF 'skerrylaw28.ReportExact'. -/
def reportExactUptoCard : Claim7 := { stood := { row := reportExactUptoRow, standIns := [], harness := (true, "54760166042e10a07103ffea2c31cda3650b70c2368d7a8825d48a27f23dfbc1"), looks := true }, kinds := [], alts := [], laidByText := true, laidKinds := [.data, .data, .data], laidTests := true, laidLooks := .later }
def ReportExactUptoCardSaid : Prop := Claim7.holds Tryd.pinned (.plain (OpenSpec.upto reportExactSpec)) reportExactUptoCard

/-- THE SECOND FORM's CARD OF 'skerrylaw28.ReportLogs'. -/
def reportLogsUptoCard : Claim7 := { stood := { row := reportLogsUptoRow, standIns := [], harness := (true, "54760166042e10a07103ffea2c31cda3650b70c2368d7a8825d48a27f23dfbc1"), looks := true }, kinds := [], alts := [], laidByText := true, laidKinds := [.data, .data, .data], laidTests := true, laidLooks := .later }
def ReportLogsUptoCardSaid : Prop := Claim7.holds Tryd.pinned (.plain (OpenSpec.upto reportLogsSpec)) reportLogsUptoCard

/-- THE SECOND FORM's CARD OF 'skerrylaw28.ReportPairs'. -/
def reportPairsUptoCard : Claim7 := { stood := { row := reportPairsUptoRow, standIns := [], harness := (true, "54760166042e10a07103ffea2c31cda3650b70c2368d7a8825d48a27f23dfbc1"), looks := true }, kinds := [], alts := [], laidByText := true, laidKinds := [.data, .data, .data, .sentinel, .sentinel], laidTests := true, laidLooks := .later }
def ReportPairsUptoCardSaid : Prop := Claim7.holds Tryd.pinned (.plain (OpenSpec.upto reportPairsSpec)) reportPairsUptoCard
end Rows
end Go.Proofs.YtkckncggiicciaaDoor
