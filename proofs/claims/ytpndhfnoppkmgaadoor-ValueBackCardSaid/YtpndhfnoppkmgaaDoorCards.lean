/-
  DERIVED. GIVEN WITH THE SEED: THE CARDS: each row of YtpndhfnoppkmgaaDoorRows.lean that lists a variable, with what it lists TIED to the program's text (the seventh form; the later family's looks); each row that meets fmt, with fmt's text TOLD by the authors' own Lean function (tested against real Go, not proved from fmt's source: count such statements apart). THE CARD IS WHAT COUNTS. Prove the row's statement (the work); the ties are given (YtpndhfnoppkmgaaDoorTie.lean); close each card by the builder's one call (the guide's Derived/Test/ToyasCard.lean, 'card_holds'). Laid BY PROGRAM, IN A SANDBOX (cutbox-door.mjs). By AI agents, Wed Nov 11 2026. No macro, syntax, notation, axiom, sorry.
-/
import Derived.Test.YtpndhfnoppkmgaaDoorRows
import GoSem.ClaimSeven
namespace Go.Proofs.YtpndhfnoppkmgaaDoor
namespace Rows

/-- THE TIED CARD OF 'skerrylaw05.ValueOrder'. -/
def valueOrderCard : Claim7 := { stood := { row := valueOrderRow, standIns := [], harness := (true, "6434ddd04e73793b6241c4c0e3314ebb59103216e3a2955c9787a6961cca276d"), looks := true }, kinds := [], alts := [], laidByText := true, laidKinds := [.data, .data, .data], laidTests := true, laidLooks := .later }
def ValueOrderCardSaid : Prop := Claim7.holds Tryd.pinned (.plain (OpenSpec.ofChange valueOrderSpec)) valueOrderCard

/-- THE TIED CARD OF 'skerrylaw05.ValueJoins'. -/
def valueJoinsCard : Claim7 := { stood := { row := valueJoinsRow, standIns := [], harness := (true, "6434ddd04e73793b6241c4c0e3314ebb59103216e3a2955c9787a6961cca276d"), looks := true }, kinds := [], alts := [], laidByText := true, laidKinds := [.data, .data, .data], laidTests := true, laidLooks := .later }
def ValueJoinsCardSaid : Prop := Claim7.holds Tryd.pinned (.plain (OpenSpec.ofChange valueJoinsSpec)) valueJoinsCard

/-- THE TIED CARD OF 'skerrylaw05.ValueExact'. -/
def valueExactCard : Claim7 := { stood := { row := valueExactRow, standIns := [], harness := (true, "6434ddd04e73793b6241c4c0e3314ebb59103216e3a2955c9787a6961cca276d"), looks := true }, kinds := [], alts := [], laidByText := true, laidKinds := [.data, .data, .data], laidTests := true, laidLooks := .later }
def ValueExactCardSaid : Prop := Claim7.holds Tryd.pinned (.plain (OpenSpec.ofChange valueExactSpec)) valueExactCard

/-- THE TIED CARD OF 'skerrylaw05.ValueReads'. -/
def valueReadsCard : Claim7 := { stood := { row := valueReadsRow, standIns := [], harness := (true, "6434ddd04e73793b6241c4c0e3314ebb59103216e3a2955c9787a6961cca276d"), looks := true }, kinds := [], alts := [], laidByText := true, laidKinds := [.data, .data, .data, .sentinel, .sentinel], laidTests := true, laidLooks := .later }
def ValueReadsCardSaid : Prop := Claim7.holds Tryd.pinned (.plain (OpenSpec.ofChange valueReadsSpec)) valueReadsCard

/-- THE TIED CARD OF 'skerrylaw05.ValueBack'. -/
def valueBackCard : Claim7 := { stood := { row := valueBackRow, standIns := [], harness := (true, "6434ddd04e73793b6241c4c0e3314ebb59103216e3a2955c9787a6961cca276d"), looks := true }, kinds := [], alts := [], laidByText := true, laidKinds := [.data, .data, .data, .sentinel, .sentinel], laidTests := true, laidLooks := .later }
def ValueBackCardSaid : Prop := Claim7.holds Tryd.pinned (.plain (OpenSpec.ofChange valueBackSpec)) valueBackCard

/-- THE SECOND FORM's CARD OF 'skerrylaw05.ValueOrder'. -/
def valueOrderUptoCard : Claim7 := { stood := { row := valueOrderUptoRow, standIns := [], harness := (true, "6434ddd04e73793b6241c4c0e3314ebb59103216e3a2955c9787a6961cca276d"), looks := true }, kinds := [], alts := [], laidByText := true, laidKinds := [.data, .data, .data], laidTests := true, laidLooks := .later }
def ValueOrderUptoCardSaid : Prop := Claim7.holds Tryd.pinned (.plain (OpenSpec.upto valueOrderSpec)) valueOrderUptoCard

/-- THE SECOND FORM's CARD OF 'skerrylaw05.ValueJoins'. -/
def valueJoinsUptoCard : Claim7 := { stood := { row := valueJoinsUptoRow, standIns := [], harness := (true, "6434ddd04e73793b6241c4c0e3314ebb59103216e3a2955c9787a6961cca276d"), looks := true }, kinds := [], alts := [], laidByText := true, laidKinds := [.data, .data, .data], laidTests := true, laidLooks := .later }
def ValueJoinsUptoCardSaid : Prop := Claim7.holds Tryd.pinned (.plain (OpenSpec.upto valueJoinsSpec)) valueJoinsUptoCard

/-- THE SECOND FORM's CARD OF 'skerrylaw05.ValueExact'. -/
def valueExactUptoCard : Claim7 := { stood := { row := valueExactUptoRow, standIns := [], harness := (true, "6434ddd04e73793b6241c4c0e3314ebb59103216e3a2955c9787a6961cca276d"), looks := true }, kinds := [], alts := [], laidByText := true, laidKinds := [.data, .data, .data], laidTests := true, laidLooks := .later }
def ValueExactUptoCardSaid : Prop := Claim7.holds Tryd.pinned (.plain (OpenSpec.upto valueExactSpec)) valueExactUptoCard

/-- THE SECOND FORM's CARD OF 'skerrylaw05.ValueReads'. -/
def valueReadsUptoCard : Claim7 := { stood := { row := valueReadsUptoRow, standIns := [], harness := (true, "6434ddd04e73793b6241c4c0e3314ebb59103216e3a2955c9787a6961cca276d"), looks := true }, kinds := [], alts := [], laidByText := true, laidKinds := [.data, .data, .data, .sentinel, .sentinel], laidTests := true, laidLooks := .later }
def ValueReadsUptoCardSaid : Prop := Claim7.holds Tryd.pinned (.plain (OpenSpec.upto valueReadsSpec)) valueReadsUptoCard

/-- THE SECOND FORM's CARD OF 'skerrylaw05.ValueBack'. -/
def valueBackUptoCard : Claim7 := { stood := { row := valueBackUptoRow, standIns := [], harness := (true, "6434ddd04e73793b6241c4c0e3314ebb59103216e3a2955c9787a6961cca276d"), looks := true }, kinds := [], alts := [], laidByText := true, laidKinds := [.data, .data, .data, .sentinel, .sentinel], laidTests := true, laidLooks := .later }
def ValueBackUptoCardSaid : Prop := Claim7.holds Tryd.pinned (.plain (OpenSpec.upto valueBackSpec)) valueBackUptoCard
end Rows
end Go.Proofs.YtpndhfnoppkmgaaDoor
