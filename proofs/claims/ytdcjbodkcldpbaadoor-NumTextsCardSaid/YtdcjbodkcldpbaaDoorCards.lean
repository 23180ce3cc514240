/-
  DERIVED. GIVEN WITH THE SEED: THE CARDS: each row of YtdcjbodkcldpbaaDoorRows.lean that lists a variable, with what it lists TIED to the program's text (the seventh form; the later family's looks); each row that meets fmt, with fmt's text TOLD by the authors' own Lean function (tested against real Go, not proved from fmt's source: count such statements apart). THE CARD IS WHAT COUNTS. Prove the row's statement (the work); the ties are given (YtdcjbodkcldpbaaDoorTie.lean); close each card by the builder's one call (the guide's Derived/Test/ToyasCard.lean, 'card_holds'). Laid BY PROGRAM, IN A SANDBOX (cutbox-door.mjs). By AI agents, Wed Nov 11 2026. No macro, syntax, notation, axiom, sorry.
-/
import Derived.Test.YtdcjbodkcldpbaaDoorRows
import GoSem.ClaimSeven
namespace Go.Proofs.YtdcjbodkcldpbaaDoor
namespace Rows

/-- THE TIED CARD OF 'skerrylaw01.NumTicks'. -/
def numTicksCard : Claim7 := { stood := { row := numTicksRow, standIns := [], harness := (true, "c3651a34c77aaa3ed5b743948ef8f8563a4f1689a5df28c920c2713d50fc75ac"), looks := true }, kinds := [], alts := [], laidByText := true, laidKinds := [.data, .data, .data], laidTests := true, laidLooks := .later }
def NumTicksCardSaid : Prop := Claim7.holds Tryd.pinned (.plain (OpenSpec.ofChange numTicksSpec)) numTicksCard

/-- THE TIED CARD OF 'skerrylaw01.NumOrder'. -/
def numOrderCard : Claim7 := { stood := { row := numOrderRow, standIns := [], harness := (true, "c3651a34c77aaa3ed5b743948ef8f8563a4f1689a5df28c920c2713d50fc75ac"), looks := true }, kinds := [], alts := [], laidByText := true, laidKinds := [.data, .data, .data], laidTests := true, laidLooks := .later }
def NumOrderCardSaid : Prop := Claim7.holds Tryd.pinned (.plain (OpenSpec.ofChange numOrderSpec)) numOrderCard

/-- THE TIED CARD OF 'skerrylaw01.NumGrows'. -/
def numGrowsCard : Claim7 := { stood := { row := numGrowsRow, standIns := [], harness := (true, "c3651a34c77aaa3ed5b743948ef8f8563a4f1689a5df28c920c2713d50fc75ac"), looks := true }, kinds := [], alts := [], laidByText := true, laidKinds := [.data, .data, .data], laidTests := true, laidLooks := .later }
def NumGrowsCardSaid : Prop := Claim7.holds Tryd.pinned (.plain (OpenSpec.ofChange numGrowsSpec)) numGrowsCard

/-- THE TIED CARD OF 'skerrylaw01.NumMeans'. -/
def numMeansCard : Claim7 := { stood := { row := numMeansRow, standIns := [], harness := (true, "c3651a34c77aaa3ed5b743948ef8f8563a4f1689a5df28c920c2713d50fc75ac"), looks := true }, kinds := [], alts := [], laidByText := true, laidKinds := [.data, .data, .data], laidTests := true, laidLooks := .later }
def NumMeansCardSaid : Prop := Claim7.holds Tryd.pinned (.plain (OpenSpec.ofChange numMeansSpec)) numMeansCard

/-- THE TIED CARD OF 'skerrylaw01.NumExact'. -/
def numExactCard : Claim7 := { stood := { row := numExactRow, standIns := [], harness := (true, "c3651a34c77aaa3ed5b743948ef8f8563a4f1689a5df28c920c2713d50fc75ac"), looks := true }, kinds := [], alts := [], laidByText := true, laidKinds := [.data, .data, .data], laidTests := true, laidLooks := .later }
def NumExactCardSaid : Prop := Claim7.holds Tryd.pinned (.plain (OpenSpec.ofChange numExactSpec)) numExactCard

/-- THE TIED CARD OF 'skerrylaw01.NumMax'. -/
def numMaxCard : Claim7 := { stood := { row := numMaxRow, standIns := [], harness := (true, "c3651a34c77aaa3ed5b743948ef8f8563a4f1689a5df28c920c2713d50fc75ac"), looks := true }, kinds := [], alts := [], laidByText := true, laidKinds := [.data, .data, .data], laidTests := true, laidLooks := .later }
def NumMaxCardSaid : Prop := Claim7.holds Tryd.pinned (.plain (OpenSpec.ofChange numMaxSpec)) numMaxCard

/-- THE TIED CARD OF 'skerrylaw01.NumEnds'. -/
def numEndsCard : Claim7 := { stood := { row := numEndsRow, standIns := [], harness := (true, "c3651a34c77aaa3ed5b743948ef8f8563a4f1689a5df28c920c2713d50fc75ac"), looks := true }, kinds := [], alts := [], laidByText := true, laidKinds := [.data, .data, .data], laidTests := true, laidLooks := .later }
def NumEndsCardSaid : Prop := Claim7.holds Tryd.pinned (.plain (OpenSpec.ofChange numEndsSpec)) numEndsCard

/-- THE TIED CARD OF 'skerrylaw01.NumTexts'. -/
def numTextsCard : Claim7 := { stood := { row := numTextsRow, standIns := [], harness := (true, "c3651a34c77aaa3ed5b743948ef8f8563a4f1689a5df28c920c2713d50fc75ac"), looks := true }, kinds := [], alts := [], laidByText := true, laidKinds := [.data, .data, .data, .sentinel, .sentinel], laidTests := true, laidLooks := .later }
def NumTextsCardSaid : Prop := Claim7.holds Tryd.pinned (.plain (OpenSpec.ofChange numTextsSpec)) numTextsCard

/-- THE SECOND FORM's CARD OF 'skerrylaw01.NumTicks'. -/
def numTicksUptoCard : Claim7 := { stood := { row := numTicksUptoRow, standIns := [], harness := (true, "c3651a34c77aaa3ed5b743948ef8f8563a4f1689a5df28c920c2713d50fc75ac"), looks := true }, kinds := [], alts := [], laidByText := true, laidKinds := [.data, .data, .data], laidTests := true, laidLooks := .later }
def NumTicksUptoCardSaid : Prop := Claim7.holds Tryd.pinned (.plain (OpenSpec.upto numTicksSpec)) numTicksUptoCard

/-- THE SECOND FORM's CARD OF 'skerrylaw01.NumOrder'. -/
def numOrderUptoCard : Claim7 := { stood := { row := numOrderUptoRow, standIns := [], harness := (true, "c3651a34c77aaa3ed5b743948ef8f8563a4f1689a5df28c920c2713d50fc75ac"), looks := true }, kinds := [], alts := [], laidByText := true, laidKinds := [.data, .data, .data], laidTests := true, laidLooks := .later }
def NumOrderUptoCardSaid : Prop := Claim7.holds Tryd.pinned (.plain (OpenSpec.upto numOrderSpec)) numOrderUptoCard

/-- THE SECOND FORM's CARD OF 'skerrylaw01.NumGrows'. -/
def numGrowsUptoCard : Claim7 := { stood := { row := numGrowsUptoRow, standIns := [], harness := (true, "c3651a34c77aaa3ed5b743948ef8f8563a4f1689a5df28c920c2713d50fc75ac"), looks := true }, kinds := [], alts := [], laidByText := true, laidKinds := [.data, .data, .data], laidTests := true, laidLooks := .later }
def NumGrowsUptoCardSaid : Prop := Claim7.holds Tryd.pinned (.plain (OpenSpec.upto numGrowsSpec)) numGrowsUptoCard

/-- THE SECOND FORM's CARD OF 'skerrylaw01.NumMeans'. -/
def numMeansUptoCard : Claim7 := { stood := { row := numMeansUptoRow, standIns := [], harness := (true, "c3651a34c77aaa3ed5b743948ef8f8563a4f1689a5df28c920c2713d50fc75ac"), looks := true }, kinds := [], alts := [], laidByText := true, laidKinds := [.data, .data, .data], laidTests := true, laidLooks := .later }
def NumMeansUptoCardSaid : Prop := Claim7.holds Tryd.pinned (.plain (OpenSpec.upto numMeansSpec)) numMeansUptoCard

/-- THE SECOND FORM's CARD OF 'skerrylaw01.NumExact'. -/
def numExactUptoCard : Claim7 := { stood := { row := numExactUptoRow, standIns := [], harness := (true, "c3651a34c77aaa3ed5b743948ef8f8563a4f1689a5df28c920c2713d50fc75ac"), looks := true }, kinds := [], alts := [], laidByText := true, laidKinds := [.data, .data, .data], laidTests := true, laidLooks := .later }
def NumExactUptoCardSaid : Prop := Claim7.holds Tryd.pinned (.plain (OpenSpec.upto numExactSpec)) numExactUptoCard

/-- THE SECOND FORM's CARD OF 'skerrylaw01.NumMax'. -/
def numMaxUptoCard : Claim7 := { stood := { row := numMaxUptoRow, standIns := [], harness := (true, "c3651a34c77aaa3ed5b743948ef8f8563a4f1689a5df28c920c2713d50fc75ac"), looks := true }, kinds := [], alts := [], laidByText := true, laidKinds := [.data, .data, .data], laidTests := true, laidLooks := .later }
def NumMaxUptoCardSaid : Prop := Claim7.holds Tryd.pinned (.plain (OpenSpec.upto numMaxSpec)) numMaxUptoCard

/-- THE SECOND FORM's CARD OF 'skerrylaw01.NumEnds'. -/
def numEndsUptoCard : Claim7 := { stood := { row := numEndsUptoRow, standIns := [], harness := (true, "c3651a34c77aaa3ed5b743948ef8f8563a4f1689a5df28c920c2713d50fc75ac"), looks := true }, kinds := [], alts := [], laidByText := true, laidKinds := [.data, .data, .data], laidTests := true, laidLooks := .later }
def NumEndsUptoCardSaid : Prop := Claim7.holds Tryd.pinned (.plain (OpenSpec.upto numEndsSpec)) numEndsUptoCard

/-- THE SECOND FORM's CARD OF 'skerrylaw01.NumTexts'. -/
def numTextsUptoCard : Claim7 := { stood := { row := numTextsUptoRow, standIns := [], harness := (true, "c3651a34c77aaa3ed5b743948ef8f8563a4f1689a5df28c920c2713d50fc75ac"), looks := true }, kinds := [], alts := [], laidByText := true, laidKinds := [.data, .data, .data, .sentinel, .sentinel], laidTests := true, laidLooks := .later }
def NumTextsUptoCardSaid : Prop := Claim7.holds Tryd.pinned (.plain (OpenSpec.upto numTextsSpec)) numTextsUptoCard
end Rows
end Go.Proofs.YtdcjbodkcldpbaaDoor
