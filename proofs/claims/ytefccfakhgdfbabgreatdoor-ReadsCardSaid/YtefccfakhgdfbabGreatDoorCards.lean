/-
  DERIVED. GIVEN WITH THE SEED: THE CARDS: each row of YtefccfakhgdfbabGreatDoorRows.lean that lists a variable, with what it lists TIED to the program's text (the seventh form; the later family's looks); each row that meets fmt, with fmt's text TOLD by the authors' own Lean function (tested against real Go, not proved from fmt's source: count such statements apart). THE CARD IS WHAT COUNTS. Prove the row's statement (the work); the ties are given (YtefccfakhgdfbabGreatDoorTie.lean); close each card by the builder's one call (the guide's Derived/Test/ToyasCard.lean, 'card_holds'). Laid BY PROGRAM, IN A SANDBOX (cutbox-door.mjs). By AI agents, Wed Nov 11 2026. No macro, syntax, notation, axiom, sorry.
-/
import Derived.Test.YtefccfakhgdfbabGreatDoorRows
import GoSem.ClaimSeven
namespace Go.Proofs.YtefccfakhgdfbabGreatDoor
namespace Rows

/-- THE TIED CARD OF 'tileskeep.Survives'. -/
def survivesCard : Claim7 := { stood := { row := survivesRow, standIns := [], harness := (true, "9841c5ed6fc4cd4f1ee821407ab8b89b7928252f02249c7ec510802a184ca5b0"), looks := true }, kinds := [], alts := [], laidByText := true, laidKinds := [.data, .data, .data, .data, .handle, .sentinel, .sentinel, .sentinel, .sentinel, .sentinel, .sentinel, .sentinel, .sentinel, .sentinel, .sentinel, .pinned], laidTests := true, laidLooks := .later }
def SurvivesCardSaid : Prop := Claim7.holds Tryz.pinned (.plain (OpenSpec.ofChange survivesSpec)) survivesCard

/-- THE TIED CARD OF 'tileslaw.Publishes'. -/
def publishesCard : Claim7 := { stood := { row := publishesRow, standIns := [], harness := (true, "9841c5ed6fc4cd4f1ee821407ab8b89b7928252f02249c7ec510802a184ca5b0"), looks := true }, kinds := [], alts := [], laidByText := true, laidKinds := [.data, .data, .data, .data, .handle, .sentinel, .sentinel, .sentinel, .sentinel, .sentinel, .sentinel, .sentinel, .sentinel, .sentinel, .pinned], laidTests := true, laidLooks := .later }
def PublishesCardSaid : Prop := Claim7.holds Tryz.pinned (.plain (OpenSpec.ofChange publishesSpec)) publishesCard

/-- THE TIED CARD OF 'tileskeep.Distrusts'. -/
def distrustsCard : Claim7 := { stood := { row := distrustsRow, standIns := [], harness := (true, "9841c5ed6fc4cd4f1ee821407ab8b89b7928252f02249c7ec510802a184ca5b0"), looks := true }, kinds := [], alts := [], laidByText := true, laidKinds := [.data, .data, .data, .data, .handle, .sentinel, .sentinel, .sentinel, .sentinel, .sentinel, .sentinel, .sentinel, .sentinel, .sentinel, .sentinel, .pinned], laidTests := true, laidLooks := .later }
def DistrustsCardSaid : Prop := Claim7.holds Tryz.pinned (.plain (OpenSpec.ofChange distrustsSpec)) distrustsCard

/-- THE TIED CARD OF 'tileskeep.Heals'. -/
def healsCard : Claim7 := { stood := { row := healsRow, standIns := [], harness := (true, "9841c5ed6fc4cd4f1ee821407ab8b89b7928252f02249c7ec510802a184ca5b0"), looks := true }, kinds := [], alts := [], laidByText := true, laidKinds := [.data, .data, .data, .data, .handle, .sentinel, .sentinel, .sentinel, .sentinel, .sentinel, .sentinel, .sentinel, .sentinel, .sentinel, .sentinel, .pinned], laidTests := true, laidLooks := .later }
def HealsCardSaid : Prop := Claim7.holds Tryz.pinned (.plain (OpenSpec.ofChange healsSpec)) healsCard

/-- THE TIED CARD OF 'tileslaw.Reads'. -/
def readsCard : Claim7 := { stood := { row := readsRow, standIns := [], harness := (true, "9841c5ed6fc4cd4f1ee821407ab8b89b7928252f02249c7ec510802a184ca5b0"), looks := true }, kinds := [], alts := [], laidByText := true, laidKinds := [.data, .data, .data, .data, .handle, .sentinel, .sentinel, .sentinel, .sentinel, .sentinel, .sentinel, .sentinel, .sentinel, .sentinel, .sentinel, .pinned], laidTests := true, laidLooks := .later }
def ReadsCardSaid : Prop := Claim7.holds Tryz.pinned (.plain (OpenSpec.ofChange readsSpec)) readsCard

/-- THE SECOND FORM's CARD OF 'tileskeep.Survives'. -/
def survivesUptoCard : Claim7 := { stood := { row := survivesUptoRow, standIns := [], harness := (true, "9841c5ed6fc4cd4f1ee821407ab8b89b7928252f02249c7ec510802a184ca5b0"), looks := true }, kinds := [], alts := [], laidByText := true, laidKinds := [.data, .data, .data, .data, .handle, .sentinel, .sentinel, .sentinel, .sentinel, .sentinel, .sentinel, .sentinel, .sentinel, .sentinel, .sentinel, .pinned], laidTests := true, laidLooks := .later }
def SurvivesUptoCardSaid : Prop := Claim7.holds Tryz.pinned (.plain (OpenSpec.upto survivesSpec)) survivesUptoCard

/-- THE SECOND FORM's CARD OF 'tileslaw.Publishes'. -/
def publishesUptoCard : Claim7 := { stood := { row := publishesUptoRow, standIns := [], harness := (true, "9841c5ed6fc4cd4f1ee821407ab8b89b7928252f02249c7ec510802a184ca5b0"), looks := true }, kinds := [], alts := [], laidByText := true, laidKinds := [.data, .data, .data, .data, .handle, .sentinel, .sentinel, .sentinel, .sentinel, .sentinel, .sentinel, .sentinel, .sentinel, .sentinel, .pinned], laidTests := true, laidLooks := .later }
def PublishesUptoCardSaid : Prop := Claim7.holds Tryz.pinned (.plain (OpenSpec.upto publishesSpec)) publishesUptoCard

/-- THE SECOND FORM's CARD OF 'tileskeep.Distrusts'. -/
def distrustsUptoCard : Claim7 := { stood := { row := distrustsUptoRow, standIns := [], harness := (true, "9841c5ed6fc4cd4f1ee821407ab8b89b7928252f02249c7ec510802a184ca5b0"), looks := true }, kinds := [], alts := [], laidByText := true, laidKinds := [.data, .data, .data, .data, .handle, .sentinel, .sentinel, .sentinel, .sentinel, .sentinel, .sentinel, .sentinel, .sentinel, .sentinel, .sentinel, .pinned], laidTests := true, laidLooks := .later }
def DistrustsUptoCardSaid : Prop := Claim7.holds Tryz.pinned (.plain (OpenSpec.upto distrustsSpec)) distrustsUptoCard

/-- THE SECOND FORM's CARD OF 'tileskeep.Heals'. -/
def healsUptoCard : Claim7 := { stood := { row := healsUptoRow, standIns := [], harness := (true, "9841c5ed6fc4cd4f1ee821407ab8b89b7928252f02249c7ec510802a184ca5b0"), looks := true }, kinds := [], alts := [], laidByText := true, laidKinds := [.data, .data, .data, .data, .handle, .sentinel, .sentinel, .sentinel, .sentinel, .sentinel, .sentinel, .sentinel, .sentinel, .sentinel, .sentinel, .pinned], laidTests := true, laidLooks := .later }
def HealsUptoCardSaid : Prop := Claim7.holds Tryz.pinned (.plain (OpenSpec.upto healsSpec)) healsUptoCard

/-- THE SECOND FORM's CARD OF 'tileslaw.Reads'. -/
def readsUptoCard : Claim7 := { stood := { row := readsUptoRow, standIns := [], harness := (true, "9841c5ed6fc4cd4f1ee821407ab8b89b7928252f02249c7ec510802a184ca5b0"), looks := true }, kinds := [], alts := [], laidByText := true, laidKinds := [.data, .data, .data, .data, .handle, .sentinel, .sentinel, .sentinel, .sentinel, .sentinel, .sentinel, .sentinel, .sentinel, .sentinel, .sentinel, .pinned], laidTests := true, laidLooks := .later }
def ReadsUptoCardSaid : Prop := Claim7.holds Tryz.pinned (.plain (OpenSpec.upto readsSpec)) readsUptoCard
end Rows
end Go.Proofs.YtefccfakhgdfbabGreatDoor
