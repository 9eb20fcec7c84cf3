/-
  DERIVED. GIVEN WITH THE SEED: THE CARDS: each row of YtefccfakhgdfbaaGreatDoorRows.lean that lists a variable, with what it lists TIED to the program's text (the seventh form; the later family's looks); each row that meets fmt, with fmt's text TOLD by the authors' own Lean function (tested against real Go, not proved from fmt's source: count such statements apart). THE CARD IS WHAT COUNTS. Prove the row's statement (the work); the ties are given (YtefccfakhgdfbaaGreatDoorTie.lean); close each card by the builder's one call (the guide's Derived/Test/ToyasCard.lean, 'card_holds'). Laid BY PROGRAM, IN A SANDBOX (cutbox-door.mjs). By AI agents, Wed Nov 11 2026. No macro, syntax, notation, axiom, sorry.
-/
import Derived.Test.YtefccfakhgdfbaaGreatDoorRows
import GoSem.ClaimSeven
namespace Go.Proofs.YtefccfakhgdfbaaGreatDoor
namespace Rows

/-- THE TIED CARD OF 'tileslaw.Lies'. -/
def liesCard : Claim7 := { stood := { row := liesRow, standIns := [], harness := (true, "bb2e4c2544a025021b3d5393a0e569655025f0800d292fe2597cdff4526d2556"), looks := true }, kinds := [], alts := [], laidByText := true, laidKinds := [.data, .data, .data, .data, .handle, .sentinel, .sentinel, .sentinel, .sentinel, .sentinel, .sentinel, .sentinel, .sentinel, .sentinel, .sentinel, .pinned], laidTests := true, laidLooks := .later }
def LiesCardSaid : Prop := Claim7.holds Tryz.pinned (.plain (OpenSpec.ofChange liesSpec)) liesCard

/-- THE TIED CARD OF 'tileslaw.All'. -/
def allCard : Claim7 := { stood := { row := allRow, standIns := [], harness := (true, "bb2e4c2544a025021b3d5393a0e569655025f0800d292fe2597cdff4526d2556"), looks := true }, kinds := [], alts := [], laidByText := true, laidKinds := [.data, .data, .data, .data, .handle, .sentinel, .sentinel, .sentinel, .sentinel, .sentinel, .sentinel, .sentinel, .sentinel, .sentinel, .sentinel, .pinned], laidTests := true, laidLooks := .later }
def AllCardSaid : Prop := Claim7.holds Tryz.pinned (.plain (OpenSpec.ofChange allSpec)) allCard

/-- THE SECOND FORM's CARD OF 'tileslaw.Lies'. -/
def liesUptoCard : Claim7 := { stood := { row := liesUptoRow, standIns := [], harness := (true, "bb2e4c2544a025021b3d5393a0e569655025f0800d292fe2597cdff4526d2556"), looks := true }, kinds := [], alts := [], laidByText := true, laidKinds := [.data, .data, .data, .data, .handle, .sentinel, .sentinel, .sentinel, .sentinel, .sentinel, .sentinel, .sentinel, .sentinel, .sentinel, .sentinel, .pinned], laidTests := true, laidLooks := .later }
def LiesUptoCardSaid : Prop := Claim7.holds Tryz.pinned (.plain (OpenSpec.upto liesSpec)) liesUptoCard

/-- THE SECOND FORM's CARD OF 'tileslaw.All'. -/
def allUptoCard : Claim7 := { stood := { row := allUptoRow, standIns := [], harness := (true, "bb2e4c2544a025021b3d5393a0e569655025f0800d292fe2597cdff4526d2556"), looks := true }, kinds := [], alts := [], laidByText := true, laidKinds := [.data, .data, .data, .data, .handle, .sentinel, .sentinel, .sentinel, .sentinel, .sentinel, .sentinel, .sentinel, .sentinel, .sentinel, .sentinel, .pinned], laidTests := true, laidLooks := .later }
def AllUptoCardSaid : Prop := Claim7.holds Tryz.pinned (.plain (OpenSpec.upto allSpec)) allUptoCard
end Rows
end Go.Proofs.YtefccfakhgdfbaaGreatDoor
