/-
  DERIVED. GIVEN WITH THE SEED: THE CARDS: each row of YtefccfakhgdfbaaDoorRows.lean that lists a variable, with what it lists TIED to the program's text (the seventh form; the later family's looks); each row that meets fmt, with fmt's text TOLD by the authors' own Lean function (tested against real Go, not proved from fmt's source: count such statements apart). THE CARD IS WHAT COUNTS. Prove the row's statement (the work); the ties are given (YtefccfakhgdfbaaDoorTie.lean); close each card by the builder's one call (the guide's Derived/Test/ToyasCard.lean, 'card_holds'). Laid BY PROGRAM, IN A SANDBOX (cutbox-door.mjs). By AI agents, Wed Nov 11 2026. No macro, syntax, notation, axiom, sorry.
-/
import Derived.Test.YtefccfakhgdfbaaDoorRows
import GoSem.ClaimSeven
namespace Go.Proofs.YtefccfakhgdfbaaDoor
namespace Rows

/-- THE TIED CARD OF 'tileslaw.Names'. -/
def namesCard : Claim7 := { stood := { row := namesRow, standIns := [], harness := (true, "cf01bdee304a18ff88095e97506460d38f85f1f938cdcdcb1a79bd42cbbdb8d7"), looks := true }, kinds := [], alts := [], laidByText := true, laidKinds := [.sentinel, .sentinel, .sentinel, .sentinel, .sentinel, .sentinel, .sentinel], laidTests := true, laidLooks := .later }
def NamesCardSaid : Prop := Claim7.holds Tryd.pinned (.plain (OpenSpec.ofChange namesSpec)) namesCard

/-- THE TIED CARD OF 'tileslaw.Paths'. -/
def pathsCard : Claim7 := { stood := { row := pathsRow, standIns := [], harness := (true, "cf01bdee304a18ff88095e97506460d38f85f1f938cdcdcb1a79bd42cbbdb8d7"), looks := true }, kinds := [], alts := [], laidByText := true, laidKinds := [.handle, .sentinel, .sentinel, .sentinel, .sentinel, .sentinel, .sentinel, .sentinel], laidTests := true, laidLooks := .later }
def PathsCardSaid : Prop := Claim7.holds Tryd.pinned (.plain (OpenSpec.ofChange pathsSpec)) pathsCard

/-- THE TIED CARD OF 'tileskeep.Proves'. -/
def provesCard : Claim7 := { stood := { row := provesRow, standIns := [], harness := (true, "cf01bdee304a18ff88095e97506460d38f85f1f938cdcdcb1a79bd42cbbdb8d7"), looks := true }, kinds := [], alts := [], laidByText := true, laidKinds := [.handle, .sentinel, .sentinel, .sentinel, .sentinel, .sentinel, .sentinel, .sentinel], laidTests := true, laidLooks := .later }
def ProvesCardSaid : Prop := Claim7.holds Tryd.pinned (.plain (OpenSpec.ofChange provesSpec)) provesCard

/-- THE TIED CARD OF 'tileskeep.Extends'. -/
def extendsCard : Claim7 := { stood := { row := extendsRow, standIns := [], harness := (true, "cf01bdee304a18ff88095e97506460d38f85f1f938cdcdcb1a79bd42cbbdb8d7"), looks := true }, kinds := [], alts := [], laidByText := true, laidKinds := [.handle, .sentinel, .sentinel, .sentinel, .sentinel, .sentinel, .sentinel, .sentinel], laidTests := true, laidLooks := .later }
def ExtendsCardSaid : Prop := Claim7.holds Tryd.pinned (.plain (OpenSpec.ofChange extendsSpec)) extendsCard

/-- THE TIED CARD OF 'tileslaw.Named'. -/
def namedCard : Claim7 := { stood := { row := namedRow, standIns := [], harness := (true, "cf01bdee304a18ff88095e97506460d38f85f1f938cdcdcb1a79bd42cbbdb8d7"), looks := true }, kinds := [], alts := [], laidByText := true, laidKinds := [.data, .data, .data, .sentinel, .sentinel], laidTests := true, laidLooks := .later }
def NamedCardSaid : Prop := Claim7.holds Tryd.pinned (.plain (OpenSpec.ofChange namedSpec)) namedCard

/-- THE TIED CARD OF 'tileslaw.Signs'. -/
def signsCard : Claim7 := { stood := { row := signsRow, standIns := [], harness := (true, "cf01bdee304a18ff88095e97506460d38f85f1f938cdcdcb1a79bd42cbbdb8d7"), looks := true }, kinds := [], alts := [], laidByText := true, laidKinds := [.data, .data, .data, .data, .sentinel, .sentinel, .pinned], laidTests := true, laidLooks := .later }
def SignsCardSaid : Prop := Claim7.holds Tryd.pinned (.plain (OpenSpec.ofChange signsSpec)) signsCard

/-- THE SECOND FORM's CARD OF 'tileslaw.Names'. -/
def namesUptoCard : Claim7 := { stood := { row := namesUptoRow, standIns := [], harness := (true, "cf01bdee304a18ff88095e97506460d38f85f1f938cdcdcb1a79bd42cbbdb8d7"), looks := true }, kinds := [], alts := [], laidByText := true, laidKinds := [.sentinel, .sentinel, .sentinel, .sentinel, .sentinel, .sentinel, .sentinel], laidTests := true, laidLooks := .later }
def NamesUptoCardSaid : Prop := Claim7.holds Tryd.pinned (.plain (OpenSpec.upto namesSpec)) namesUptoCard

/-- THE SECOND FORM's CARD OF 'tileslaw.Paths'. -/
def pathsUptoCard : Claim7 := { stood := { row := pathsUptoRow, standIns := [], harness := (true, "cf01bdee304a18ff88095e97506460d38f85f1f938cdcdcb1a79bd42cbbdb8d7"), looks := true }, kinds := [], alts := [], laidByText := true, laidKinds := [.handle, .sentinel, .sentinel, .sentinel, .sentinel, .sentinel, .sentinel, .sentinel], laidTests := true, laidLooks := .later }
def PathsUptoCardSaid : Prop := Claim7.holds Tryd.pinned (.plain (OpenSpec.upto pathsSpec)) pathsUptoCard

/-- THE SECOND FORM's CARD OF 'tileskeep.Proves'. -/
def provesUptoCard : Claim7 := { stood := { row := provesUptoRow, standIns := [], harness := (true, "cf01bdee304a18ff88095e97506460d38f85f1f938cdcdcb1a79bd42cbbdb8d7"), looks := true }, kinds := [], alts := [], laidByText := true, laidKinds := [.handle, .sentinel, .sentinel, .sentinel, .sentinel, .sentinel, .sentinel, .sentinel], laidTests := true, laidLooks := .later }
def ProvesUptoCardSaid : Prop := Claim7.holds Tryd.pinned (.plain (OpenSpec.upto provesSpec)) provesUptoCard

/-- THE SECOND FORM's CARD OF 'tileskeep.Extends'. -/
def extendsUptoCard : Claim7 := { stood := { row := extendsUptoRow, standIns := [], harness := (true, "cf01bdee304a18ff88095e97506460d38f85f1f938cdcdcb1a79bd42cbbdb8d7"), looks := true }, kinds := [], alts := [], laidByText := true, laidKinds := [.handle, .sentinel, .sentinel, .sentinel, .sentinel, .sentinel, .sentinel, .sentinel], laidTests := true, laidLooks := .later }
def ExtendsUptoCardSaid : Prop := Claim7.holds Tryd.pinned (.plain (OpenSpec.upto extendsSpec)) extendsUptoCard

/-- THE SECOND FORM's CARD OF 'tileslaw.Named'. -/
def namedUptoCard : Claim7 := { stood := { row := namedUptoRow, standIns := [], harness := (true, "cf01bdee304a18ff88095e97506460d38f85f1f938cdcdcb1a79bd42cbbdb8d7"), looks := true }, kinds := [], alts := [], laidByText := true, laidKinds := [.data, .data, .data, .sentinel, .sentinel], laidTests := true, laidLooks := .later }
def NamedUptoCardSaid : Prop := Claim7.holds Tryd.pinned (.plain (OpenSpec.upto namedSpec)) namedUptoCard

/-- THE SECOND FORM's CARD OF 'tileslaw.Signs'. -/
def signsUptoCard : Claim7 := { stood := { row := signsUptoRow, standIns := [], harness := (true, "cf01bdee304a18ff88095e97506460d38f85f1f938cdcdcb1a79bd42cbbdb8d7"), looks := true }, kinds := [], alts := [], laidByText := true, laidKinds := [.data, .data, .data, .data, .sentinel, .sentinel, .pinned], laidTests := true, laidLooks := .later }
def SignsUptoCardSaid : Prop := Claim7.holds Tryd.pinned (.plain (OpenSpec.upto signsSpec)) signsUptoCard
end Rows
end Go.Proofs.YtefccfakhgdfbaaDoor
