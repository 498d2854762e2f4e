/-
  DERIVED. GIVEN WITH THE SEED: THE CARDS: each row of YtgkamdgegfioiaaDoorRows.lean that lists a variable, with what it lists TIED to the program's text (the seventh form; the later family's looks); each row that meets fmt, with fmt's text TOLD by the authors' own Lean function (tested against real Go, not proved from fmt's source: count such statements apart). THE CARD IS WHAT COUNTS. Prove the row's statement (the work); the ties are given (YtgkamdgegfioiaaDoorTie.lean); close each card by the builder's one call (the guide's Derived/Test/ToyasCard.lean, 'card_holds'). Laid BY PROGRAM, IN A SANDBOX (cutbox-door.mjs). By AI agents, Wed Nov 11 2026. No macro, syntax, notation, axiom, sorry.
-/
import Derived.Test.YtgkamdgegfioiaaDoorRows
import GoSem.ClaimSeven
namespace Go.Proofs.YtgkamdgegfioiaaDoor
namespace Rows

/-- THE TIED CARD OF 'bedrockkeep.SpaceReads'. -/
def spaceReadsCard : Claim7 := { stood := { row := spaceReadsRow, standIns := [], harness := (true, "5b4971f8a177915b60ac2dbeacb73b1f52b6087d0c0d2107e01896637c9ff3c4"), looks := true }, kinds := [], alts := [], laidByText := true, laidKinds := [.handle], laidTests := true, laidLooks := .later }
def SpaceReadsCardSaid : Prop := Claim7.holds Tryd.pinned (.plain (OpenSpec.ofChange spaceReadsSpec)) spaceReadsCard

/-- THE TIED CARD OF 'bedrockkeep.SpaceKept'. -/
def spaceKeptCard : Claim7 := { stood := { row := spaceKeptRow, standIns := [], harness := (true, "5b4971f8a177915b60ac2dbeacb73b1f52b6087d0c0d2107e01896637c9ff3c4"), looks := true }, kinds := [], alts := [], laidByText := true, laidKinds := [.handle], laidTests := true, laidLooks := .later }
def SpaceKeptCardSaid : Prop := Claim7.holds Tryd.pinned (.plain (OpenSpec.ofChange spaceKeptSpec)) spaceKeptCard

/-- THE TIED CARD OF 'bedrocklaw.SpacePlays'. -/
def spacePlaysCard : Claim7 := { stood := { row := spacePlaysRow, standIns := [], harness := (true, "5b4971f8a177915b60ac2dbeacb73b1f52b6087d0c0d2107e01896637c9ff3c4"), looks := true }, kinds := [], alts := [], laidByText := true, laidKinds := [.handle], laidTests := true, laidLooks := .later }
def SpacePlaysCardSaid : Prop := Claim7.holds Tryd.pinned (.plain (OpenSpec.ofChange spacePlaysSpec)) spacePlaysCard

/-- THE SECOND FORM's CARD OF 'bedrockkeep.SpaceReads'. -/
def spaceReadsUptoCard : Claim7 := { stood := { row := spaceReadsUptoRow, standIns := [], harness := (true, "5b4971f8a177915b60ac2dbeacb73b1f52b6087d0c0d2107e01896637c9ff3c4"), looks := true }, kinds := [], alts := [], laidByText := true, laidKinds := [.handle], laidTests := true, laidLooks := .later }
def SpaceReadsUptoCardSaid : Prop := Claim7.holds Tryd.pinned (.plain (OpenSpec.upto spaceReadsSpec)) spaceReadsUptoCard

/-- THE SECOND FORM's CARD OF 'bedrockkeep.SpaceKept'. -/
def spaceKeptUptoCard : Claim7 := { stood := { row := spaceKeptUptoRow, standIns := [], harness := (true, "5b4971f8a177915b60ac2dbeacb73b1f52b6087d0c0d2107e01896637c9ff3c4"), looks := true }, kinds := [], alts := [], laidByText := true, laidKinds := [.handle], laidTests := true, laidLooks := .later }
def SpaceKeptUptoCardSaid : Prop := Claim7.holds Tryd.pinned (.plain (OpenSpec.upto spaceKeptSpec)) spaceKeptUptoCard

/-- THE SECOND FORM's CARD OF 'bedrocklaw.SpacePlays'. -/
def spacePlaysUptoCard : Claim7 := { stood := { row := spacePlaysUptoRow, standIns := [], harness := (true, "5b4971f8a177915b60ac2dbeacb73b1f52b6087d0c0d2107e01896637c9ff3c4"), looks := true }, kinds := [], alts := [], laidByText := true, laidKinds := [.handle], laidTests := true, laidLooks := .later }
def SpacePlaysUptoCardSaid : Prop := Claim7.holds Tryd.pinned (.plain (OpenSpec.upto spacePlaysSpec)) spacePlaysUptoCard
end Rows
end Go.Proofs.YtgkamdgegfioiaaDoor
