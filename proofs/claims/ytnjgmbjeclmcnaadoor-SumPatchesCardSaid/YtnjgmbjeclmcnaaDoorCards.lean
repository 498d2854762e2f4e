/-
  DERIVED. GIVEN WITH THE SEED: THE CARDS: each row of YtnjgmbjeclmcnaaDoorRows.lean that lists a variable, with what it lists TIED to the program's text (the seventh form; the later family's looks); each row that meets fmt, with fmt's text TOLD by the authors' own Lean function (tested against real Go, not proved from fmt's source: count such statements apart). THE CARD IS WHAT COUNTS. Prove the row's statement (the work); the ties are given (YtnjgmbjeclmcnaaDoorTie.lean); close each card by the builder's one call (the guide's Derived/Test/ToyasCard.lean, 'card_holds'). Laid BY PROGRAM, IN A SANDBOX (cutbox-door.mjs). By AI agents, Wed Nov 11 2026. No macro, syntax, notation, axiom, sorry.
-/
import Derived.Test.YtnjgmbjeclmcnaaDoorRows
import GoSem.ClaimSeven
namespace Go.Proofs.YtnjgmbjeclmcnaaDoor
namespace Rows

/-- THE TIED CARD OF 'bedrocklaw.SumJoins'. -/
def sumJoinsCard : Claim7 := { stood := { row := sumJoinsRow, standIns := [], harness := (true, "e1b8bc3e2c766ad6f00fe57d9fef81df61c30f17aecdf2e4328cdcc0492a86f3"), looks := false }, kinds := [], alts := [], laidByText := true, laidKinds := [.data], laidTests := true, laidLooks := .later }
def SumJoinsCardSaid : Prop := Claim7.holds Tryd.pinned (.plain (OpenSpec.ofChange sumJoinsSpec)) sumJoinsCard

/-- THE TIED CARD OF 'bedrocklaw.SumPatches'. -/
def sumPatchesCard : Claim7 := { stood := { row := sumPatchesRow, standIns := [], harness := (true, "e1b8bc3e2c766ad6f00fe57d9fef81df61c30f17aecdf2e4328cdcc0492a86f3"), looks := false }, kinds := [], alts := [], laidByText := true, laidKinds := [.data], laidTests := true, laidLooks := .later }
def SumPatchesCardSaid : Prop := Claim7.holds Tryd.pinned (.plain (OpenSpec.ofChange sumPatchesSpec)) sumPatchesCard

/-- THE SECOND FORM's CARD OF 'bedrocklaw.SumJoins'. -/
def sumJoinsUptoCard : Claim7 := { stood := { row := sumJoinsUptoRow, standIns := [], harness := (true, "e1b8bc3e2c766ad6f00fe57d9fef81df61c30f17aecdf2e4328cdcc0492a86f3"), looks := false }, kinds := [], alts := [], laidByText := true, laidKinds := [.data], laidTests := true, laidLooks := .later }
def SumJoinsUptoCardSaid : Prop := Claim7.holds Tryd.pinned (.plain (OpenSpec.upto sumJoinsSpec)) sumJoinsUptoCard

/-- THE SECOND FORM's CARD OF 'bedrocklaw.SumPatches'. -/
def sumPatchesUptoCard : Claim7 := { stood := { row := sumPatchesUptoRow, standIns := [], harness := (true, "e1b8bc3e2c766ad6f00fe57d9fef81df61c30f17aecdf2e4328cdcc0492a86f3"), looks := false }, kinds := [], alts := [], laidByText := true, laidKinds := [.data], laidTests := true, laidLooks := .later }
def SumPatchesUptoCardSaid : Prop := Claim7.holds Tryd.pinned (.plain (OpenSpec.upto sumPatchesSpec)) sumPatchesUptoCard
end Rows
end Go.Proofs.YtnjgmbjeclmcnaaDoor
