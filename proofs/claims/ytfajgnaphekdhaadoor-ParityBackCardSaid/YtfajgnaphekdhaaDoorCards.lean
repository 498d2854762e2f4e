/-
  DERIVED. GIVEN WITH THE SEED: THE CARDS: each row of YtfajgnaphekdhaaDoorRows.lean that lists a variable, with what it lists TIED to the program's text (the seventh form; the later family's looks); each row that meets fmt, with fmt's text TOLD by the authors' own Lean function (tested against real Go, not proved from fmt's source: count such statements apart). THE CARD IS WHAT COUNTS. Prove the row's statement (the work); the ties are given (YtfajgnaphekdhaaDoorTie.lean); close each card by the builder's one call (the guide's Derived/Test/ToyasCard.lean, 'card_holds'). Laid BY PROGRAM, IN A SANDBOX (cutbox-door.mjs). By AI agents, Wed Nov 11 2026. No macro, syntax, notation, axiom, sorry.
-/
import Derived.Test.YtfajgnaphekdhaaDoorRows
import GoSem.ClaimSeven
namespace Go.Proofs.YtfajgnaphekdhaaDoor
namespace Rows

/-- THE TIED CARD OF 'bedrocklaw.ParityMakes'. -/
def parityMakesCard : Claim7 := { stood := { row := parityMakesRow, standIns := [], harness := (true, "f153336974161a37b8996b9f405523f4d0b82f6faab1e5bedd8ab4be82c072d5"), looks := true }, kinds := [], alts := [], laidByText := true, laidKinds := [.handle], laidTests := true, laidLooks := .later }
def ParityMakesCardSaid : Prop := Claim7.holds Tryd.pinned (.plain (OpenSpec.ofChange parityMakesSpec)) parityMakesCard

/-- THE TIED CARD OF 'bedrocklaw.ParityMends'. -/
def parityMendsCard : Claim7 := { stood := { row := parityMendsRow, standIns := [], harness := (true, "f153336974161a37b8996b9f405523f4d0b82f6faab1e5bedd8ab4be82c072d5"), looks := true }, kinds := [], alts := [], laidByText := true, laidKinds := [.handle], laidTests := true, laidLooks := .later }
def ParityMendsCardSaid : Prop := Claim7.holds Tryd.pinned (.plain (OpenSpec.ofChange parityMendsSpec)) parityMendsCard

/-- THE TIED CARD OF 'bedrocklaw.ParityFinds'. -/
def parityFindsCard : Claim7 := { stood := { row := parityFindsRow, standIns := [], harness := (true, "f153336974161a37b8996b9f405523f4d0b82f6faab1e5bedd8ab4be82c072d5"), looks := true }, kinds := [], alts := [], laidByText := true, laidKinds := [.handle], laidTests := true, laidLooks := .later }
def ParityFindsCardSaid : Prop := Claim7.holds Tryd.pinned (.plain (OpenSpec.ofChange parityFindsSpec)) parityFindsCard

/-- THE TIED CARD OF 'bedrockkeep.ParityBack'. -/
def parityBackCard : Claim7 := { stood := { row := parityBackRow, standIns := [], harness := (true, "f153336974161a37b8996b9f405523f4d0b82f6faab1e5bedd8ab4be82c072d5"), looks := true }, kinds := [], alts := [], laidByText := true, laidKinds := [.handle], laidTests := true, laidLooks := .later }
def ParityBackCardSaid : Prop := Claim7.holds Tryd.pinned (.plain (OpenSpec.ofChange parityBackSpec)) parityBackCard

/-- THE SECOND FORM's CARD OF 'bedrocklaw.ParityMakes'. -/
def parityMakesUptoCard : Claim7 := { stood := { row := parityMakesUptoRow, standIns := [], harness := (true, "f153336974161a37b8996b9f405523f4d0b82f6faab1e5bedd8ab4be82c072d5"), looks := true }, kinds := [], alts := [], laidByText := true, laidKinds := [.handle], laidTests := true, laidLooks := .later }
def ParityMakesUptoCardSaid : Prop := Claim7.holds Tryd.pinned (.plain (OpenSpec.upto parityMakesSpec)) parityMakesUptoCard

/-- THE SECOND FORM's CARD OF 'bedrocklaw.ParityMends'. -/
def parityMendsUptoCard : Claim7 := { stood := { row := parityMendsUptoRow, standIns := [], harness := (true, "f153336974161a37b8996b9f405523f4d0b82f6faab1e5bedd8ab4be82c072d5"), looks := true }, kinds := [], alts := [], laidByText := true, laidKinds := [.handle], laidTests := true, laidLooks := .later }
def ParityMendsUptoCardSaid : Prop := Claim7.holds Tryd.pinned (.plain (OpenSpec.upto parityMendsSpec)) parityMendsUptoCard

/-- THE SECOND FORM's CARD OF 'bedrocklaw.ParityFinds'. -/
def parityFindsUptoCard : Claim7 := { stood := { row := parityFindsUptoRow, standIns := [], harness := (true, "f153336974161a37b8996b9f405523f4d0b82f6faab1e5bedd8ab4be82c072d5"), looks := true }, kinds := [], alts := [], laidByText := true, laidKinds := [.handle], laidTests := true, laidLooks := .later }
def ParityFindsUptoCardSaid : Prop := Claim7.holds Tryd.pinned (.plain (OpenSpec.upto parityFindsSpec)) parityFindsUptoCard

/-- THE SECOND FORM's CARD OF 'bedrockkeep.ParityBack'. -/
def parityBackUptoCard : Claim7 := { stood := { row := parityBackUptoRow, standIns := [], harness := (true, "f153336974161a37b8996b9f405523f4d0b82f6faab1e5bedd8ab4be82c072d5"), looks := true }, kinds := [], alts := [], laidByText := true, laidKinds := [.handle], laidTests := true, laidLooks := .later }
def ParityBackUptoCardSaid : Prop := Claim7.holds Tryd.pinned (.plain (OpenSpec.upto parityBackSpec)) parityBackUptoCard
end Rows
end Go.Proofs.YtfajgnaphekdhaaDoor
