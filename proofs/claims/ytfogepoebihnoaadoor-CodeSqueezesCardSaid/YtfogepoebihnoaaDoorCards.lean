/-
  DERIVED. GIVEN WITH THE SEED: THE CARDS: each row of YtfogepoebihnoaaDoorRows.lean that lists a variable, with what it lists TIED to the program's text (the seventh form; the later family's looks); each row that meets fmt, with fmt's text TOLD by the authors' own Lean function (tested against real Go, not proved from fmt's source: count such statements apart). THE CARD IS WHAT COUNTS. Prove the row's statement (the work); the ties are given (YtfogepoebihnoaaDoorTie.lean); close each card by the builder's one call (the guide's Derived/Test/ToyasCard.lean, 'card_holds'). Laid BY PROGRAM, IN A SANDBOX (cutbox-door.mjs). By AI agents, Wed Nov 11 2026. No macro, syntax, notation, axiom, sorry.
-/
import Derived.Test.YtfogepoebihnoaaDoorRows
import GoSem.ClaimSeven
namespace Go.Proofs.YtfogepoebihnoaaDoor
namespace Rows

/-- THE TIED CARD OF 'bedrocklaw.CodeSwells'. -/
def codeSwellsCard : Claim7 := { stood := { row := codeSwellsRow, standIns := [], harness := (true, "838790b8649a73243151d88cf604b95ad8ee180a5cb144f8e757b9669b7ce853"), looks := true }, kinds := [], alts := [], laidByText := true, laidKinds := [.handle], laidTests := true, laidLooks := .later }
def CodeSwellsCardSaid : Prop := Claim7.holds Tryd.pinned (.plain (OpenSpec.ofChange codeSwellsSpec)) codeSwellsCard

/-- THE TIED CARD OF 'bedrocklaw.CodeOrder'. -/
def codeOrderCard : Claim7 := { stood := { row := codeOrderRow, standIns := [], harness := (true, "838790b8649a73243151d88cf604b95ad8ee180a5cb144f8e757b9669b7ce853"), looks := true }, kinds := [], alts := [], laidByText := true, laidKinds := [.handle], laidTests := true, laidLooks := .later }
def CodeOrderCardSaid : Prop := Claim7.holds Tryd.pinned (.plain (OpenSpec.ofChange codeOrderSpec)) codeOrderCard

/-- THE TIED CARD OF 'bedrocklaw.CodeSqueezes'. -/
def codeSqueezesCard : Claim7 := { stood := { row := codeSqueezesRow, standIns := [], harness := (true, "838790b8649a73243151d88cf604b95ad8ee180a5cb144f8e757b9669b7ce853"), looks := true }, kinds := [], alts := [], laidByText := true, laidKinds := [.handle], laidTests := true, laidLooks := .later }
def CodeSqueezesCardSaid : Prop := Claim7.holds Tryd.pinned (.plain (OpenSpec.ofChange codeSqueezesSpec)) codeSqueezesCard

/-- THE TIED CARD OF 'bedrocklaw.CodeKeys'. -/
def codeKeysCard : Claim7 := { stood := { row := codeKeysRow, standIns := [], harness := (true, "838790b8649a73243151d88cf604b95ad8ee180a5cb144f8e757b9669b7ce853"), looks := true }, kinds := [], alts := [], laidByText := true, laidKinds := [.handle], laidTests := true, laidLooks := .later }
def CodeKeysCardSaid : Prop := Claim7.holds Tryd.pinned (.plain (OpenSpec.ofChange codeKeysSpec)) codeKeysCard

/-- THE TIED CARD OF 'bedrocklaw.CodeReads'. -/
def codeReadsCard : Claim7 := { stood := { row := codeReadsRow, standIns := [], harness := (true, "838790b8649a73243151d88cf604b95ad8ee180a5cb144f8e757b9669b7ce853"), looks := true }, kinds := [], alts := [], laidByText := true, laidKinds := [.handle], laidTests := true, laidLooks := .later }
def CodeReadsCardSaid : Prop := Claim7.holds Tryd.pinned (.plain (OpenSpec.ofChange codeReadsSpec)) codeReadsCard

/-- THE SECOND FORM's CARD OF 'bedrocklaw.CodeSwells'. -/
def codeSwellsUptoCard : Claim7 := { stood := { row := codeSwellsUptoRow, standIns := [], harness := (true, "838790b8649a73243151d88cf604b95ad8ee180a5cb144f8e757b9669b7ce853"), looks := true }, kinds := [], alts := [], laidByText := true, laidKinds := [.handle], laidTests := true, laidLooks := .later }
def CodeSwellsUptoCardSaid : Prop := Claim7.holds Tryd.pinned (.plain (OpenSpec.upto codeSwellsSpec)) codeSwellsUptoCard

/-- THE SECOND FORM's CARD OF 'bedrocklaw.CodeOrder'. -/
def codeOrderUptoCard : Claim7 := { stood := { row := codeOrderUptoRow, standIns := [], harness := (true, "838790b8649a73243151d88cf604b95ad8ee180a5cb144f8e757b9669b7ce853"), looks := true }, kinds := [], alts := [], laidByText := true, laidKinds := [.handle], laidTests := true, laidLooks := .later }
def CodeOrderUptoCardSaid : Prop := Claim7.holds Tryd.pinned (.plain (OpenSpec.upto codeOrderSpec)) codeOrderUptoCard

/-- THE SECOND FORM's CARD OF 'bedrocklaw.CodeSqueezes'. -/
def codeSqueezesUptoCard : Claim7 := { stood := { row := codeSqueezesUptoRow, standIns := [], harness := (true, "838790b8649a73243151d88cf604b95ad8ee180a5cb144f8e757b9669b7ce853"), looks := true }, kinds := [], alts := [], laidByText := true, laidKinds := [.handle], laidTests := true, laidLooks := .later }
def CodeSqueezesUptoCardSaid : Prop := Claim7.holds Tryd.pinned (.plain (OpenSpec.upto codeSqueezesSpec)) codeSqueezesUptoCard

/-- THE SECOND FORM's CARD OF 'bedrocklaw.CodeKeys'. -/
def codeKeysUptoCard : Claim7 := { stood := { row := codeKeysUptoRow, standIns := [], harness := (true, "838790b8649a73243151d88cf604b95ad8ee180a5cb144f8e757b9669b7ce853"), looks := true }, kinds := [], alts := [], laidByText := true, laidKinds := [.handle], laidTests := true, laidLooks := .later }
def CodeKeysUptoCardSaid : Prop := Claim7.holds Tryd.pinned (.plain (OpenSpec.upto codeKeysSpec)) codeKeysUptoCard

/-- THE SECOND FORM's CARD OF 'bedrocklaw.CodeReads'. -/
def codeReadsUptoCard : Claim7 := { stood := { row := codeReadsUptoRow, standIns := [], harness := (true, "838790b8649a73243151d88cf604b95ad8ee180a5cb144f8e757b9669b7ce853"), looks := true }, kinds := [], alts := [], laidByText := true, laidKinds := [.handle], laidTests := true, laidLooks := .later }
def CodeReadsUptoCardSaid : Prop := Claim7.holds Tryd.pinned (.plain (OpenSpec.upto codeReadsSpec)) codeReadsUptoCard
end Rows
end Go.Proofs.YtfogepoebihnoaaDoor
