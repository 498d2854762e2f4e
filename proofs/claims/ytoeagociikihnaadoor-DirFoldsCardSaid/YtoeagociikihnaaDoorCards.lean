/-
  DERIVED. GIVEN WITH THE SEED: THE CARDS: each row of YtoeagociikihnaaDoorRows.lean that lists a variable, with what it lists TIED to the program's text (the seventh form; the later family's looks); each row that meets fmt, with fmt's text TOLD by the authors' own Lean function (tested against real Go, not proved from fmt's source: count such statements apart). THE CARD IS WHAT COUNTS. Prove the row's statement (the work); the ties are given (YtoeagociikihnaaDoorTie.lean); close each card by the builder's one call (the guide's Derived/Test/ToyasCard.lean, 'card_holds'). Laid BY PROGRAM, IN A SANDBOX (cutbox-door.mjs). By AI agents, Wed Nov 11 2026. No macro, syntax, notation, axiom, sorry.
-/
import Derived.Test.YtoeagociikihnaaDoorRows
import GoSem.ClaimSeven
namespace Go.Proofs.YtoeagociikihnaaDoor
namespace Rows

/-- THE TIED CARD OF 'bedrockkeep.DirTwice'. -/
def dirTwiceCard : Claim7 := { stood := { row := dirTwiceRow, standIns := [], harness := (true, "8bb558ce4315a3f107bdfaa96a7c7d4ed8782e2b4dcb44ba5c1ad187d315c8f8"), looks := false }, kinds := [], alts := [], laidByText := true, laidKinds := [.data, .pinned], laidTests := true, laidLooks := .later }
def DirTwiceCardSaid : Prop := Claim7.holds Tryd.pinned (.plain (OpenSpec.ofChange dirTwiceSpec)) dirTwiceCard

/-- THE TIED CARD OF 'bedrocklaw.DirFolds'. -/
def dirFoldsCard : Claim7 := { stood := { row := dirFoldsRow, standIns := [], harness := (true, "8bb558ce4315a3f107bdfaa96a7c7d4ed8782e2b4dcb44ba5c1ad187d315c8f8"), looks := false }, kinds := [], alts := [], laidByText := true, laidKinds := [.data, .pinned], laidTests := true, laidLooks := .later }
def DirFoldsCardSaid : Prop := Claim7.holds Tryd.pinned (.plain (OpenSpec.ofChange dirFoldsSpec)) dirFoldsCard

/-- THE SECOND FORM's CARD OF 'bedrockkeep.DirTwice'. -/
def dirTwiceUptoCard : Claim7 := { stood := { row := dirTwiceUptoRow, standIns := [], harness := (true, "8bb558ce4315a3f107bdfaa96a7c7d4ed8782e2b4dcb44ba5c1ad187d315c8f8"), looks := false }, kinds := [], alts := [], laidByText := true, laidKinds := [.data, .pinned], laidTests := true, laidLooks := .later }
def DirTwiceUptoCardSaid : Prop := Claim7.holds Tryd.pinned (.plain (OpenSpec.upto dirTwiceSpec)) dirTwiceUptoCard

/-- THE SECOND FORM's CARD OF 'bedrocklaw.DirFolds'. -/
def dirFoldsUptoCard : Claim7 := { stood := { row := dirFoldsUptoRow, standIns := [], harness := (true, "8bb558ce4315a3f107bdfaa96a7c7d4ed8782e2b4dcb44ba5c1ad187d315c8f8"), looks := false }, kinds := [], alts := [], laidByText := true, laidKinds := [.data, .pinned], laidTests := true, laidLooks := .later }
def DirFoldsUptoCardSaid : Prop := Claim7.holds Tryd.pinned (.plain (OpenSpec.upto dirFoldsSpec)) dirFoldsUptoCard
end Rows
end Go.Proofs.YtoeagociikihnaaDoor
