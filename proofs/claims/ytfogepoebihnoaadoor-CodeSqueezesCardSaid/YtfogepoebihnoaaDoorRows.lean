/-
  NARROWER THAN 'FOR EVERY INPUT', by the rows' own cells (each row's printed sentence says how): CodeSwells: laid · CodeOrder: laid · CodeSqueezes: laid · CodeKeys: laid · CodeReads: laid.
  DERIVED. THE GIVEN ROWS OF THIS SEAT. 5 by the template 'for every input the law returns true; each argument reads behind the call as it read before'; 0 by the template 'total and deterministic' (their statements: YtfogepoebihnoaaDoorTotals.lean).
  GIVEN WITH THE SEED: the statements are not yours to turn. If you find one false, say at which input.
  Laid BY PROGRAM, IN A SANDBOX (cutbox-rows.mjs): the forced cells as the released guide's own fill.sh prints them over the translation 164c712819987e5d… (all of the seat's roots in one cut). By AI agents, Wed Nov 11 2026. No macro, syntax, notation, axiom, sorry.
-/
import Derived.Test.YtfogepoebihnoaaDoorChecked
import GoSem.Claim
import GoSem.ClaimJoined
import GoSem.ClaimMapViews
import Derived.JoinedTies
import Derived.KernelRfl
namespace Go.Proofs.YtfogepoebihnoaaDoor
/- THE CELL 'sum', in the pinned program and in every row, IS THE sha256 OF THE DUMP (.gsa) THAT YtfogepoebihnoaaDoorProg.lean LOADS. Nothing in Lean hashes anything: it is a label: what it is worth is what the hold of that sum in a sandbox is worth. -/
noncomputable def Tryd.pinned : Pinned := { name := "ytfogepoebihnoaadoor", sum := "164c712819987e5dbb0e941c5e6ae9fe644d17efa3cd3b8c75d957cbf29f0f4f", checked := Tryd.checked }
namespace Rows
def none {H : Type} : Left H := { results := [], args := [] }

/- WHAT THE LISTED PACKAGE-LEVEL VARIABLES READ AS WHEN THE CALL BEGINS. Each datum BY PROGRAM (the guide's laid-datum.mjs) off the statement by which the dump's own 'gosem.cut.vars' lays the variable. In a bare row this is a premise. The card (YtfogepoebihnoaaDoorCards.lean) ties it to the program's text. -/
def laid_errors_errorType {H : Type} : DataW H := .iface "internal/reflectlite.rtype" (.agg [.ptr (.lit (.string [101, 114, 114, 111, 114]))])

/-- 'bedrocklaw.CodeSwells': WHATEVER THE INPUT: true; the input reads as it did. -/
def codeSwellsSpec : ChangeSpec := { name := "codeSwells", fn := fun _ => fun
  | [d1, d2] => { results := [.lit (.bool true)], args := [d1, d2] }
  | _ => none }
def codeSwellsRow : OpenClaim := { program := "ytfogepoebihnoaadoor", sum := "164c712819987e5dbb0e941c5e6ae9fe644d17efa3cd3b8c75d957cbf29f0f4f", func := "bedrock/bedrocklaw.CodeSwells", spec := "codeSwells", inPlace := ["internal/reflectlite.ValueOf", "(internal/reflectlite.Value).Type", "(internal/reflectlite.Value).IsNil", "internal/reflectlite.TypeOf", "(internal/reflectlite.Value).Elem", "(internal/reflectlite.Value).Set"], unfollowed := true, recurses := true, named := ["errors.errorType"], plainKeys := false, apart := false, laid := [("errors.errorType", laid_errors_errorType)] }
def CodeSwellsSaid : Prop := codeSwellsRow.holds Tryd.pinned (OpenSpec.ofChange codeSwellsSpec)

/-- ITS FALSE NEIGHBOUR: 'it returns false'. Refute it at one input. -/
def codeSwellsWrong : ChangeSpec := { name := "codeSwells", fn := fun _ => fun
  | [d1, d2] => { results := [.lit (.bool false)], args := [d1, d2] }
  | _ => none }
def CodeSwellsWrongFalsely : Prop := codeSwellsRow.holds Tryd.pinned (OpenSpec.ofChange codeSwellsWrong)

/-- 'bedrocklaw.CodeOrder': WHATEVER THE INPUT: true; the input reads as it did. -/
def codeOrderSpec : ChangeSpec := { name := "codeOrder", fn := fun _ => fun
  | [d1, d2, d3] => { results := [.lit (.bool true)], args := [d1, d2, d3] }
  | _ => none }
def codeOrderRow : OpenClaim := { program := "ytfogepoebihnoaadoor", sum := "164c712819987e5dbb0e941c5e6ae9fe644d17efa3cd3b8c75d957cbf29f0f4f", func := "bedrock/bedrocklaw.CodeOrder", spec := "codeOrder", inPlace := ["internal/reflectlite.ValueOf", "(internal/reflectlite.Value).Type", "(internal/reflectlite.Value).IsNil", "internal/reflectlite.TypeOf", "(internal/reflectlite.Value).Elem", "(internal/reflectlite.Value).Set"], unfollowed := true, recurses := true, named := ["errors.errorType"], plainKeys := false, apart := false, laid := [("errors.errorType", laid_errors_errorType)] }
def CodeOrderSaid : Prop := codeOrderRow.holds Tryd.pinned (OpenSpec.ofChange codeOrderSpec)

/-- ITS FALSE NEIGHBOUR: 'it returns false'. Refute it at one input. -/
def codeOrderWrong : ChangeSpec := { name := "codeOrder", fn := fun _ => fun
  | [d1, d2, d3] => { results := [.lit (.bool false)], args := [d1, d2, d3] }
  | _ => none }
def CodeOrderWrongFalsely : Prop := codeOrderRow.holds Tryd.pinned (OpenSpec.ofChange codeOrderWrong)

/-- 'bedrocklaw.CodeSqueezes': WHATEVER THE INPUT: true; the input reads as it did. -/
def codeSqueezesSpec : ChangeSpec := { name := "codeSqueezes", fn := fun _ => fun
  | [d1, d2] => { results := [.lit (.bool true)], args := [d1, d2] }
  | _ => none }
def codeSqueezesRow : OpenClaim := { program := "ytfogepoebihnoaadoor", sum := "164c712819987e5dbb0e941c5e6ae9fe644d17efa3cd3b8c75d957cbf29f0f4f", func := "bedrock/bedrocklaw.CodeSqueezes", spec := "codeSqueezes", inPlace := ["internal/reflectlite.ValueOf", "(internal/reflectlite.Value).Type", "(internal/reflectlite.Value).IsNil", "internal/reflectlite.TypeOf", "(internal/reflectlite.Value).Elem", "(internal/reflectlite.Value).Set"], unfollowed := true, recurses := true, named := ["errors.errorType"], plainKeys := false, apart := false, laid := [("errors.errorType", laid_errors_errorType)] }
def CodeSqueezesSaid : Prop := codeSqueezesRow.holds Tryd.pinned (OpenSpec.ofChange codeSqueezesSpec)

/-- ITS FALSE NEIGHBOUR: 'it returns false'. Refute it at one input. -/
def codeSqueezesWrong : ChangeSpec := { name := "codeSqueezes", fn := fun _ => fun
  | [d1, d2] => { results := [.lit (.bool false)], args := [d1, d2] }
  | _ => none }
def CodeSqueezesWrongFalsely : Prop := codeSqueezesRow.holds Tryd.pinned (OpenSpec.ofChange codeSqueezesWrong)

/-- 'bedrocklaw.CodeKeys': WHATEVER THE INPUT: true; the input reads as it did. -/
def codeKeysSpec : ChangeSpec := { name := "codeKeys", fn := fun _ => fun
  | [d] => { results := [.lit (.bool true)], args := [d] }
  | _ => none }
def codeKeysRow : OpenClaim := { program := "ytfogepoebihnoaadoor", sum := "164c712819987e5dbb0e941c5e6ae9fe644d17efa3cd3b8c75d957cbf29f0f4f", func := "bedrock/bedrocklaw.CodeKeys", spec := "codeKeys", inPlace := ["internal/reflectlite.ValueOf", "(internal/reflectlite.Value).Type", "(internal/reflectlite.Value).IsNil", "internal/reflectlite.TypeOf", "(internal/reflectlite.Value).Elem", "(internal/reflectlite.Value).Set", "internal/bytealg.IndexByte"], unfollowed := true, recurses := true, named := ["errors.errorType"], plainKeys := false, apart := false, laid := [("errors.errorType", laid_errors_errorType)] }
def CodeKeysSaid : Prop := codeKeysRow.holds Tryd.pinned (OpenSpec.ofChange codeKeysSpec)

/-- ITS FALSE NEIGHBOUR: 'it returns false'. Refute it at one input. -/
def codeKeysWrong : ChangeSpec := { name := "codeKeys", fn := fun _ => fun
  | [d] => { results := [.lit (.bool false)], args := [d] }
  | _ => none }
def CodeKeysWrongFalsely : Prop := codeKeysRow.holds Tryd.pinned (OpenSpec.ofChange codeKeysWrong)

/-- 'bedrocklaw.CodeReads': WHATEVER THE INPUT: true; the input reads as it did. -/
def codeReadsSpec : ChangeSpec := { name := "codeReads", fn := fun _ => fun
  | [d] => { results := [.lit (.bool true)], args := [d] }
  | _ => none }
def codeReadsRow : OpenClaim := { program := "ytfogepoebihnoaadoor", sum := "164c712819987e5dbb0e941c5e6ae9fe644d17efa3cd3b8c75d957cbf29f0f4f", func := "bedrock/bedrocklaw.CodeReads", spec := "codeReads", inPlace := ["internal/bytealg.IndexByte", "internal/reflectlite.ValueOf", "(internal/reflectlite.Value).Type", "(internal/reflectlite.Value).IsNil", "internal/reflectlite.TypeOf", "(internal/reflectlite.Value).Elem", "(internal/reflectlite.Value).Set"], unfollowed := true, recurses := true, named := ["errors.errorType"], plainKeys := false, apart := false, laid := [("errors.errorType", laid_errors_errorType)] }
def CodeReadsSaid : Prop := codeReadsRow.holds Tryd.pinned (OpenSpec.ofChange codeReadsSpec)

/-- ITS FALSE NEIGHBOUR: 'it returns false'. Refute it at one input. -/
def codeReadsWrong : ChangeSpec := { name := "codeReads", fn := fun _ => fun
  | [d] => { results := [.lit (.bool false)], args := [d] }
  | _ => none }
def CodeReadsWrongFalsely : Prop := codeReadsRow.holds Tryd.pinned (OpenSpec.ofChange codeReadsWrong)

/- THE SECOND FORM. 'bulk': how many values and letters a reading holds, each counted each time it is reached (what is shared counts as often as it is met; a slice's spare places count too). A statement '..UptoSaid' is the law's where the arguments, and the package variables that the reading takes, are together of bulk at most 1048576: NARROWER than '..Said'. Prove '..Said' where nothing that the law and all that it calls make is longer than what came in: it says more and counts as full. Else prove '..UptoSaid'. A law counts once. -/
mutual
def uptoBulk {H : Type} : DataW H → Nat
  | .lit (.string bytes) => bytes.length + 1
  | .lit _ => 1
  | .nil => 1
  | .ptr d => uptoBulk d + 1
  | .slice elems spare => uptoBulkAll elems + uptoBulkAll spare + 1
  | .agg parts => uptoBulkAll parts + 1
  | .iface _ d => uptoBulk d + 1
  | .map entries => uptoBulkEntries entries + 1
  | .held _ => 1
def uptoBulkAll {H : Type} : List (DataW H) → Nat
  | [] => 0
  | d :: r => uptoBulk d + uptoBulkAll r
def uptoBulkEntries {H : Type} : List (Lit × DataW H) → Nat
  | [] => 0
  | x :: r => uptoBulkEntry x + uptoBulkEntries r
def uptoBulkEntry {H : Type} : Lit × DataW H → Nat
  | (.string bytes, d) => bytes.length + uptoBulk d + 1
  | (_, d) => uptoBulk d + 1
 end
def uptoSmall : (H : Type) → List (DataW H) → Bool := fun _ ds => decide (uptoBulkAll ds ≤ 1048576)
def OpenSpec.upto (s : _root_.Go.ChangeSpec) : _root_.Go.OpenSpec := { _root_.Go.OpenSpec.ofChange s with cond := some uptoSmall }

/-- 'bedrocklaw.CodeSwells', WHERE WHAT IT READS IS OF BULK AT MOST 1048576: true; the input reads as it did. -/
def codeSwellsUptoRow : OpenClaim := { program := "ytfogepoebihnoaadoor", sum := "164c712819987e5dbb0e941c5e6ae9fe644d17efa3cd3b8c75d957cbf29f0f4f", func := "bedrock/bedrocklaw.CodeSwells", spec := "codeSwells", inPlace := ["internal/reflectlite.ValueOf", "(internal/reflectlite.Value).Type", "(internal/reflectlite.Value).IsNil", "internal/reflectlite.TypeOf", "(internal/reflectlite.Value).Elem", "(internal/reflectlite.Value).Set"], unfollowed := true, recurses := true, named := ["errors.errorType"], plainKeys := false, apart := false, laid := [("errors.errorType", laid_errors_errorType)], narrowed := true }
def CodeSwellsUptoSaid : Prop := codeSwellsUptoRow.holds Tryd.pinned (OpenSpec.upto codeSwellsSpec)

/-- 'bedrocklaw.CodeOrder', WHERE WHAT IT READS IS OF BULK AT MOST 1048576: true; the input reads as it did. -/
def codeOrderUptoRow : OpenClaim := { program := "ytfogepoebihnoaadoor", sum := "164c712819987e5dbb0e941c5e6ae9fe644d17efa3cd3b8c75d957cbf29f0f4f", func := "bedrock/bedrocklaw.CodeOrder", spec := "codeOrder", inPlace := ["internal/reflectlite.ValueOf", "(internal/reflectlite.Value).Type", "(internal/reflectlite.Value).IsNil", "internal/reflectlite.TypeOf", "(internal/reflectlite.Value).Elem", "(internal/reflectlite.Value).Set"], unfollowed := true, recurses := true, named := ["errors.errorType"], plainKeys := false, apart := false, laid := [("errors.errorType", laid_errors_errorType)], narrowed := true }
def CodeOrderUptoSaid : Prop := codeOrderUptoRow.holds Tryd.pinned (OpenSpec.upto codeOrderSpec)

/-- 'bedrocklaw.CodeSqueezes', WHERE WHAT IT READS IS OF BULK AT MOST 1048576: true; the input reads as it did. -/
def codeSqueezesUptoRow : OpenClaim := { program := "ytfogepoebihnoaadoor", sum := "164c712819987e5dbb0e941c5e6ae9fe644d17efa3cd3b8c75d957cbf29f0f4f", func := "bedrock/bedrocklaw.CodeSqueezes", spec := "codeSqueezes", inPlace := ["internal/reflectlite.ValueOf", "(internal/reflectlite.Value).Type", "(internal/reflectlite.Value).IsNil", "internal/reflectlite.TypeOf", "(internal/reflectlite.Value).Elem", "(internal/reflectlite.Value).Set"], unfollowed := true, recurses := true, named := ["errors.errorType"], plainKeys := false, apart := false, laid := [("errors.errorType", laid_errors_errorType)], narrowed := true }
def CodeSqueezesUptoSaid : Prop := codeSqueezesUptoRow.holds Tryd.pinned (OpenSpec.upto codeSqueezesSpec)

/-- 'bedrocklaw.CodeKeys', WHERE WHAT IT READS IS OF BULK AT MOST 1048576: true; the input reads as it did. -/
def codeKeysUptoRow : OpenClaim := { program := "ytfogepoebihnoaadoor", sum := "164c712819987e5dbb0e941c5e6ae9fe644d17efa3cd3b8c75d957cbf29f0f4f", func := "bedrock/bedrocklaw.CodeKeys", spec := "codeKeys", inPlace := ["internal/reflectlite.ValueOf", "(internal/reflectlite.Value).Type", "(internal/reflectlite.Value).IsNil", "internal/reflectlite.TypeOf", "(internal/reflectlite.Value).Elem", "(internal/reflectlite.Value).Set", "internal/bytealg.IndexByte"], unfollowed := true, recurses := true, named := ["errors.errorType"], plainKeys := false, apart := false, laid := [("errors.errorType", laid_errors_errorType)], narrowed := true }
def CodeKeysUptoSaid : Prop := codeKeysUptoRow.holds Tryd.pinned (OpenSpec.upto codeKeysSpec)

/-- 'bedrocklaw.CodeReads', WHERE WHAT IT READS IS OF BULK AT MOST 1048576: true; the input reads as it did. -/
def codeReadsUptoRow : OpenClaim := { program := "ytfogepoebihnoaadoor", sum := "164c712819987e5dbb0e941c5e6ae9fe644d17efa3cd3b8c75d957cbf29f0f4f", func := "bedrock/bedrocklaw.CodeReads", spec := "codeReads", inPlace := ["internal/bytealg.IndexByte", "internal/reflectlite.ValueOf", "(internal/reflectlite.Value).Type", "(internal/reflectlite.Value).IsNil", "internal/reflectlite.TypeOf", "(internal/reflectlite.Value).Elem", "(internal/reflectlite.Value).Set"], unfollowed := true, recurses := true, named := ["errors.errorType"], plainKeys := false, apart := false, laid := [("errors.errorType", laid_errors_errorType)], narrowed := true }
def CodeReadsUptoSaid : Prop := codeReadsUptoRow.holds Tryd.pinned (OpenSpec.upto codeReadsSpec)

end Rows
end Go.Proofs.YtfogepoebihnoaaDoor
