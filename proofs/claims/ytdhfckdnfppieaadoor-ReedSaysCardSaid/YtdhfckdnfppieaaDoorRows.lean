/-
  NARROWER THAN 'FOR EVERY INPUT', by the rows' own cells (each row's printed sentence says how): GaloisInverse: laid · GaloisSays: laid · ReedSays: laid · ReedWrong: laid · ParityAgain: laid · ParitySays: laid.
  DERIVED. THE GIVEN ROWS OF THIS SEAT. 6 by the template 'for every input the law returns true; each argument reads behind the call as it read before'; 0 by the template 'total and deterministic' (their statements: YtdhfckdnfppieaaDoorTotals.lean).
  GIVEN WITH THE SEED: the statements are not yours to turn. If you find one false, say at which input.
  Laid BY PROGRAM, IN A SANDBOX (cutbox-rows.mjs): the forced cells as the released guide's own fill.sh prints them over the translation fd6217d86b865b7d… (all of the seat's roots in one cut). By AI agents, Wed Nov 11 2026. No macro, syntax, notation, axiom, sorry.
-/
import Derived.Test.YtdhfckdnfppieaaDoorChecked
import GoSem.Claim
import GoSem.ClaimJoined
import GoSem.ClaimMapViews
import Derived.JoinedTies
import Derived.KernelRfl
namespace Go.Proofs.YtdhfckdnfppieaaDoor
/- THE CELL 'sum', in the pinned program and in every row, IS THE sha256 OF THE DUMP (.gsa) THAT YtdhfckdnfppieaaDoorProg.lean LOADS. Nothing in Lean hashes anything: it is a label: what it is worth is what the hold of that sum in a sandbox is worth. -/
noncomputable def Tryd.pinned : Pinned := { name := "ytdhfckdnfppieaadoor", sum := "fd6217d86b865b7dafdbca328665405f6d67a25017b52360ba1f01d3ecf38045", checked := Tryd.checked }
namespace Rows
def none {H : Type} : Left H := { results := [], args := [] }

/- WHAT THE LISTED PACKAGE-LEVEL VARIABLES READ AS WHEN THE CALL BEGINS. Each datum BY PROGRAM (the guide's laid-datum.mjs) off the statement by which the dump's own 'gosem.cut.vars' lays the variable. In a bare row this is a premise. The card (YtdhfckdnfppieaaDoorCards.lean) ties it to the program's text. -/
def laid_errors_errorType {H : Type} : DataW H := .iface "internal/reflectlite.rtype" (.agg [.ptr (.lit (.string [101, 114, 114, 111, 114]))])

/-- 'platterholdlaw1.GaloisInverse': WHATEVER THE INPUT: true; the input reads as it did. -/
def galoisInverseSpec : ChangeSpec := { name := "galoisInverse", fn := fun _ => fun
  | [d1, d2] => { results := [.lit (.bool true)], args := [d1, d2] }
  | _ => none }
def galoisInverseRow : OpenClaim := { program := "ytdhfckdnfppieaadoor", sum := "fd6217d86b865b7dafdbca328665405f6d67a25017b52360ba1f01d3ecf38045", func := "platterhold/platterholdlaw1.GaloisInverse", spec := "galoisInverse", inPlace := ["internal/reflectlite.ValueOf", "(internal/reflectlite.Value).Type", "(internal/reflectlite.Value).IsNil", "internal/reflectlite.TypeOf", "(internal/reflectlite.Value).Elem", "(internal/reflectlite.Value).Set"], unfollowed := true, recurses := true, named := ["errors.errorType"], apart := false, laid := [("errors.errorType", laid_errors_errorType)] }
def GaloisInverseSaid : Prop := galoisInverseRow.holds Tryd.pinned (OpenSpec.ofChange galoisInverseSpec)

/-- ITS FALSE NEIGHBOUR: 'it returns false'. Refute it at one input. -/
def galoisInverseWrong : ChangeSpec := { name := "galoisInverse", fn := fun _ => fun
  | [d1, d2] => { results := [.lit (.bool false)], args := [d1, d2] }
  | _ => none }
def GaloisInverseWrongFalsely : Prop := galoisInverseRow.holds Tryd.pinned (OpenSpec.ofChange galoisInverseWrong)

/-- 'platterholdlaw1.GaloisSays': WHATEVER THE INPUT: true; the input reads as it did. -/
def galoisSaysSpec : ChangeSpec := { name := "galoisSays", fn := fun _ => fun
  | [d1, d2, d3, d4] => { results := [.lit (.bool true)], args := [d1, d2, d3, d4] }
  | _ => none }
def galoisSaysRow : OpenClaim := { program := "ytdhfckdnfppieaadoor", sum := "fd6217d86b865b7dafdbca328665405f6d67a25017b52360ba1f01d3ecf38045", func := "platterhold/platterholdlaw1.GaloisSays", spec := "galoisSays", inPlace := ["internal/reflectlite.ValueOf", "(internal/reflectlite.Value).Type", "(internal/reflectlite.Value).IsNil", "internal/reflectlite.TypeOf", "(internal/reflectlite.Value).Elem", "(internal/reflectlite.Value).Set"], unfollowed := true, recurses := true, named := ["errors.errorType"], apart := false, laid := [("errors.errorType", laid_errors_errorType)] }
def GaloisSaysSaid : Prop := galoisSaysRow.holds Tryd.pinned (OpenSpec.ofChange galoisSaysSpec)

/-- ITS FALSE NEIGHBOUR: 'it returns false'. Refute it at one input. -/
def galoisSaysWrong : ChangeSpec := { name := "galoisSays", fn := fun _ => fun
  | [d1, d2, d3, d4] => { results := [.lit (.bool false)], args := [d1, d2, d3, d4] }
  | _ => none }
def GaloisSaysWrongFalsely : Prop := galoisSaysRow.holds Tryd.pinned (OpenSpec.ofChange galoisSaysWrong)

/-- 'platterholdlaw1.ReedSays': WHATEVER THE INPUT: true; the input reads as it did. -/
def reedSaysSpec : ChangeSpec := { name := "reedSays", fn := fun _ => fun
  | [d1, d2, d3, d4] => { results := [.lit (.bool true)], args := [d1, d2, d3, d4] }
  | _ => none }
def reedSaysRow : OpenClaim := { program := "ytdhfckdnfppieaadoor", sum := "fd6217d86b865b7dafdbca328665405f6d67a25017b52360ba1f01d3ecf38045", func := "platterhold/platterholdlaw1.ReedSays", spec := "reedSays", inPlace := ["internal/reflectlite.ValueOf", "(internal/reflectlite.Value).Type", "(internal/reflectlite.Value).IsNil", "internal/reflectlite.TypeOf", "(internal/reflectlite.Value).Elem", "(internal/reflectlite.Value).Set"], unfollowed := true, recurses := true, named := ["errors.errorType"], apart := false, laid := [("errors.errorType", laid_errors_errorType)] }
def ReedSaysSaid : Prop := reedSaysRow.holds Tryd.pinned (OpenSpec.ofChange reedSaysSpec)

/-- ITS FALSE NEIGHBOUR: 'it returns false'. Refute it at one input. -/
def reedSaysWrong : ChangeSpec := { name := "reedSays", fn := fun _ => fun
  | [d1, d2, d3, d4] => { results := [.lit (.bool false)], args := [d1, d2, d3, d4] }
  | _ => none }
def ReedSaysWrongFalsely : Prop := reedSaysRow.holds Tryd.pinned (OpenSpec.ofChange reedSaysWrong)

/-- 'platterholdlaw1.ReedWrong': WHATEVER THE INPUT: true; the input reads as it did. -/
def reedWrongSpec : ChangeSpec := { name := "reedWrong", fn := fun _ => fun
  | [d1, d2, d3, d4] => { results := [.lit (.bool true)], args := [d1, d2, d3, d4] }
  | _ => none }
def reedWrongRow : OpenClaim := { program := "ytdhfckdnfppieaadoor", sum := "fd6217d86b865b7dafdbca328665405f6d67a25017b52360ba1f01d3ecf38045", func := "platterhold/platterholdlaw1.ReedWrong", spec := "reedWrong", inPlace := ["internal/reflectlite.ValueOf", "(internal/reflectlite.Value).Type", "(internal/reflectlite.Value).IsNil", "internal/reflectlite.TypeOf", "(internal/reflectlite.Value).Elem", "(internal/reflectlite.Value).Set"], unfollowed := true, recurses := true, named := ["errors.errorType"], apart := false, laid := [("errors.errorType", laid_errors_errorType)] }
def ReedWrongSaid : Prop := reedWrongRow.holds Tryd.pinned (OpenSpec.ofChange reedWrongSpec)

/-- ITS FALSE NEIGHBOUR: 'it returns false'. Refute it at one input. -/
def reedWrongWrong : ChangeSpec := { name := "reedWrong", fn := fun _ => fun
  | [d1, d2, d3, d4] => { results := [.lit (.bool false)], args := [d1, d2, d3, d4] }
  | _ => none }
def ReedWrongWrongFalsely : Prop := reedWrongRow.holds Tryd.pinned (OpenSpec.ofChange reedWrongWrong)

/-- 'platterholdlaw1.ParityAgain': WHATEVER THE INPUT: true; the input reads as it did. -/
def parityAgainSpec : ChangeSpec := { name := "parityAgain", fn := fun _ => fun
  | [d1, d2, d3] => { results := [.lit (.bool true)], args := [d1, d2, d3] }
  | _ => none }
def parityAgainRow : OpenClaim := { program := "ytdhfckdnfppieaadoor", sum := "fd6217d86b865b7dafdbca328665405f6d67a25017b52360ba1f01d3ecf38045", func := "platterhold/platterholdlaw1.ParityAgain", spec := "parityAgain", inPlace := ["internal/reflectlite.ValueOf", "(internal/reflectlite.Value).Type", "(internal/reflectlite.Value).IsNil", "internal/reflectlite.TypeOf", "(internal/reflectlite.Value).Elem", "(internal/reflectlite.Value).Set"], unfollowed := true, recurses := true, named := ["errors.errorType"], apart := false, laid := [("errors.errorType", laid_errors_errorType)] }
def ParityAgainSaid : Prop := parityAgainRow.holds Tryd.pinned (OpenSpec.ofChange parityAgainSpec)

/-- ITS FALSE NEIGHBOUR: 'it returns false'. Refute it at one input. -/
def parityAgainWrong : ChangeSpec := { name := "parityAgain", fn := fun _ => fun
  | [d1, d2, d3] => { results := [.lit (.bool false)], args := [d1, d2, d3] }
  | _ => none }
def ParityAgainWrongFalsely : Prop := parityAgainRow.holds Tryd.pinned (OpenSpec.ofChange parityAgainWrong)

/-- 'platterholdlaw1.ParitySays': WHATEVER THE INPUT: true; the input reads as it did. -/
def paritySaysSpec : ChangeSpec := { name := "paritySays", fn := fun _ => fun
  | [d1, d2, d3, d4] => { results := [.lit (.bool true)], args := [d1, d2, d3, d4] }
  | _ => none }
def paritySaysRow : OpenClaim := { program := "ytdhfckdnfppieaadoor", sum := "fd6217d86b865b7dafdbca328665405f6d67a25017b52360ba1f01d3ecf38045", func := "platterhold/platterholdlaw1.ParitySays", spec := "paritySays", inPlace := ["internal/reflectlite.ValueOf", "(internal/reflectlite.Value).Type", "(internal/reflectlite.Value).IsNil", "internal/reflectlite.TypeOf", "(internal/reflectlite.Value).Elem", "(internal/reflectlite.Value).Set"], unfollowed := true, recurses := true, named := ["errors.errorType"], apart := false, laid := [("errors.errorType", laid_errors_errorType)] }
def ParitySaysSaid : Prop := paritySaysRow.holds Tryd.pinned (OpenSpec.ofChange paritySaysSpec)

/-- ITS FALSE NEIGHBOUR: 'it returns false'. Refute it at one input. -/
def paritySaysWrong : ChangeSpec := { name := "paritySays", fn := fun _ => fun
  | [d1, d2, d3, d4] => { results := [.lit (.bool false)], args := [d1, d2, d3, d4] }
  | _ => none }
def ParitySaysWrongFalsely : Prop := paritySaysRow.holds Tryd.pinned (OpenSpec.ofChange paritySaysWrong)

/- THE SECOND FORM. 'bulk': how many values and letters a reading holds, each counted each time it is reached (what is shared counts as often as it is met; a slice's spare places count too). A statement '..UptoSaid' is the law's where the arguments, and the package variables that the reading takes, are together of bulk at most 1048576: NARROWER than '..Said'. Prove '..Said' where nothing that the law and all that it calls make is longer than what came in: it says more and counts as full. Else prove '..UptoSaid'. A law counts once. -/
mutual
def uptoBulk {H : Type} : DataW H → Nat
  | .lit (.string bytes) => bytes.length + 1
  | .lit _ => 1
  | .nil => 1
  | .ptr d => uptoBulk d + 1
  | .slice elems spare => uptoBulkAll elems + uptoBulkAll spare + 1
  | .agg parts => uptoBulkAll parts + 1
  | .iface _ d => uptoBulk d + 1
  | .map entries => uptoBulkEntries entries + 1
  | .held _ => 1
def uptoBulkAll {H : Type} : List (DataW H) → Nat
  | [] => 0
  | d :: r => uptoBulk d + uptoBulkAll r
def uptoBulkEntries {H : Type} : List (Lit × DataW H) → Nat
  | [] => 0
  | x :: r => uptoBulkEntry x + uptoBulkEntries r
def uptoBulkEntry {H : Type} : Lit × DataW H → Nat
  | (.string bytes, d) => bytes.length + uptoBulk d + 1
  | (_, d) => uptoBulk d + 1
 end
def uptoSmall : (H : Type) → List (DataW H) → Bool := fun _ ds => decide (uptoBulkAll ds ≤ 1048576)
def OpenSpec.upto (s : _root_.Go.ChangeSpec) : _root_.Go.OpenSpec := { _root_.Go.OpenSpec.ofChange s with cond := some uptoSmall }

/-- 'platterholdlaw1.GaloisInverse', WHERE WHAT IT READS IS OF BULK AT MOST 1048576: true; the input reads as it did. -/
def galoisInverseUptoRow : OpenClaim := { program := "ytdhfckdnfppieaadoor", sum := "fd6217d86b865b7dafdbca328665405f6d67a25017b52360ba1f01d3ecf38045", func := "platterhold/platterholdlaw1.GaloisInverse", spec := "galoisInverse", inPlace := ["internal/reflectlite.ValueOf", "(internal/reflectlite.Value).Type", "(internal/reflectlite.Value).IsNil", "internal/reflectlite.TypeOf", "(internal/reflectlite.Value).Elem", "(internal/reflectlite.Value).Set"], unfollowed := true, recurses := true, named := ["errors.errorType"], apart := false, laid := [("errors.errorType", laid_errors_errorType)], narrowed := true }
def GaloisInverseUptoSaid : Prop := galoisInverseUptoRow.holds Tryd.pinned (OpenSpec.upto galoisInverseSpec)

/-- 'platterholdlaw1.GaloisSays', WHERE WHAT IT READS IS OF BULK AT MOST 1048576: true; the input reads as it did. -/
def galoisSaysUptoRow : OpenClaim := { program := "ytdhfckdnfppieaadoor", sum := "fd6217d86b865b7dafdbca328665405f6d67a25017b52360ba1f01d3ecf38045", func := "platterhold/platterholdlaw1.GaloisSays", spec := "galoisSays", inPlace := ["internal/reflectlite.ValueOf", "(internal/reflectlite.Value).Type", "(internal/reflectlite.Value).IsNil", "internal/reflectlite.TypeOf", "(internal/reflectlite.Value).Elem", "(internal/reflectlite.Value).Set"], unfollowed := true, recurses := true, named := ["errors.errorType"], apart := false, laid := [("errors.errorType", laid_errors_errorType)], narrowed := true }
def GaloisSaysUptoSaid : Prop := galoisSaysUptoRow.holds Tryd.pinned (OpenSpec.upto galoisSaysSpec)

/-- 'platterholdlaw1.ReedSays', WHERE WHAT IT READS IS OF BULK AT MOST 1048576: true; the input reads as it did. -/
def reedSaysUptoRow : OpenClaim := { program := "ytdhfckdnfppieaadoor", sum := "fd6217d86b865b7dafdbca328665405f6d67a25017b52360ba1f01d3ecf38045", func := "platterhold/platterholdlaw1.ReedSays", spec := "reedSays", inPlace := ["internal/reflectlite.ValueOf", "(internal/reflectlite.Value).Type", "(internal/reflectlite.Value).IsNil", "internal/reflectlite.TypeOf", "(internal/reflectlite.Value).Elem", "(internal/reflectlite.Value).Set"], unfollowed := true, recurses := true, named := ["errors.errorType"], apart := false, laid := [("errors.errorType", laid_errors_errorType)], narrowed := true }
def ReedSaysUptoSaid : Prop := reedSaysUptoRow.holds Tryd.pinned (OpenSpec.upto reedSaysSpec)

/-- 'platterholdlaw1.ReedWrong', WHERE WHAT IT READS IS OF BULK AT MOST 1048576: true; the input reads as it did. -/
def reedWrongUptoRow : OpenClaim := { program := "ytdhfckdnfppieaadoor", sum := "fd6217d86b865b7dafdbca328665405f6d67a25017b52360ba1f01d3ecf38045", func := "platterhold/platterholdlaw1.ReedWrong", spec := "reedWrong", inPlace := ["internal/reflectlite.ValueOf", "(internal/reflectlite.Value).Type", "(internal/reflectlite.Value).IsNil", "internal/reflectlite.TypeOf", "(internal/reflectlite.Value).Elem", "(internal/reflectlite.Value).Set"], unfollowed := true, recurses := true, named := ["errors.errorType"], apart := false, laid := [("errors.errorType", laid_errors_errorType)], narrowed := true }
def ReedWrongUptoSaid : Prop := reedWrongUptoRow.holds Tryd.pinned (OpenSpec.upto reedWrongSpec)

/-- 'platterholdlaw1.ParityAgain', WHERE WHAT IT READS IS OF BULK AT MOST 1048576: true; the input reads as it did. -/
def parityAgainUptoRow : OpenClaim := { program := "ytdhfckdnfppieaadoor", sum := "fd6217d86b865b7dafdbca328665405f6d67a25017b52360ba1f01d3ecf38045", func := "platterhold/platterholdlaw1.ParityAgain", spec := "parityAgain", inPlace := ["internal/reflectlite.ValueOf", "(internal/reflectlite.Value).Type", "(internal/reflectlite.Value).IsNil", "internal/reflectlite.TypeOf", "(internal/reflectlite.Value).Elem", "(internal/reflectlite.Value).Set"], unfollowed := true, recurses := true, named := ["errors.errorType"], apart := false, laid := [("errors.errorType", laid_errors_errorType)], narrowed := true }
def ParityAgainUptoSaid : Prop := parityAgainUptoRow.holds Tryd.pinned (OpenSpec.upto parityAgainSpec)

/-- 'platterholdlaw1.ParitySays', WHERE WHAT IT READS IS OF BULK AT MOST 1048576: true; the input reads as it did. -/
def paritySaysUptoRow : OpenClaim := { program := "ytdhfckdnfppieaadoor", sum := "fd6217d86b865b7dafdbca328665405f6d67a25017b52360ba1f01d3ecf38045", func := "platterhold/platterholdlaw1.ParitySays", spec := "paritySays", inPlace := ["internal/reflectlite.ValueOf", "(internal/reflectlite.Value).Type", "(internal/reflectlite.Value).IsNil", "internal/reflectlite.TypeOf", "(internal/reflectlite.Value).Elem", "(internal/reflectlite.Value).Set"], unfollowed := true, recurses := true, named := ["errors.errorType"], apart := false, laid := [("errors.errorType", laid_errors_errorType)], narrowed := true }
def ParitySaysUptoSaid : Prop := paritySaysUptoRow.holds Tryd.pinned (OpenSpec.upto paritySaysSpec)

end Rows
end Go.Proofs.YtdhfckdnfppieaaDoor
