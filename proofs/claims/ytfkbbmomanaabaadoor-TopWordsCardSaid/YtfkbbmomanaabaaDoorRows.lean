/-
  NARROWER THAN 'FOR EVERY INPUT', by the rows' own cells (each row's printed sentence says how): HammingFix: laid · HammingApart: laid · HammingSays: laid · HammingPerfect: laid · CrcSays: laid · CrcGood: laid · TopWords: laid.
  DERIVED. THE GIVEN ROWS OF THIS SEAT. 7 by the template 'for every input the law returns true; each argument reads behind the call as it read before'; 0 by the template 'total and deterministic' (their statements: YtfkbbmomanaabaaDoorTotals.lean).
  GIVEN WITH THE SEED: the statements are not yours to turn. If you find one false, say at which input.
  Laid BY PROGRAM, IN A SANDBOX (cutbox-rows.mjs): the forced cells as the released guide's own fill.sh prints them over the translation 12b24452f3ee3bdf… (all of the seat's roots in one cut). By AI agents, Wed Nov 11 2026. No macro, syntax, notation, axiom, sorry.
-/
import Derived.Test.YtfkbbmomanaabaaDoorChecked
import GoSem.Claim
import GoSem.ClaimJoined
import GoSem.ClaimMapViews
import Derived.JoinedTies
import Derived.KernelRfl
namespace Go.Proofs.YtfkbbmomanaabaaDoor
/- THE CELL 'sum', in the pinned program and in every row, IS THE sha256 OF THE DUMP (.gsa) THAT YtfkbbmomanaabaaDoorProg.lean LOADS. Nothing in Lean hashes anything: it is a label: what it is worth is what the hold of that sum in a sandbox is worth. -/
noncomputable def Tryd.pinned : Pinned := { name := "ytfkbbmomanaabaadoor", sum := "12b24452f3ee3bdf4c6adede8a545405b7968409b84320b1af945a354c2554fc", checked := Tryd.checked }
namespace Rows
def none {H : Type} : Left H := { results := [], args := [] }

/- WHAT THE LISTED PACKAGE-LEVEL VARIABLES READ AS WHEN THE CALL BEGINS. Each datum BY PROGRAM (the guide's laid-datum.mjs) off the statement by which the dump's own 'gosem.cut.vars' lays the variable. In a bare row this is a premise. The card (YtfkbbmomanaabaaDoorCards.lean) ties it to the program's text. -/
def laid_platterhold_hamming_checks {H : Type} : DataW H := .agg [.agg [.lit (.int .i64 1), .lit (.int .i64 3), .lit (.int .i64 5), .lit (.int .i64 7)], .agg [.lit (.int .i64 2), .lit (.int .i64 3), .lit (.int .i64 6), .lit (.int .i64 7)], .agg [.lit (.int .i64 4), .lit (.int .i64 5), .lit (.int .i64 6), .lit (.int .i64 7)]]
def laid_errors_errorType {H : Type} : DataW H := .iface "internal/reflectlite.rtype" (.agg [.ptr (.lit (.string [101, 114, 114, 111, 114]))])

/-- 'platterholdlaw1.HammingFix': WHATEVER THE INPUT: true; the input reads as it did. -/
def hammingFixSpec : ChangeSpec := { name := "hammingFix", fn := fun _ => fun
  | [d1, d2] => { results := [.lit (.bool true)], args := [d1, d2] }
  | _ => none }
def hammingFixRow : OpenClaim := { program := "ytfkbbmomanaabaadoor", sum := "12b24452f3ee3bdf4c6adede8a545405b7968409b84320b1af945a354c2554fc", func := "platterhold/platterholdlaw1.HammingFix", spec := "hammingFix", named := ["platterhold/hamming.checks"], apart := false, laid := [("platterhold/hamming.checks", laid_platterhold_hamming_checks)] }
def HammingFixSaid : Prop := hammingFixRow.holds Tryd.pinned (OpenSpec.ofChange hammingFixSpec)

/-- ITS FALSE NEIGHBOUR: 'it returns false'. Refute it at one input. -/
def hammingFixWrong : ChangeSpec := { name := "hammingFix", fn := fun _ => fun
  | [d1, d2] => { results := [.lit (.bool false)], args := [d1, d2] }
  | _ => none }
def HammingFixWrongFalsely : Prop := hammingFixRow.holds Tryd.pinned (OpenSpec.ofChange hammingFixWrong)

/-- 'platterholdlaw1.HammingApart': WHATEVER THE INPUT: true; the input reads as it did. -/
def hammingApartSpec : ChangeSpec := { name := "hammingApart", fn := fun _ => fun
  | [d1, d2] => { results := [.lit (.bool true)], args := [d1, d2] }
  | _ => none }
def hammingApartRow : OpenClaim := { program := "ytfkbbmomanaabaadoor", sum := "12b24452f3ee3bdf4c6adede8a545405b7968409b84320b1af945a354c2554fc", func := "platterhold/platterholdlaw1.HammingApart", spec := "hammingApart", named := ["platterhold/hamming.checks"], apart := false, laid := [("platterhold/hamming.checks", laid_platterhold_hamming_checks)] }
def HammingApartSaid : Prop := hammingApartRow.holds Tryd.pinned (OpenSpec.ofChange hammingApartSpec)

/-- ITS FALSE NEIGHBOUR: 'it returns false'. Refute it at one input. -/
def hammingApartWrong : ChangeSpec := { name := "hammingApart", fn := fun _ => fun
  | [d1, d2] => { results := [.lit (.bool false)], args := [d1, d2] }
  | _ => none }
def HammingApartWrongFalsely : Prop := hammingApartRow.holds Tryd.pinned (OpenSpec.ofChange hammingApartWrong)

/-- 'platterholdlaw1.HammingSays': WHATEVER THE INPUT: true; the input reads as it did. -/
def hammingSaysSpec : ChangeSpec := { name := "hammingSays", fn := fun _ => fun
  | [d1, d2] => { results := [.lit (.bool true)], args := [d1, d2] }
  | _ => none }
def hammingSaysRow : OpenClaim := { program := "ytfkbbmomanaabaadoor", sum := "12b24452f3ee3bdf4c6adede8a545405b7968409b84320b1af945a354c2554fc", func := "platterhold/platterholdlaw1.HammingSays", spec := "hammingSays", inPlace := ["internal/reflectlite.ValueOf", "(internal/reflectlite.Value).Type", "(internal/reflectlite.Value).IsNil", "internal/reflectlite.TypeOf", "(internal/reflectlite.Value).Elem", "(internal/reflectlite.Value).Set"], unfollowed := true, recurses := true, named := ["platterhold/hamming.checks", "errors.errorType"], apart := false, laid := [("errors.errorType", laid_errors_errorType), ("platterhold/hamming.checks", laid_platterhold_hamming_checks)] }
def HammingSaysSaid : Prop := hammingSaysRow.holds Tryd.pinned (OpenSpec.ofChange hammingSaysSpec)

/-- ITS FALSE NEIGHBOUR: 'it returns false'. Refute it at one input. -/
def hammingSaysWrong : ChangeSpec := { name := "hammingSays", fn := fun _ => fun
  | [d1, d2] => { results := [.lit (.bool false)], args := [d1, d2] }
  | _ => none }
def HammingSaysWrongFalsely : Prop := hammingSaysRow.holds Tryd.pinned (OpenSpec.ofChange hammingSaysWrong)

/-- 'platterholdlaw1.HammingPerfect': WHATEVER THE INPUT: true; the input reads as it did. -/
def hammingPerfectSpec : ChangeSpec := { name := "hammingPerfect", fn := fun _ => fun
  | [d] => { results := [.lit (.bool true)], args := [d] }
  | _ => none }
def hammingPerfectRow : OpenClaim := { program := "ytfkbbmomanaabaadoor", sum := "12b24452f3ee3bdf4c6adede8a545405b7968409b84320b1af945a354c2554fc", func := "platterhold/platterholdlaw1.HammingPerfect", spec := "hammingPerfect", inPlace := ["internal/reflectlite.ValueOf", "(internal/reflectlite.Value).Type", "(internal/reflectlite.Value).IsNil", "internal/reflectlite.TypeOf", "(internal/reflectlite.Value).Elem", "(internal/reflectlite.Value).Set"], unfollowed := true, recurses := true, named := ["platterhold/hamming.checks", "errors.errorType"], apart := false, laid := [("errors.errorType", laid_errors_errorType), ("platterhold/hamming.checks", laid_platterhold_hamming_checks)] }
def HammingPerfectSaid : Prop := hammingPerfectRow.holds Tryd.pinned (OpenSpec.ofChange hammingPerfectSpec)

/-- ITS FALSE NEIGHBOUR: 'it returns false'. Refute it at one input. -/
def hammingPerfectWrong : ChangeSpec := { name := "hammingPerfect", fn := fun _ => fun
  | [d] => { results := [.lit (.bool false)], args := [d] }
  | _ => none }
def HammingPerfectWrongFalsely : Prop := hammingPerfectRow.holds Tryd.pinned (OpenSpec.ofChange hammingPerfectWrong)

/-- 'platterholdlaw1.CrcSays': WHATEVER THE INPUT: true; the input reads as it did. -/
def crcSaysSpec : ChangeSpec := { name := "crcSays", fn := fun _ => fun
  | [d] => { results := [.lit (.bool true)], args := [d] }
  | _ => none }
def crcSaysRow : OpenClaim := { program := "ytfkbbmomanaabaadoor", sum := "12b24452f3ee3bdf4c6adede8a545405b7968409b84320b1af945a354c2554fc", func := "platterhold/platterholdlaw1.CrcSays", spec := "crcSays", inPlace := ["internal/reflectlite.ValueOf", "(internal/reflectlite.Value).Type", "(internal/reflectlite.Value).IsNil", "internal/reflectlite.TypeOf", "(internal/reflectlite.Value).Elem", "(internal/reflectlite.Value).Set"], unfollowed := true, recurses := true, named := ["errors.errorType"], apart := false, laid := [("errors.errorType", laid_errors_errorType)] }
def CrcSaysSaid : Prop := crcSaysRow.holds Tryd.pinned (OpenSpec.ofChange crcSaysSpec)

/-- ITS FALSE NEIGHBOUR: 'it returns false'. Refute it at one input. -/
def crcSaysWrong : ChangeSpec := { name := "crcSays", fn := fun _ => fun
  | [d] => { results := [.lit (.bool false)], args := [d] }
  | _ => none }
def CrcSaysWrongFalsely : Prop := crcSaysRow.holds Tryd.pinned (OpenSpec.ofChange crcSaysWrong)

/-- 'platterholdlaw1.CrcGood': WHATEVER THE INPUT: true; the input reads as it did. -/
def crcGoodSpec : ChangeSpec := { name := "crcGood", fn := fun _ => fun
  | [d1, d2] => { results := [.lit (.bool true)], args := [d1, d2] }
  | _ => none }
def crcGoodRow : OpenClaim := { program := "ytfkbbmomanaabaadoor", sum := "12b24452f3ee3bdf4c6adede8a545405b7968409b84320b1af945a354c2554fc", func := "platterhold/platterholdlaw1.CrcGood", spec := "crcGood", inPlace := ["internal/reflectlite.ValueOf", "(internal/reflectlite.Value).Type", "(internal/reflectlite.Value).IsNil", "internal/reflectlite.TypeOf", "(internal/reflectlite.Value).Elem", "(internal/reflectlite.Value).Set"], unfollowed := true, recurses := true, named := ["errors.errorType"], apart := false, laid := [("errors.errorType", laid_errors_errorType)] }
def CrcGoodSaid : Prop := crcGoodRow.holds Tryd.pinned (OpenSpec.ofChange crcGoodSpec)

/-- ITS FALSE NEIGHBOUR: 'it returns false'. Refute it at one input. -/
def crcGoodWrong : ChangeSpec := { name := "crcGood", fn := fun _ => fun
  | [d1, d2] => { results := [.lit (.bool false)], args := [d1, d2] }
  | _ => none }
def CrcGoodWrongFalsely : Prop := crcGoodRow.holds Tryd.pinned (OpenSpec.ofChange crcGoodWrong)

/-- 'platterholdtop.TopWords': WHATEVER THE INPUT: true; the input reads as it did. -/
def topWordsSpec : ChangeSpec := { name := "topWords", fn := fun _ => fun
  | [d1, d2, d3, d4] => { results := [.lit (.bool true)], args := [d1, d2, d3, d4] }
  | _ => none }
def topWordsRow : OpenClaim := { program := "ytfkbbmomanaabaadoor", sum := "12b24452f3ee3bdf4c6adede8a545405b7968409b84320b1af945a354c2554fc", func := "platterhold/platterholdtop.TopWords", spec := "topWords", named := ["platterhold/hamming.checks"], apart := false, laid := [("platterhold/hamming.checks", laid_platterhold_hamming_checks)] }
def TopWordsSaid : Prop := topWordsRow.holds Tryd.pinned (OpenSpec.ofChange topWordsSpec)

/-- ITS FALSE NEIGHBOUR: 'it returns false'. Refute it at one input. -/
def topWordsWrong : ChangeSpec := { name := "topWords", fn := fun _ => fun
  | [d1, d2, d3, d4] => { results := [.lit (.bool false)], args := [d1, d2, d3, d4] }
  | _ => none }
def TopWordsWrongFalsely : Prop := topWordsRow.holds Tryd.pinned (OpenSpec.ofChange topWordsWrong)

/- THE SECOND FORM. 'bulk': how many values and letters a reading holds, each counted each time it is reached (what is shared counts as often as it is met; a slice's spare places count too). A statement '..UptoSaid' is the law's where the arguments, and the package variables that the reading takes, are together of bulk at most 1048576: NARROWER than '..Said'. Prove '..Said' where nothing that the law and all that it calls make is longer than what came in: it says more and counts as full. Else prove '..UptoSaid'. A law counts once. -/
mutual
def uptoBulk {H : Type} : DataW H → Nat
  | .lit (.string bytes) => bytes.length + 1
  | .lit _ => 1
  | .nil => 1
  | .ptr d => uptoBulk d + 1
  | .slice elems spare => uptoBulkAll elems + uptoBulkAll spare + 1
  | .agg parts => uptoBulkAll parts + 1
  | .iface _ d => uptoBulk d + 1
  | .map entries => uptoBulkEntries entries + 1
  | .held _ => 1
def uptoBulkAll {H : Type} : List (DataW H) → Nat
  | [] => 0
  | d :: r => uptoBulk d + uptoBulkAll r
def uptoBulkEntries {H : Type} : List (Lit × DataW H) → Nat
  | [] => 0
  | x :: r => uptoBulkEntry x + uptoBulkEntries r
def uptoBulkEntry {H : Type} : Lit × DataW H → Nat
  | (.string bytes, d) => bytes.length + uptoBulk d + 1
  | (_, d) => uptoBulk d + 1
 end
def uptoSmall : (H : Type) → List (DataW H) → Bool := fun _ ds => decide (uptoBulkAll ds ≤ 1048576)
def OpenSpec.upto (s : _root_.Go.ChangeSpec) : _root_.Go.OpenSpec := { _root_.Go.OpenSpec.ofChange s with cond := some uptoSmall }

/-- 'platterholdlaw1.HammingFix', WHERE WHAT IT READS IS OF BULK AT MOST 1048576: true; the input reads as it did. -/
def hammingFixUptoRow : OpenClaim := { program := "ytfkbbmomanaabaadoor", sum := "12b24452f3ee3bdf4c6adede8a545405b7968409b84320b1af945a354c2554fc", func := "platterhold/platterholdlaw1.HammingFix", spec := "hammingFix", named := ["platterhold/hamming.checks"], apart := false, laid := [("platterhold/hamming.checks", laid_platterhold_hamming_checks)], narrowed := true }
def HammingFixUptoSaid : Prop := hammingFixUptoRow.holds Tryd.pinned (OpenSpec.upto hammingFixSpec)

/-- 'platterholdlaw1.HammingApart', WHERE WHAT IT READS IS OF BULK AT MOST 1048576: true; the input reads as it did. -/
def hammingApartUptoRow : OpenClaim := { program := "ytfkbbmomanaabaadoor", sum := "12b24452f3ee3bdf4c6adede8a545405b7968409b84320b1af945a354c2554fc", func := "platterhold/platterholdlaw1.HammingApart", spec := "hammingApart", named := ["platterhold/hamming.checks"], apart := false, laid := [("platterhold/hamming.checks", laid_platterhold_hamming_checks)], narrowed := true }
def HammingApartUptoSaid : Prop := hammingApartUptoRow.holds Tryd.pinned (OpenSpec.upto hammingApartSpec)

/-- 'platterholdlaw1.HammingSays', WHERE WHAT IT READS IS OF BULK AT MOST 1048576: true; the input reads as it did. -/
def hammingSaysUptoRow : OpenClaim := { program := "ytfkbbmomanaabaadoor", sum := "12b24452f3ee3bdf4c6adede8a545405b7968409b84320b1af945a354c2554fc", func := "platterhold/platterholdlaw1.HammingSays", spec := "hammingSays", inPlace := ["internal/reflectlite.ValueOf", "(internal/reflectlite.Value).Type", "(internal/reflectlite.Value).IsNil", "internal/reflectlite.TypeOf", "(internal/reflectlite.Value).Elem", "(internal/reflectlite.Value).Set"], unfollowed := true, recurses := true, named := ["platterhold/hamming.checks", "errors.errorType"], apart := false, laid := [("errors.errorType", laid_errors_errorType), ("platterhold/hamming.checks", laid_platterhold_hamming_checks)], narrowed := true }
def HammingSaysUptoSaid : Prop := hammingSaysUptoRow.holds Tryd.pinned (OpenSpec.upto hammingSaysSpec)

/-- 'platterholdlaw1.HammingPerfect', WHERE WHAT IT READS IS OF BULK AT MOST 1048576: true; the input reads as it did. -/
def hammingPerfectUptoRow : OpenClaim := { program := "ytfkbbmomanaabaadoor", sum := "12b24452f3ee3bdf4c6adede8a545405b7968409b84320b1af945a354c2554fc", func := "platterhold/platterholdlaw1.HammingPerfect", spec := "hammingPerfect", inPlace := ["internal/reflectlite.ValueOf", "(internal/reflectlite.Value).Type", "(internal/reflectlite.Value).IsNil", "internal/reflectlite.TypeOf", "(internal/reflectlite.Value).Elem", "(internal/reflectlite.Value).Set"], unfollowed := true, recurses := true, named := ["platterhold/hamming.checks", "errors.errorType"], apart := false, laid := [("errors.errorType", laid_errors_errorType), ("platterhold/hamming.checks", laid_platterhold_hamming_checks)], narrowed := true }
def HammingPerfectUptoSaid : Prop := hammingPerfectUptoRow.holds Tryd.pinned (OpenSpec.upto hammingPerfectSpec)

/-- 'platterholdlaw1.CrcSays', WHERE WHAT IT READS IS OF BULK AT MOST 1048576: true; the input reads as it did. -/
def crcSaysUptoRow : OpenClaim := { program := "ytfkbbmomanaabaadoor", sum := "12b24452f3ee3bdf4c6adede8a545405b7968409b84320b1af945a354c2554fc", func := "platterhold/platterholdlaw1.CrcSays", spec := "crcSays", inPlace := ["internal/reflectlite.ValueOf", "(internal/reflectlite.Value).Type", "(internal/reflectlite.Value).IsNil", "internal/reflectlite.TypeOf", "(internal/reflectlite.Value).Elem", "(internal/reflectlite.Value).Set"], unfollowed := true, recurses := true, named := ["errors.errorType"], apart := false, laid := [("errors.errorType", laid_errors_errorType)], narrowed := true }
def CrcSaysUptoSaid : Prop := crcSaysUptoRow.holds Tryd.pinned (OpenSpec.upto crcSaysSpec)

/-- 'platterholdlaw1.CrcGood', WHERE WHAT IT READS IS OF BULK AT MOST 1048576: true; the input reads as it did. -/
def crcGoodUptoRow : OpenClaim := { program := "ytfkbbmomanaabaadoor", sum := "12b24452f3ee3bdf4c6adede8a545405b7968409b84320b1af945a354c2554fc", func := "platterhold/platterholdlaw1.CrcGood", spec := "crcGood", inPlace := ["internal/reflectlite.ValueOf", "(internal/reflectlite.Value).Type", "(internal/reflectlite.Value).IsNil", "internal/reflectlite.TypeOf", "(internal/reflectlite.Value).Elem", "(internal/reflectlite.Value).Set"], unfollowed := true, recurses := true, named := ["errors.errorType"], apart := false, laid := [("errors.errorType", laid_errors_errorType)], narrowed := true }
def CrcGoodUptoSaid : Prop := crcGoodUptoRow.holds Tryd.pinned (OpenSpec.upto crcGoodSpec)

/-- 'platterholdtop.TopWords', WHERE WHAT IT READS IS OF BULK AT MOST 1048576: true; the input reads as it did. -/
def topWordsUptoRow : OpenClaim := { program := "ytfkbbmomanaabaadoor", sum := "12b24452f3ee3bdf4c6adede8a545405b7968409b84320b1af945a354c2554fc", func := "platterhold/platterholdtop.TopWords", spec := "topWords", named := ["platterhold/hamming.checks"], apart := false, laid := [("platterhold/hamming.checks", laid_platterhold_hamming_checks)], narrowed := true }
def TopWordsUptoSaid : Prop := topWordsUptoRow.holds Tryd.pinned (OpenSpec.upto topWordsSpec)

end Rows
end Go.Proofs.YtfkbbmomanaabaaDoor
