/-
  NARROWER THAN 'FOR EVERY INPUT', by the rows' own cells (each row's printed sentence says how): PlaceSays: laid · ExtentSays: laid · BitmapFirst: laid · BitmapBack: laid · BitmapPlays: laid.
  DERIVED. THE GIVEN ROWS OF THIS SEAT. 5 by the template 'for every input the law returns true; each argument reads behind the call as it read before'; 0 by the template 'total and deterministic' (their statements: YtllacbogbbbcaaaDoorTotals.lean).
  GIVEN WITH THE SEED: the statements are not yours to turn. If you find one false, say at which input.
  Laid BY PROGRAM, IN A SANDBOX (cutbox-rows.mjs): the forced cells as the released guide's own fill.sh prints them over the translation c7c1a0513c798aa2… (all of the seat's roots in one cut). By AI agents, Wed Nov 11 2026. No macro, syntax, notation, axiom, sorry.
-/
import Derived.Test.YtllacbogbbbcaaaDoorChecked
import GoSem.Claim
import GoSem.ClaimJoined
import GoSem.ClaimMapViews
import Derived.JoinedTies
import Derived.KernelRfl
namespace Go.Proofs.YtllacbogbbbcaaaDoor
/- THE CELL 'sum', in the pinned program and in every row, IS THE sha256 OF THE DUMP (.gsa) THAT YtllacbogbbbcaaaDoorProg.lean LOADS. Nothing in Lean hashes anything: it is a label: what it is worth is what the hold of that sum in a sandbox is worth. -/
noncomputable def Tryd.pinned : Pinned := { name := "ytllacbogbbbcaaadoor", sum := "c7c1a0513c798aa29da726df7621dc91371542e81eaa91faf74e5a70e01ce99a", checked := Tryd.checked }
namespace Rows
def none {H : Type} : Left H := { results := [], args := [] }

/- WHAT THE LISTED PACKAGE-LEVEL VARIABLES READ AS WHEN THE CALL BEGINS. Each datum BY PROGRAM (the guide's laid-datum.mjs) off the statement by which the dump's own 'gosem.cut.vars' lays the variable. In a bare row this is a premise. The card (YtllacbogbbbcaaaDoorCards.lean) ties it to the program's text. -/
def laid_errors_errorType {H : Type} : DataW H := .iface "internal/reflectlite.rtype" (.agg [.ptr (.lit (.string [101, 114, 114, 111, 114]))])

/-- 'platterholdlaw1.PlaceSays': WHATEVER THE INPUT: true; the input reads as it did. -/
def placeSaysSpec : ChangeSpec := { name := "placeSays", fn := fun _ => fun
  | [d1, d2, d3] => { results := [.lit (.bool true)], args := [d1, d2, d3] }
  | _ => none }
def placeSaysRow : OpenClaim := { program := "ytllacbogbbbcaaadoor", sum := "c7c1a0513c798aa29da726df7621dc91371542e81eaa91faf74e5a70e01ce99a", func := "platterhold/platterholdlaw1.PlaceSays", spec := "placeSays", inPlace := ["internal/reflectlite.ValueOf", "(internal/reflectlite.Value).Type", "(internal/reflectlite.Value).IsNil", "internal/reflectlite.TypeOf", "(internal/reflectlite.Value).Elem", "(internal/reflectlite.Value).Set"], unfollowed := true, recurses := true, named := ["errors.errorType"], apart := false, laid := [("errors.errorType", laid_errors_errorType)] }
def PlaceSaysSaid : Prop := placeSaysRow.holds Tryd.pinned (OpenSpec.ofChange placeSaysSpec)

/-- ITS FALSE NEIGHBOUR: 'it returns false'. Refute it at one input. -/
def placeSaysWrong : ChangeSpec := { name := "placeSays", fn := fun _ => fun
  | [d1, d2, d3] => { results := [.lit (.bool false)], args := [d1, d2, d3] }
  | _ => none }
def PlaceSaysWrongFalsely : Prop := placeSaysRow.holds Tryd.pinned (OpenSpec.ofChange placeSaysWrong)

/-- 'platterholdlaw1.ExtentSays': WHATEVER THE INPUT: true; the input reads as it did. -/
def extentSaysSpec : ChangeSpec := { name := "extentSays", fn := fun _ => fun
  | [d1, d2, d3] => { results := [.lit (.bool true)], args := [d1, d2, d3] }
  | _ => none }
def extentSaysRow : OpenClaim := { program := "ytllacbogbbbcaaadoor", sum := "c7c1a0513c798aa29da726df7621dc91371542e81eaa91faf74e5a70e01ce99a", func := "platterhold/platterholdlaw1.ExtentSays", spec := "extentSays", inPlace := ["internal/reflectlite.ValueOf", "(internal/reflectlite.Value).Type", "(internal/reflectlite.Value).IsNil", "internal/reflectlite.TypeOf", "(internal/reflectlite.Value).Elem", "(internal/reflectlite.Value).Set"], unfollowed := true, recurses := true, named := ["errors.errorType"], apart := false, laid := [("errors.errorType", laid_errors_errorType)] }
def ExtentSaysSaid : Prop := extentSaysRow.holds Tryd.pinned (OpenSpec.ofChange extentSaysSpec)

/-- ITS FALSE NEIGHBOUR: 'it returns false'. Refute it at one input. -/
def extentSaysWrong : ChangeSpec := { name := "extentSays", fn := fun _ => fun
  | [d1, d2, d3] => { results := [.lit (.bool false)], args := [d1, d2, d3] }
  | _ => none }
def ExtentSaysWrongFalsely : Prop := extentSaysRow.holds Tryd.pinned (OpenSpec.ofChange extentSaysWrong)

/-- 'platterholdlaw1.BitmapFirst': WHATEVER THE INPUT: true; the input reads as it did. -/
def bitmapFirstSpec : ChangeSpec := { name := "bitmapFirst", fn := fun _ => fun
  | [d1, d2] => { results := [.lit (.bool true)], args := [d1, d2] }
  | _ => none }
def bitmapFirstRow : OpenClaim := { program := "ytllacbogbbbcaaadoor", sum := "c7c1a0513c798aa29da726df7621dc91371542e81eaa91faf74e5a70e01ce99a", func := "platterhold/platterholdlaw1.BitmapFirst", spec := "bitmapFirst", inPlace := ["internal/reflectlite.ValueOf", "(internal/reflectlite.Value).Type", "(internal/reflectlite.Value).IsNil", "internal/reflectlite.TypeOf", "(internal/reflectlite.Value).Elem", "(internal/reflectlite.Value).Set"], unfollowed := true, recurses := true, named := ["errors.errorType"], apart := false, laid := [("errors.errorType", laid_errors_errorType)] }
def BitmapFirstSaid : Prop := bitmapFirstRow.holds Tryd.pinned (OpenSpec.ofChange bitmapFirstSpec)

/-- ITS FALSE NEIGHBOUR: 'it returns false'. Refute it at one input. -/
def bitmapFirstWrong : ChangeSpec := { name := "bitmapFirst", fn := fun _ => fun
  | [d1, d2] => { results := [.lit (.bool false)], args := [d1, d2] }
  | _ => none }
def BitmapFirstWrongFalsely : Prop := bitmapFirstRow.holds Tryd.pinned (OpenSpec.ofChange bitmapFirstWrong)

/-- 'platterholdlaw1.BitmapBack': WHATEVER THE INPUT: true; the input reads as it did. -/
def bitmapBackSpec : ChangeSpec := { name := "bitmapBack", fn := fun _ => fun
  | [d1, d2] => { results := [.lit (.bool true)], args := [d1, d2] }
  | _ => none }
def bitmapBackRow : OpenClaim := { program := "ytllacbogbbbcaaadoor", sum := "c7c1a0513c798aa29da726df7621dc91371542e81eaa91faf74e5a70e01ce99a", func := "platterhold/platterholdlaw1.BitmapBack", spec := "bitmapBack", inPlace := ["internal/reflectlite.ValueOf", "(internal/reflectlite.Value).Type", "(internal/reflectlite.Value).IsNil", "internal/reflectlite.TypeOf", "(internal/reflectlite.Value).Elem", "(internal/reflectlite.Value).Set"], unfollowed := true, recurses := true, named := ["errors.errorType"], apart := false, laid := [("errors.errorType", laid_errors_errorType)] }
def BitmapBackSaid : Prop := bitmapBackRow.holds Tryd.pinned (OpenSpec.ofChange bitmapBackSpec)

/-- ITS FALSE NEIGHBOUR: 'it returns false'. Refute it at one input. -/
def bitmapBackWrong : ChangeSpec := { name := "bitmapBack", fn := fun _ => fun
  | [d1, d2] => { results := [.lit (.bool false)], args := [d1, d2] }
  | _ => none }
def BitmapBackWrongFalsely : Prop := bitmapBackRow.holds Tryd.pinned (OpenSpec.ofChange bitmapBackWrong)

/-- 'platterholdlaw1.BitmapPlays': WHATEVER THE INPUT: true; the input reads as it did. -/
def bitmapPlaysSpec : ChangeSpec := { name := "bitmapPlays", fn := fun _ => fun
  | [d] => { results := [.lit (.bool true)], args := [d] }
  | _ => none }
def bitmapPlaysRow : OpenClaim := { program := "ytllacbogbbbcaaadoor", sum := "c7c1a0513c798aa29da726df7621dc91371542e81eaa91faf74e5a70e01ce99a", func := "platterhold/platterholdlaw1.BitmapPlays", spec := "bitmapPlays", inPlace := ["internal/reflectlite.ValueOf", "(internal/reflectlite.Value).Type", "(internal/reflectlite.Value).IsNil", "internal/reflectlite.TypeOf", "(internal/reflectlite.Value).Elem", "(internal/reflectlite.Value).Set"], unfollowed := true, recurses := true, named := ["errors.errorType"], apart := false, laid := [("errors.errorType", laid_errors_errorType)] }
def BitmapPlaysSaid : Prop := bitmapPlaysRow.holds Tryd.pinned (OpenSpec.ofChange bitmapPlaysSpec)

/-- ITS FALSE NEIGHBOUR: 'it returns false'. Refute it at one input. -/
def bitmapPlaysWrong : ChangeSpec := { name := "bitmapPlays", fn := fun _ => fun
  | [d] => { results := [.lit (.bool false)], args := [d] }
  | _ => none }
def BitmapPlaysWrongFalsely : Prop := bitmapPlaysRow.holds Tryd.pinned (OpenSpec.ofChange bitmapPlaysWrong)

/- THE SECOND FORM. 'bulk': how many values and letters a reading holds, each counted each time it is reached (what is shared counts as often as it is met; a slice's spare places count too). A statement '..UptoSaid' is the law's where the arguments, and the package variables that the reading takes, are together of bulk at most 1048576: NARROWER than '..Said'. Prove '..Said' where nothing that the law and all that it calls make is longer than what came in: it says more and counts as full. Else prove '..UptoSaid'. A law counts once. -/
mutual
def uptoBulk {H : Type} : DataW H → Nat
  | .lit (.string bytes) => bytes.length + 1
  | .lit _ => 1
  | .nil => 1
  | .ptr d => uptoBulk d + 1
  | .slice elems spare => uptoBulkAll elems + uptoBulkAll spare + 1
  | .agg parts => uptoBulkAll parts + 1
  | .iface _ d => uptoBulk d + 1
  | .map entries => uptoBulkEntries entries + 1
  | .held _ => 1
def uptoBulkAll {H : Type} : List (DataW H) → Nat
  | [] => 0
  | d :: r => uptoBulk d + uptoBulkAll r
def uptoBulkEntries {H : Type} : List (Lit × DataW H) → Nat
  | [] => 0
  | x :: r => uptoBulkEntry x + uptoBulkEntries r
def uptoBulkEntry {H : Type} : Lit × DataW H → Nat
  | (.string bytes, d) => bytes.length + uptoBulk d + 1
  | (_, d) => uptoBulk d + 1
 end
def uptoSmall : (H : Type) → List (DataW H) → Bool := fun _ ds => decide (uptoBulkAll ds ≤ 1048576)
def OpenSpec.upto (s : _root_.Go.ChangeSpec) : _root_.Go.OpenSpec := { _root_.Go.OpenSpec.ofChange s with cond := some uptoSmall }

/-- 'platterholdlaw1.PlaceSays', WHERE WHAT IT READS IS OF BULK AT MOST 1048576: true; the input reads as it did. -/
def placeSaysUptoRow : OpenClaim := { program := "ytllacbogbbbcaaadoor", sum := "c7c1a0513c798aa29da726df7621dc91371542e81eaa91faf74e5a70e01ce99a", func := "platterhold/platterholdlaw1.PlaceSays", spec := "placeSays", inPlace := ["internal/reflectlite.ValueOf", "(internal/reflectlite.Value).Type", "(internal/reflectlite.Value).IsNil", "internal/reflectlite.TypeOf", "(internal/reflectlite.Value).Elem", "(internal/reflectlite.Value).Set"], unfollowed := true, recurses := true, named := ["errors.errorType"], apart := false, laid := [("errors.errorType", laid_errors_errorType)], narrowed := true }
def PlaceSaysUptoSaid : Prop := placeSaysUptoRow.holds Tryd.pinned (OpenSpec.upto placeSaysSpec)

/-- 'platterholdlaw1.ExtentSays', WHERE WHAT IT READS IS OF BULK AT MOST 1048576: true; the input reads as it did. -/
def extentSaysUptoRow : OpenClaim := { program := "ytllacbogbbbcaaadoor", sum := "c7c1a0513c798aa29da726df7621dc91371542e81eaa91faf74e5a70e01ce99a", func := "platterhold/platterholdlaw1.ExtentSays", spec := "extentSays", inPlace := ["internal/reflectlite.ValueOf", "(internal/reflectlite.Value).Type", "(internal/reflectlite.Value).IsNil", "internal/reflectlite.TypeOf", "(internal/reflectlite.Value).Elem", "(internal/reflectlite.Value).Set"], unfollowed := true, recurses := true, named := ["errors.errorType"], apart := false, laid := [("errors.errorType", laid_errors_errorType)], narrowed := true }
def ExtentSaysUptoSaid : Prop := extentSaysUptoRow.holds Tryd.pinned (OpenSpec.upto extentSaysSpec)

/-- 'platterholdlaw1.BitmapFirst', WHERE WHAT IT READS IS OF BULK AT MOST 1048576: true; the input reads as it did. -/
def bitmapFirstUptoRow : OpenClaim := { program := "ytllacbogbbbcaaadoor", sum := "c7c1a0513c798aa29da726df7621dc91371542e81eaa91faf74e5a70e01ce99a", func := "platterhold/platterholdlaw1.BitmapFirst", spec := "bitmapFirst", inPlace := ["internal/reflectlite.ValueOf", "(internal/reflectlite.Value).Type", "(internal/reflectlite.Value).IsNil", "internal/reflectlite.TypeOf", "(internal/reflectlite.Value).Elem", "(internal/reflectlite.Value).Set"], unfollowed := true, recurses := true, named := ["errors.errorType"], apart := false, laid := [("errors.errorType", laid_errors_errorType)], narrowed := true }
def BitmapFirstUptoSaid : Prop := bitmapFirstUptoRow.holds Tryd.pinned (OpenSpec.upto bitmapFirstSpec)

/-- 'platterholdlaw1.BitmapBack', WHERE WHAT IT READS IS OF BULK AT MOST 1048576: true; the input reads as it did. -/
def bitmapBackUptoRow : OpenClaim := { program := "ytllacbogbbbcaaadoor", sum := "c7c1a0513c798aa29da726df7621dc91371542e81eaa91faf74e5a70e01ce99a", func := "platterhold/platterholdlaw1.BitmapBack", spec := "bitmapBack", inPlace := ["internal/reflectlite.ValueOf", "(internal/reflectlite.Value).Type", "(internal/reflectlite.Value).IsNil", "internal/reflectlite.TypeOf", "(internal/reflectlite.Value).Elem", "(internal/reflectlite.Value).Set"], unfollowed := true, recurses := true, named := ["errors.errorType"], apart := false, laid := [("errors.errorType", laid_errors_errorType)], narrowed := true }
def BitmapBackUptoSaid : Prop := bitmapBackUptoRow.holds Tryd.pinned (OpenSpec.upto bitmapBackSpec)

/-- 'platterholdlaw1.BitmapPlays', WHERE WHAT IT READS IS OF BULK AT MOST 1048576: true; the input reads as it did. -/
def bitmapPlaysUptoRow : OpenClaim := { program := "ytllacbogbbbcaaadoor", sum := "c7c1a0513c798aa29da726df7621dc91371542e81eaa91faf74e5a70e01ce99a", func := "platterhold/platterholdlaw1.BitmapPlays", spec := "bitmapPlays", inPlace := ["internal/reflectlite.ValueOf", "(internal/reflectlite.Value).Type", "(internal/reflectlite.Value).IsNil", "internal/reflectlite.TypeOf", "(internal/reflectlite.Value).Elem", "(internal/reflectlite.Value).Set"], unfollowed := true, recurses := true, named := ["errors.errorType"], apart := false, laid := [("errors.errorType", laid_errors_errorType)], narrowed := true }
def BitmapPlaysUptoSaid : Prop := bitmapPlaysUptoRow.holds Tryd.pinned (OpenSpec.upto bitmapPlaysSpec)

end Rows
end Go.Proofs.YtllacbogbbbcaaaDoor
