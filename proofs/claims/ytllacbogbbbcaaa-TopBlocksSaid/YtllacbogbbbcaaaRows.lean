/-
  No cell of these rows narrows 'for every input' (looked for: loops, veiled, ifaces, maps, wideKeys, modest, calm, conditions, laid).
  DERIVED. THE GIVEN ROWS OF THIS SEAT. 7 by the template 'for every input the law returns true; each argument reads behind the call as it read before'; 0 by the template 'total and deterministic' (their statements: YtllacbogbbbcaaaTotals.lean).
  GIVEN WITH THE SEED: the statements are not yours to turn. If you find one false, say at which input.
  Laid BY PROGRAM, IN A SANDBOX (cutbox-rows.mjs): the forced cells as the released guide's own fill.sh prints them over the translation 3482353c5e348303… (all of the seat's roots in one cut). By AI agents, Wed Nov 11 2026. No macro, syntax, notation, axiom, sorry.
-/
import Derived.Test.YtllacbogbbbcaaaChecked
import GoSem.Claim
import GoSem.ClaimJoined
import GoSem.ClaimMapViews
import Derived.JoinedTies
import Derived.KernelRfl
namespace Go.Proofs.Ytllacbogbbbcaaa
/- THE CELL 'sum', in the pinned program and in every row, IS THE sha256 OF THE DUMP (.gsa) THAT YtllacbogbbbcaaaProg.lean LOADS. Nothing in Lean hashes anything: it is a label: what it is worth is what the hold of that sum in a sandbox is worth. -/
noncomputable def Try.pinned : Pinned := { name := "ytllacbogbbbcaaa", sum := "3482353c5e3483031aa7e5a9ddb75debecb3fc96b54f2034e4d2f2320c0ad3da", checked := Try.checked }
namespace Rows
def none {H : Type} : Left H := { results := [], args := [] }

/-- 'platterholdlaw1.Names': WHATEVER THE INPUT: true; the input reads as it did. -/
def namesSpec : ChangeSpec := { name := "names", fn := fun _ => fun
  | [] => { results := [.lit (.bool true)], args := [] }
  | _ => none }
def namesRow : OpenClaim := { program := "ytllacbogbbbcaaa", sum := "3482353c5e3483031aa7e5a9ddb75debecb3fc96b54f2034e4d2f2320c0ad3da", func := "platterhold/platterholdlaw1.Names", spec := "names", apart := false }
def NamesSaid : Prop := namesRow.holds Try.pinned (OpenSpec.ofChange namesSpec)

/-- ITS FALSE NEIGHBOUR: 'it returns false'. Refute it at one input. -/
def namesWrong : ChangeSpec := { name := "names", fn := fun _ => fun
  | [] => { results := [.lit (.bool false)], args := [] }
  | _ => none }
def NamesWrongFalsely : Prop := namesRow.holds Try.pinned (OpenSpec.ofChange namesWrong)

/-- 'platterholdlaw1.PlaceTables': WHATEVER THE INPUT: true; the input reads as it did. -/
def placeTablesSpec : ChangeSpec := { name := "placeTables", fn := fun _ => fun
  | [d] => { results := [.lit (.bool true)], args := [d] }
  | _ => none }
def placeTablesRow : OpenClaim := { program := "ytllacbogbbbcaaa", sum := "3482353c5e3483031aa7e5a9ddb75debecb3fc96b54f2034e4d2f2320c0ad3da", func := "platterhold/platterholdlaw1.PlaceTables", spec := "placeTables", apart := false }
def PlaceTablesSaid : Prop := placeTablesRow.holds Try.pinned (OpenSpec.ofChange placeTablesSpec)

/-- ITS FALSE NEIGHBOUR: 'it returns false'. Refute it at one input. -/
def placeTablesWrong : ChangeSpec := { name := "placeTables", fn := fun _ => fun
  | [d] => { results := [.lit (.bool false)], args := [d] }
  | _ => none }
def PlaceTablesWrongFalsely : Prop := placeTablesRow.holds Try.pinned (OpenSpec.ofChange placeTablesWrong)

/-- 'platterholdlaw1.PlaceBack': WHATEVER THE INPUT: true; the input reads as it did. -/
def placeBackSpec : ChangeSpec := { name := "placeBack", fn := fun _ => fun
  | [d1, d2] => { results := [.lit (.bool true)], args := [d1, d2] }
  | _ => none }
def placeBackRow : OpenClaim := { program := "ytllacbogbbbcaaa", sum := "3482353c5e3483031aa7e5a9ddb75debecb3fc96b54f2034e4d2f2320c0ad3da", func := "platterhold/platterholdlaw1.PlaceBack", spec := "placeBack", apart := false }
def PlaceBackSaid : Prop := placeBackRow.holds Try.pinned (OpenSpec.ofChange placeBackSpec)

/-- ITS FALSE NEIGHBOUR: 'it returns false'. Refute it at one input. -/
def placeBackWrong : ChangeSpec := { name := "placeBack", fn := fun _ => fun
  | [d1, d2] => { results := [.lit (.bool false)], args := [d1, d2] }
  | _ => none }
def PlaceBackWrongFalsely : Prop := placeBackRow.holds Try.pinned (OpenSpec.ofChange placeBackWrong)

/-- 'platterholdlaw1.ExtentOne': WHATEVER THE INPUT: true; the input reads as it did. -/
def extentOneSpec : ChangeSpec := { name := "extentOne", fn := fun _ => fun
  | [d1, d2] => { results := [.lit (.bool true)], args := [d1, d2] }
  | _ => none }
def extentOneRow : OpenClaim := { program := "ytllacbogbbbcaaa", sum := "3482353c5e3483031aa7e5a9ddb75debecb3fc96b54f2034e4d2f2320c0ad3da", func := "platterhold/platterholdlaw1.ExtentOne", spec := "extentOne", unfollowed := true, recurses := true, apart := false }
def ExtentOneSaid : Prop := extentOneRow.holds Try.pinned (OpenSpec.ofChange extentOneSpec)

/-- ITS FALSE NEIGHBOUR: 'it returns false'. Refute it at one input. -/
def extentOneWrong : ChangeSpec := { name := "extentOne", fn := fun _ => fun
  | [d1, d2] => { results := [.lit (.bool false)], args := [d1, d2] }
  | _ => none }
def ExtentOneWrongFalsely : Prop := extentOneRow.holds Try.pinned (OpenSpec.ofChange extentOneWrong)

/-- 'platterholdlaw1.ExtentSet': WHATEVER THE INPUT: true; the input reads as it did. -/
def extentSetSpec : ChangeSpec := { name := "extentSet", fn := fun _ => fun
  | [d1, d2, d3] => { results := [.lit (.bool true)], args := [d1, d2, d3] }
  | _ => none }
def extentSetRow : OpenClaim := { program := "ytllacbogbbbcaaa", sum := "3482353c5e3483031aa7e5a9ddb75debecb3fc96b54f2034e4d2f2320c0ad3da", func := "platterhold/platterholdlaw1.ExtentSet", spec := "extentSet", unfollowed := true, recurses := true, apart := false }
def ExtentSetSaid : Prop := extentSetRow.holds Try.pinned (OpenSpec.ofChange extentSetSpec)

/-- ITS FALSE NEIGHBOUR: 'it returns false'. Refute it at one input. -/
def extentSetWrong : ChangeSpec := { name := "extentSet", fn := fun _ => fun
  | [d1, d2, d3] => { results := [.lit (.bool false)], args := [d1, d2, d3] }
  | _ => none }
def ExtentSetWrongFalsely : Prop := extentSetRow.holds Try.pinned (OpenSpec.ofChange extentSetWrong)

/-- 'platterholdlaw1.ExtentSize': WHATEVER THE INPUT: true; the input reads as it did. -/
def extentSizeSpec : ChangeSpec := { name := "extentSize", fn := fun _ => fun
  | [d1, d2] => { results := [.lit (.bool true)], args := [d1, d2] }
  | _ => none }
def extentSizeRow : OpenClaim := { program := "ytllacbogbbbcaaa", sum := "3482353c5e3483031aa7e5a9ddb75debecb3fc96b54f2034e4d2f2320c0ad3da", func := "platterhold/platterholdlaw1.ExtentSize", spec := "extentSize", unfollowed := true, recurses := true, apart := false }
def ExtentSizeSaid : Prop := extentSizeRow.holds Try.pinned (OpenSpec.ofChange extentSizeSpec)

/-- ITS FALSE NEIGHBOUR: 'it returns false'. Refute it at one input. -/
def extentSizeWrong : ChangeSpec := { name := "extentSize", fn := fun _ => fun
  | [d1, d2] => { results := [.lit (.bool false)], args := [d1, d2] }
  | _ => none }
def ExtentSizeWrongFalsely : Prop := extentSizeRow.holds Try.pinned (OpenSpec.ofChange extentSizeWrong)

/-- 'platterholdtop.TopBlocks': WHATEVER THE INPUT: true; the input reads as it did. -/
def topBlocksSpec : ChangeSpec := { name := "topBlocks", fn := fun _ => fun
  | [d1, d2] => { results := [.lit (.bool true)], args := [d1, d2] }
  | _ => none }
def topBlocksRow : OpenClaim := { program := "ytllacbogbbbcaaa", sum := "3482353c5e3483031aa7e5a9ddb75debecb3fc96b54f2034e4d2f2320c0ad3da", func := "platterhold/platterholdtop.TopBlocks", spec := "topBlocks", unfollowed := true, recurses := true, apart := false }
def TopBlocksSaid : Prop := topBlocksRow.holds Try.pinned (OpenSpec.ofChange topBlocksSpec)

/-- ITS FALSE NEIGHBOUR: 'it returns false'. Refute it at one input. -/
def topBlocksWrong : ChangeSpec := { name := "topBlocks", fn := fun _ => fun
  | [d1, d2] => { results := [.lit (.bool false)], args := [d1, d2] }
  | _ => none }
def TopBlocksWrongFalsely : Prop := topBlocksRow.holds Try.pinned (OpenSpec.ofChange topBlocksWrong)

/- THE SECOND FORM. 'bulk': how many values and letters a reading holds, each counted each time it is reached (what is shared counts as often as it is met; a slice's spare places count too). A statement '..UptoSaid' is the law's where the arguments, and the package variables that the reading takes, are together of bulk at most 1048576: NARROWER than '..Said'. Prove '..Said' where nothing that the law and all that it calls make is longer than what came in: it says more and counts as full. Else prove '..UptoSaid'. A law counts once. -/
mutual
def uptoBulk {H : Type} : DataW H → Nat
  | .lit (.string bytes) => bytes.length + 1
  | .lit _ => 1
  | .nil => 1
  | .ptr d => uptoBulk d + 1
  | .slice elems spare => uptoBulkAll elems + uptoBulkAll spare + 1
  | .agg parts => uptoBulkAll parts + 1
  | .iface _ d => uptoBulk d + 1
  | .map entries => uptoBulkEntries entries + 1
  | .held _ => 1
def uptoBulkAll {H : Type} : List (DataW H) → Nat
  | [] => 0
  | d :: r => uptoBulk d + uptoBulkAll r
def uptoBulkEntries {H : Type} : List (Lit × DataW H) → Nat
  | [] => 0
  | x :: r => uptoBulkEntry x + uptoBulkEntries r
def uptoBulkEntry {H : Type} : Lit × DataW H → Nat
  | (.string bytes, d) => bytes.length + uptoBulk d + 1
  | (_, d) => uptoBulk d + 1
 end
def uptoSmall : (H : Type) → List (DataW H) → Bool := fun _ ds => decide (uptoBulkAll ds ≤ 1048576)
def OpenSpec.upto (s : _root_.Go.ChangeSpec) : _root_.Go.OpenSpec := { _root_.Go.OpenSpec.ofChange s with cond := some uptoSmall }

/-- 'platterholdlaw1.Names', WHERE WHAT IT READS IS OF BULK AT MOST 1048576: true; the input reads as it did. -/
def namesUptoRow : OpenClaim := { program := "ytllacbogbbbcaaa", sum := "3482353c5e3483031aa7e5a9ddb75debecb3fc96b54f2034e4d2f2320c0ad3da", func := "platterhold/platterholdlaw1.Names", spec := "names", apart := false, narrowed := true }
def NamesUptoSaid : Prop := namesUptoRow.holds Try.pinned (OpenSpec.upto namesSpec)

/-- 'platterholdlaw1.PlaceTables', WHERE WHAT IT READS IS OF BULK AT MOST 1048576: true; the input reads as it did. -/
def placeTablesUptoRow : OpenClaim := { program := "ytllacbogbbbcaaa", sum := "3482353c5e3483031aa7e5a9ddb75debecb3fc96b54f2034e4d2f2320c0ad3da", func := "platterhold/platterholdlaw1.PlaceTables", spec := "placeTables", apart := false, narrowed := true }
def PlaceTablesUptoSaid : Prop := placeTablesUptoRow.holds Try.pinned (OpenSpec.upto placeTablesSpec)

/-- 'platterholdlaw1.PlaceBack', WHERE WHAT IT READS IS OF BULK AT MOST 1048576: true; the input reads as it did. -/
def placeBackUptoRow : OpenClaim := { program := "ytllacbogbbbcaaa", sum := "3482353c5e3483031aa7e5a9ddb75debecb3fc96b54f2034e4d2f2320c0ad3da", func := "platterhold/platterholdlaw1.PlaceBack", spec := "placeBack", apart := false, narrowed := true }
def PlaceBackUptoSaid : Prop := placeBackUptoRow.holds Try.pinned (OpenSpec.upto placeBackSpec)

/-- 'platterholdlaw1.ExtentOne', WHERE WHAT IT READS IS OF BULK AT MOST 1048576: true; the input reads as it did. -/
def extentOneUptoRow : OpenClaim := { program := "ytllacbogbbbcaaa", sum := "3482353c5e3483031aa7e5a9ddb75debecb3fc96b54f2034e4d2f2320c0ad3da", func := "platterhold/platterholdlaw1.ExtentOne", spec := "extentOne", unfollowed := true, recurses := true, apart := false, narrowed := true }
def ExtentOneUptoSaid : Prop := extentOneUptoRow.holds Try.pinned (OpenSpec.upto extentOneSpec)

/-- 'platterholdlaw1.ExtentSet', WHERE WHAT IT READS IS OF BULK AT MOST 1048576: true; the input reads as it did. -/
def extentSetUptoRow : OpenClaim := { program := "ytllacbogbbbcaaa", sum := "3482353c5e3483031aa7e5a9ddb75debecb3fc96b54f2034e4d2f2320c0ad3da", func := "platterhold/platterholdlaw1.ExtentSet", spec := "extentSet", unfollowed := true, recurses := true, apart := false, narrowed := true }
def ExtentSetUptoSaid : Prop := extentSetUptoRow.holds Try.pinned (OpenSpec.upto extentSetSpec)

/-- 'platterholdlaw1.ExtentSize', WHERE WHAT IT READS IS OF BULK AT MOST 1048576: true; the input reads as it did. -/
def extentSizeUptoRow : OpenClaim := { program := "ytllacbogbbbcaaa", sum := "3482353c5e3483031aa7e5a9ddb75debecb3fc96b54f2034e4d2f2320c0ad3da", func := "platterhold/platterholdlaw1.ExtentSize", spec := "extentSize", unfollowed := true, recurses := true, apart := false, narrowed := true }
def ExtentSizeUptoSaid : Prop := extentSizeUptoRow.holds Try.pinned (OpenSpec.upto extentSizeSpec)

/-- 'platterholdtop.TopBlocks', WHERE WHAT IT READS IS OF BULK AT MOST 1048576: true; the input reads as it did. -/
def topBlocksUptoRow : OpenClaim := { program := "ytllacbogbbbcaaa", sum := "3482353c5e3483031aa7e5a9ddb75debecb3fc96b54f2034e4d2f2320c0ad3da", func := "platterhold/platterholdtop.TopBlocks", spec := "topBlocks", unfollowed := true, recurses := true, apart := false, narrowed := true }
def TopBlocksUptoSaid : Prop := topBlocksUptoRow.holds Try.pinned (OpenSpec.upto topBlocksSpec)

end Rows
end Go.Proofs.Ytllacbogbbbcaaa
