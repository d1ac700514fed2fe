/-
  No cell of these rows narrows 'for every input' (looked for: loops, veiled, ifaces, maps, wideKeys, modest, calm, conditions, laid).
  DERIVED. THE GIVEN ROWS OF THIS SEAT. 9 by the template 'for every input the law returns true; each argument reads behind the call as it read before'; 0 by the template 'total and deterministic' (their statements: YtpleidblnjphmaaTotals.lean).
  GIVEN WITH THE SEED: the statements are not yours to turn. If you find one false, say at which input.
  Laid BY PROGRAM, IN A SANDBOX (cutbox-rows.mjs): the forced cells as the released guide's own fill.sh prints them over the translation 06e3bf5db7f595f1… (all of the seat's roots in one cut). By AI agents, Wed Nov 11 2026. No macro, syntax, notation, axiom, sorry.
-/
import Derived.Test.YtpleidblnjphmaaChecked
import GoSem.Claim
import GoSem.ClaimJoined
import GoSem.ClaimMapViews
import Derived.JoinedTies
import Derived.KernelRfl
namespace Go.Proofs.Ytpleidblnjphmaa
/- THE CELL 'sum', in the pinned program and in every row, IS THE sha256 OF THE DUMP (.gsa) THAT YtpleidblnjphmaaProg.lean LOADS. Nothing in Lean hashes anything: it is a label: what it is worth is what the hold of that sum in a sandbox is worth. -/
noncomputable def Try.pinned : Pinned := { name := "ytpleidblnjphmaa", sum := "06e3bf5db7f595f19ab061efc8b7a4ed9a52eeb45421eea3c54ec4b7782be329", checked := Try.checked }
namespace Rows
def none {H : Type} : Left H := { results := [], args := [] }

/-- 'platterholdlaw1.MerkleLong': WHATEVER THE INPUT: true; the input reads as it did. -/
def merkleLongSpec : ChangeSpec := { name := "merkleLong", fn := fun _ => fun
  | [d1, d2] => { results := [.lit (.bool true)], args := [d1, d2] }
  | _ => none }
def merkleLongRow : OpenClaim := { program := "ytpleidblnjphmaa", sum := "06e3bf5db7f595f19ab061efc8b7a4ed9a52eeb45421eea3c54ec4b7782be329", func := "platterhold/platterholdlaw1.MerkleLong", spec := "merkleLong", unfollowed := true, recurses := true, apart := false }
def MerkleLongSaid : Prop := merkleLongRow.holds Try.pinned (OpenSpec.ofChange merkleLongSpec)

/-- ITS FALSE NEIGHBOUR: 'it returns false'. Refute it at one input. -/
def merkleLongWrong : ChangeSpec := { name := "merkleLong", fn := fun _ => fun
  | [d1, d2] => { results := [.lit (.bool false)], args := [d1, d2] }
  | _ => none }
def MerkleLongWrongFalsely : Prop := merkleLongRow.holds Try.pinned (OpenSpec.ofChange merkleLongWrong)

/-- 'platterholdlaw1.MerkleWay': WHATEVER THE INPUT: true; the input reads as it did. -/
def merkleWaySpec : ChangeSpec := { name := "merkleWay", fn := fun _ => fun
  | [d1, d2] => { results := [.lit (.bool true)], args := [d1, d2] }
  | _ => none }
def merkleWayRow : OpenClaim := { program := "ytpleidblnjphmaa", sum := "06e3bf5db7f595f19ab061efc8b7a4ed9a52eeb45421eea3c54ec4b7782be329", func := "platterhold/platterholdlaw1.MerkleWay", spec := "merkleWay", unfollowed := true, recurses := true, apart := false }
def MerkleWaySaid : Prop := merkleWayRow.holds Try.pinned (OpenSpec.ofChange merkleWaySpec)

/-- ITS FALSE NEIGHBOUR: 'it returns false'. Refute it at one input. -/
def merkleWayWrong : ChangeSpec := { name := "merkleWay", fn := fun _ => fun
  | [d1, d2] => { results := [.lit (.bool false)], args := [d1, d2] }
  | _ => none }
def MerkleWayWrongFalsely : Prop := merkleWayRow.holds Try.pinned (OpenSpec.ofChange merkleWayWrong)

/-- 'platterholdlaw1.MerkleChange': WHATEVER THE INPUT: true; the input reads as it did. -/
def merkleChangeSpec : ChangeSpec := { name := "merkleChange", fn := fun _ => fun
  | [d1, d2, d3] => { results := [.lit (.bool true)], args := [d1, d2, d3] }
  | _ => none }
def merkleChangeRow : OpenClaim := { program := "ytpleidblnjphmaa", sum := "06e3bf5db7f595f19ab061efc8b7a4ed9a52eeb45421eea3c54ec4b7782be329", func := "platterhold/platterholdlaw1.MerkleChange", spec := "merkleChange", unfollowed := true, recurses := true, apart := false }
def MerkleChangeSaid : Prop := merkleChangeRow.holds Try.pinned (OpenSpec.ofChange merkleChangeSpec)

/-- ITS FALSE NEIGHBOUR: 'it returns false'. Refute it at one input. -/
def merkleChangeWrong : ChangeSpec := { name := "merkleChange", fn := fun _ => fun
  | [d1, d2, d3] => { results := [.lit (.bool false)], args := [d1, d2, d3] }
  | _ => none }
def MerkleChangeWrongFalsely : Prop := merkleChangeRow.holds Try.pinned (OpenSpec.ofChange merkleChangeWrong)

/-- 'platterholdtop.TopSums': WHATEVER THE INPUT: true; the input reads as it did. -/
def topSumsSpec : ChangeSpec := { name := "topSums", fn := fun _ => fun
  | [d1, d2] => { results := [.lit (.bool true)], args := [d1, d2] }
  | _ => none }
def topSumsRow : OpenClaim := { program := "ytpleidblnjphmaa", sum := "06e3bf5db7f595f19ab061efc8b7a4ed9a52eeb45421eea3c54ec4b7782be329", func := "platterhold/platterholdtop.TopSums", spec := "topSums", unfollowed := true, recurses := true, apart := false }
def TopSumsSaid : Prop := topSumsRow.holds Try.pinned (OpenSpec.ofChange topSumsSpec)

/-- ITS FALSE NEIGHBOUR: 'it returns false'. Refute it at one input. -/
def topSumsWrong : ChangeSpec := { name := "topSums", fn := fun _ => fun
  | [d1, d2] => { results := [.lit (.bool false)], args := [d1, d2] }
  | _ => none }
def TopSumsWrongFalsely : Prop := topSumsRow.holds Try.pinned (OpenSpec.ofChange topSumsWrong)

/-- 'platterholdlaw1.HeadSweep': WHATEVER THE INPUT: true; the input reads as it did. -/
def headSweepSpec : ChangeSpec := { name := "headSweep", fn := fun _ => fun
  | [d1, d2, d3] => { results := [.lit (.bool true)], args := [d1, d2, d3] }
  | _ => none }
def headSweepRow : OpenClaim := { program := "ytpleidblnjphmaa", sum := "06e3bf5db7f595f19ab061efc8b7a4ed9a52eeb45421eea3c54ec4b7782be329", func := "platterhold/platterholdlaw1.HeadSweep", spec := "headSweep", unfollowed := true, recurses := true, apart := false }
def HeadSweepSaid : Prop := headSweepRow.holds Try.pinned (OpenSpec.ofChange headSweepSpec)

/-- ITS FALSE NEIGHBOUR: 'it returns false'. Refute it at one input. -/
def headSweepWrong : ChangeSpec := { name := "headSweep", fn := fun _ => fun
  | [d1, d2, d3] => { results := [.lit (.bool false)], args := [d1, d2, d3] }
  | _ => none }
def HeadSweepWrongFalsely : Prop := headSweepRow.holds Try.pinned (OpenSpec.ofChange headSweepWrong)

/-- 'platterholdlaw1.HeadMirror': WHATEVER THE INPUT: true; the input reads as it did. -/
def headMirrorSpec : ChangeSpec := { name := "headMirror", fn := fun _ => fun
  | [d1, d2, d3] => { results := [.lit (.bool true)], args := [d1, d2, d3] }
  | _ => none }
def headMirrorRow : OpenClaim := { program := "ytpleidblnjphmaa", sum := "06e3bf5db7f595f19ab061efc8b7a4ed9a52eeb45421eea3c54ec4b7782be329", func := "platterhold/platterholdlaw1.HeadMirror", spec := "headMirror", unfollowed := true, recurses := true, apart := false }
def HeadMirrorSaid : Prop := headMirrorRow.holds Try.pinned (OpenSpec.ofChange headMirrorSpec)

/-- ITS FALSE NEIGHBOUR: 'it returns false'. Refute it at one input. -/
def headMirrorWrong : ChangeSpec := { name := "headMirror", fn := fun _ => fun
  | [d1, d2, d3] => { results := [.lit (.bool false)], args := [d1, d2, d3] }
  | _ => none }
def HeadMirrorWrongFalsely : Prop := headMirrorRow.holds Try.pinned (OpenSpec.ofChange headMirrorWrong)

/-- 'platterholdlaw1.HeadNear': WHATEVER THE INPUT: true; the input reads as it did. -/
def headNearSpec : ChangeSpec := { name := "headNear", fn := fun _ => fun
  | [d1, d2] => { results := [.lit (.bool true)], args := [d1, d2] }
  | _ => none }
def headNearRow : OpenClaim := { program := "ytpleidblnjphmaa", sum := "06e3bf5db7f595f19ab061efc8b7a4ed9a52eeb45421eea3c54ec4b7782be329", func := "platterhold/platterholdlaw1.HeadNear", spec := "headNear", unfollowed := true, recurses := true, apart := false }
def HeadNearSaid : Prop := headNearRow.holds Try.pinned (OpenSpec.ofChange headNearSpec)

/-- ITS FALSE NEIGHBOUR: 'it returns false'. Refute it at one input. -/
def headNearWrong : ChangeSpec := { name := "headNear", fn := fun _ => fun
  | [d1, d2] => { results := [.lit (.bool false)], args := [d1, d2] }
  | _ => none }
def HeadNearWrongFalsely : Prop := headNearRow.holds Try.pinned (OpenSpec.ofChange headNearWrong)

/-- 'platterholdlaw1.HeadOnce': WHATEVER THE INPUT: true; the input reads as it did. -/
def headOnceSpec : ChangeSpec := { name := "headOnce", fn := fun _ => fun
  | [d1, d2, d3] => { results := [.lit (.bool true)], args := [d1, d2, d3] }
  | _ => none }
def headOnceRow : OpenClaim := { program := "ytpleidblnjphmaa", sum := "06e3bf5db7f595f19ab061efc8b7a4ed9a52eeb45421eea3c54ec4b7782be329", func := "platterhold/platterholdlaw1.HeadOnce", spec := "headOnce", unfollowed := true, recurses := true, apart := false }
def HeadOnceSaid : Prop := headOnceRow.holds Try.pinned (OpenSpec.ofChange headOnceSpec)

/-- ITS FALSE NEIGHBOUR: 'it returns false'. Refute it at one input. -/
def headOnceWrong : ChangeSpec := { name := "headOnce", fn := fun _ => fun
  | [d1, d2, d3] => { results := [.lit (.bool false)], args := [d1, d2, d3] }
  | _ => none }
def HeadOnceWrongFalsely : Prop := headOnceRow.holds Try.pinned (OpenSpec.ofChange headOnceWrong)

/-- 'platterholdtop.TopArm': WHATEVER THE INPUT: true; the input reads as it did. -/
def topArmSpec : ChangeSpec := { name := "topArm", fn := fun _ => fun
  | [d1, d2, d3] => { results := [.lit (.bool true)], args := [d1, d2, d3] }
  | _ => none }
def topArmRow : OpenClaim := { program := "ytpleidblnjphmaa", sum := "06e3bf5db7f595f19ab061efc8b7a4ed9a52eeb45421eea3c54ec4b7782be329", func := "platterhold/platterholdtop.TopArm", spec := "topArm", unfollowed := true, recurses := true, apart := false }
def TopArmSaid : Prop := topArmRow.holds Try.pinned (OpenSpec.ofChange topArmSpec)

/-- ITS FALSE NEIGHBOUR: 'it returns false'. Refute it at one input. -/
def topArmWrong : ChangeSpec := { name := "topArm", fn := fun _ => fun
  | [d1, d2, d3] => { results := [.lit (.bool false)], args := [d1, d2, d3] }
  | _ => none }
def TopArmWrongFalsely : Prop := topArmRow.holds Try.pinned (OpenSpec.ofChange topArmWrong)

/- THE SECOND FORM. 'bulk': how many values and letters a reading holds, each counted each time it is reached (what is shared counts as often as it is met; a slice's spare places count too). A statement '..UptoSaid' is the law's where the arguments, and the package variables that the reading takes, are together of bulk at most 1048576: NARROWER than '..Said'. Prove '..Said' where nothing that the law and all that it calls make is longer than what came in: it says more and counts as full. Else prove '..UptoSaid'. A law counts once. -/
mutual
def uptoBulk {H : Type} : DataW H → Nat
  | .lit (.string bytes) => bytes.length + 1
  | .lit _ => 1
  | .nil => 1
  | .ptr d => uptoBulk d + 1
  | .slice elems spare => uptoBulkAll elems + uptoBulkAll spare + 1
  | .agg parts => uptoBulkAll parts + 1
  | .iface _ d => uptoBulk d + 1
  | .map entries => uptoBulkEntries entries + 1
  | .held _ => 1
def uptoBulkAll {H : Type} : List (DataW H) → Nat
  | [] => 0
  | d :: r => uptoBulk d + uptoBulkAll r
def uptoBulkEntries {H : Type} : List (Lit × DataW H) → Nat
  | [] => 0
  | x :: r => uptoBulkEntry x + uptoBulkEntries r
def uptoBulkEntry {H : Type} : Lit × DataW H → Nat
  | (.string bytes, d) => bytes.length + uptoBulk d + 1
  | (_, d) => uptoBulk d + 1
 end
def uptoSmall : (H : Type) → List (DataW H) → Bool := fun _ ds => decide (uptoBulkAll ds ≤ 1048576)
def OpenSpec.upto (s : _root_.Go.ChangeSpec) : _root_.Go.OpenSpec := { _root_.Go.OpenSpec.ofChange s with cond := some uptoSmall }

/-- 'platterholdlaw1.MerkleLong', WHERE WHAT IT READS IS OF BULK AT MOST 1048576: true; the input reads as it did. -/
def merkleLongUptoRow : OpenClaim := { program := "ytpleidblnjphmaa", sum := "06e3bf5db7f595f19ab061efc8b7a4ed9a52eeb45421eea3c54ec4b7782be329", func := "platterhold/platterholdlaw1.MerkleLong", spec := "merkleLong", unfollowed := true, recurses := true, apart := false, narrowed := true }
def MerkleLongUptoSaid : Prop := merkleLongUptoRow.holds Try.pinned (OpenSpec.upto merkleLongSpec)

/-- 'platterholdlaw1.MerkleWay', WHERE WHAT IT READS IS OF BULK AT MOST 1048576: true; the input reads as it did. -/
def merkleWayUptoRow : OpenClaim := { program := "ytpleidblnjphmaa", sum := "06e3bf5db7f595f19ab061efc8b7a4ed9a52eeb45421eea3c54ec4b7782be329", func := "platterhold/platterholdlaw1.MerkleWay", spec := "merkleWay", unfollowed := true, recurses := true, apart := false, narrowed := true }
def MerkleWayUptoSaid : Prop := merkleWayUptoRow.holds Try.pinned (OpenSpec.upto merkleWaySpec)

/-- 'platterholdlaw1.MerkleChange', WHERE WHAT IT READS IS OF BULK AT MOST 1048576: true; the input reads as it did. -/
def merkleChangeUptoRow : OpenClaim := { program := "ytpleidblnjphmaa", sum := "06e3bf5db7f595f19ab061efc8b7a4ed9a52eeb45421eea3c54ec4b7782be329", func := "platterhold/platterholdlaw1.MerkleChange", spec := "merkleChange", unfollowed := true, recurses := true, apart := false, narrowed := true }
def MerkleChangeUptoSaid : Prop := merkleChangeUptoRow.holds Try.pinned (OpenSpec.upto merkleChangeSpec)

/-- 'platterholdtop.TopSums', WHERE WHAT IT READS IS OF BULK AT MOST 1048576: true; the input reads as it did. -/
def topSumsUptoRow : OpenClaim := { program := "ytpleidblnjphmaa", sum := "06e3bf5db7f595f19ab061efc8b7a4ed9a52eeb45421eea3c54ec4b7782be329", func := "platterhold/platterholdtop.TopSums", spec := "topSums", unfollowed := true, recurses := true, apart := false, narrowed := true }
def TopSumsUptoSaid : Prop := topSumsUptoRow.holds Try.pinned (OpenSpec.upto topSumsSpec)

/-- 'platterholdlaw1.HeadSweep', WHERE WHAT IT READS IS OF BULK AT MOST 1048576: true; the input reads as it did. -/
def headSweepUptoRow : OpenClaim := { program := "ytpleidblnjphmaa", sum := "06e3bf5db7f595f19ab061efc8b7a4ed9a52eeb45421eea3c54ec4b7782be329", func := "platterhold/platterholdlaw1.HeadSweep", spec := "headSweep", unfollowed := true, recurses := true, apart := false, narrowed := true }
def HeadSweepUptoSaid : Prop := headSweepUptoRow.holds Try.pinned (OpenSpec.upto headSweepSpec)

/-- 'platterholdlaw1.HeadMirror', WHERE WHAT IT READS IS OF BULK AT MOST 1048576: true; the input reads as it did. -/
def headMirrorUptoRow : OpenClaim := { program := "ytpleidblnjphmaa", sum := "06e3bf5db7f595f19ab061efc8b7a4ed9a52eeb45421eea3c54ec4b7782be329", func := "platterhold/platterholdlaw1.HeadMirror", spec := "headMirror", unfollowed := true, recurses := true, apart := false, narrowed := true }
def HeadMirrorUptoSaid : Prop := headMirrorUptoRow.holds Try.pinned (OpenSpec.upto headMirrorSpec)

/-- 'platterholdlaw1.HeadNear', WHERE WHAT IT READS IS OF BULK AT MOST 1048576: true; the input reads as it did. -/
def headNearUptoRow : OpenClaim := { program := "ytpleidblnjphmaa", sum := "06e3bf5db7f595f19ab061efc8b7a4ed9a52eeb45421eea3c54ec4b7782be329", func := "platterhold/platterholdlaw1.HeadNear", spec := "headNear", unfollowed := true, recurses := true, apart := false, narrowed := true }
def HeadNearUptoSaid : Prop := headNearUptoRow.holds Try.pinned (OpenSpec.upto headNearSpec)

/-- 'platterholdlaw1.HeadOnce', WHERE WHAT IT READS IS OF BULK AT MOST 1048576: true; the input reads as it did. -/
def headOnceUptoRow : OpenClaim := { program := "ytpleidblnjphmaa", sum := "06e3bf5db7f595f19ab061efc8b7a4ed9a52eeb45421eea3c54ec4b7782be329", func := "platterhold/platterholdlaw1.HeadOnce", spec := "headOnce", unfollowed := true, recurses := true, apart := false, narrowed := true }
def HeadOnceUptoSaid : Prop := headOnceUptoRow.holds Try.pinned (OpenSpec.upto headOnceSpec)

/-- 'platterholdtop.TopArm', WHERE WHAT IT READS IS OF BULK AT MOST 1048576: true; the input reads as it did. -/
def topArmUptoRow : OpenClaim := { program := "ytpleidblnjphmaa", sum := "06e3bf5db7f595f19ab061efc8b7a4ed9a52eeb45421eea3c54ec4b7782be329", func := "platterhold/platterholdtop.TopArm", spec := "topArm", unfollowed := true, recurses := true, apart := false, narrowed := true }
def TopArmUptoSaid : Prop := topArmUptoRow.holds Try.pinned (OpenSpec.upto topArmSpec)

end Rows
end Go.Proofs.Ytpleidblnjphmaa
