/-
  No cell of these rows narrows 'for every input' (looked for: loops, veiled, ifaces, maps, wideKeys, modest, calm, conditions, laid).
  DERIVED. THE GIVEN ROWS OF THIS SEAT. 9 by the template 'for every input the law returns true; each argument reads behind the call as it read before'; 0 by the template 'total and deterministic' (their statements: YtdhfckdnfppieaaTotals.lean).
  GIVEN WITH THE SEED: the statements are not yours to turn. If you find one false, say at which input.
  Laid BY PROGRAM, IN A SANDBOX (cutbox-rows.mjs): the forced cells as the released guide's own fill.sh prints them over the translation 396e08c105991e07… (all of the seat's roots in one cut). By AI agents, Wed Nov 11 2026. No macro, syntax, notation, axiom, sorry.
-/
import Derived.Test.YtdhfckdnfppieaaChecked
import GoSem.Claim
import GoSem.ClaimJoined
import GoSem.ClaimMapViews
import Derived.JoinedTies
import Derived.KernelRfl
namespace Go.Proofs.Ytdhfckdnfppieaa
/- THE CELL 'sum', in the pinned program and in every row, IS THE sha256 OF THE DUMP (.gsa) THAT YtdhfckdnfppieaaProg.lean LOADS. Nothing in Lean hashes anything: it is a label: what it is worth is what the hold of that sum in a sandbox is worth. -/
noncomputable def Try.pinned : Pinned := { name := "ytdhfckdnfppieaa", sum := "396e08c105991e074bf648bb0fcb96d58faca31e6900e7a2b266c0a2ddb492ec", checked := Try.checked }
namespace Rows
def none {H : Type} : Left H := { results := [], args := [] }

/-- 'platterholdlaw1.GaloisField': WHATEVER THE INPUT: true; the input reads as it did. -/
def galoisFieldSpec : ChangeSpec := { name := "galoisField", fn := fun _ => fun
  | [d1, d2, d3] => { results := [.lit (.bool true)], args := [d1, d2, d3] }
  | _ => none }
def galoisFieldRow : OpenClaim := { program := "ytdhfckdnfppieaa", sum := "396e08c105991e074bf648bb0fcb96d58faca31e6900e7a2b266c0a2ddb492ec", func := "platterhold/platterholdlaw1.GaloisField", spec := "galoisField", apart := false }
def GaloisFieldSaid : Prop := galoisFieldRow.holds Try.pinned (OpenSpec.ofChange galoisFieldSpec)

/-- ITS FALSE NEIGHBOUR: 'it returns false'. Refute it at one input. -/
def galoisFieldWrong : ChangeSpec := { name := "galoisField", fn := fun _ => fun
  | [d1, d2, d3] => { results := [.lit (.bool false)], args := [d1, d2, d3] }
  | _ => none }
def GaloisFieldWrongFalsely : Prop := galoisFieldRow.holds Try.pinned (OpenSpec.ofChange galoisFieldWrong)

/-- 'platterholdlaw1.GaloisFermat': WHATEVER THE INPUT: true; the input reads as it did. -/
def galoisFermatSpec : ChangeSpec := { name := "galoisFermat", fn := fun _ => fun
  | [d1, d2, d3] => { results := [.lit (.bool true)], args := [d1, d2, d3] }
  | _ => none }
def galoisFermatRow : OpenClaim := { program := "ytdhfckdnfppieaa", sum := "396e08c105991e074bf648bb0fcb96d58faca31e6900e7a2b266c0a2ddb492ec", func := "platterhold/platterholdlaw1.GaloisFermat", spec := "galoisFermat", apart := false }
def GaloisFermatSaid : Prop := galoisFermatRow.holds Try.pinned (OpenSpec.ofChange galoisFermatSpec)

/-- ITS FALSE NEIGHBOUR: 'it returns false'. Refute it at one input. -/
def galoisFermatWrong : ChangeSpec := { name := "galoisFermat", fn := fun _ => fun
  | [d1, d2, d3] => { results := [.lit (.bool false)], args := [d1, d2, d3] }
  | _ => none }
def GaloisFermatWrongFalsely : Prop := galoisFermatRow.holds Try.pinned (OpenSpec.ofChange galoisFermatWrong)

/-- 'platterholdlaw1.GaloisRoots': WHATEVER THE INPUT: true; the input reads as it did. -/
def galoisRootsSpec : ChangeSpec := { name := "galoisRoots", fn := fun _ => fun
  | [d] => { results := [.lit (.bool true)], args := [d] }
  | _ => none }
def galoisRootsRow : OpenClaim := { program := "ytdhfckdnfppieaa", sum := "396e08c105991e074bf648bb0fcb96d58faca31e6900e7a2b266c0a2ddb492ec", func := "platterhold/platterholdlaw1.GaloisRoots", spec := "galoisRoots", unfollowed := true, recurses := true, apart := false }
def GaloisRootsSaid : Prop := galoisRootsRow.holds Try.pinned (OpenSpec.ofChange galoisRootsSpec)

/-- ITS FALSE NEIGHBOUR: 'it returns false'. Refute it at one input. -/
def galoisRootsWrong : ChangeSpec := { name := "galoisRoots", fn := fun _ => fun
  | [d] => { results := [.lit (.bool false)], args := [d] }
  | _ => none }
def GaloisRootsWrongFalsely : Prop := galoisRootsRow.holds Try.pinned (OpenSpec.ofChange galoisRootsWrong)

/-- 'platterholdlaw1.ReedAny': WHATEVER THE INPUT: true; the input reads as it did. -/
def reedAnySpec : ChangeSpec := { name := "reedAny", fn := fun _ => fun
  | [d1, d2, d3] => { results := [.lit (.bool true)], args := [d1, d2, d3] }
  | _ => none }
def reedAnyRow : OpenClaim := { program := "ytdhfckdnfppieaa", sum := "396e08c105991e074bf648bb0fcb96d58faca31e6900e7a2b266c0a2ddb492ec", func := "platterhold/platterholdlaw1.ReedAny", spec := "reedAny", apart := false }
def ReedAnySaid : Prop := reedAnyRow.holds Try.pinned (OpenSpec.ofChange reedAnySpec)

/-- ITS FALSE NEIGHBOUR: 'it returns false'. Refute it at one input. -/
def reedAnyWrong : ChangeSpec := { name := "reedAny", fn := fun _ => fun
  | [d1, d2, d3] => { results := [.lit (.bool false)], args := [d1, d2, d3] }
  | _ => none }
def ReedAnyWrongFalsely : Prop := reedAnyRow.holds Try.pinned (OpenSpec.ofChange reedAnyWrong)

/-- 'platterholdlaw1.ReedApart': WHATEVER THE INPUT: true; the input reads as it did. -/
def reedApartSpec : ChangeSpec := { name := "reedApart", fn := fun _ => fun
  | [d1, d2, d3] => { results := [.lit (.bool true)], args := [d1, d2, d3] }
  | _ => none }
def reedApartRow : OpenClaim := { program := "ytdhfckdnfppieaa", sum := "396e08c105991e074bf648bb0fcb96d58faca31e6900e7a2b266c0a2ddb492ec", func := "platterhold/platterholdlaw1.ReedApart", spec := "reedApart", apart := false }
def ReedApartSaid : Prop := reedApartRow.holds Try.pinned (OpenSpec.ofChange reedApartSpec)

/-- ITS FALSE NEIGHBOUR: 'it returns false'. Refute it at one input. -/
def reedApartWrong : ChangeSpec := { name := "reedApart", fn := fun _ => fun
  | [d1, d2, d3] => { results := [.lit (.bool false)], args := [d1, d2, d3] }
  | _ => none }
def ReedApartWrongFalsely : Prop := reedApartRow.holds Try.pinned (OpenSpec.ofChange reedApartWrong)

/-- 'platterholdlaw1.ReedSum': WHATEVER THE INPUT: true; the input reads as it did. -/
def reedSumSpec : ChangeSpec := { name := "reedSum", fn := fun _ => fun
  | [d1, d2, d3] => { results := [.lit (.bool true)], args := [d1, d2, d3] }
  | _ => none }
def reedSumRow : OpenClaim := { program := "ytdhfckdnfppieaa", sum := "396e08c105991e074bf648bb0fcb96d58faca31e6900e7a2b266c0a2ddb492ec", func := "platterhold/platterholdlaw1.ReedSum", spec := "reedSum", apart := false }
def ReedSumSaid : Prop := reedSumRow.holds Try.pinned (OpenSpec.ofChange reedSumSpec)

/-- ITS FALSE NEIGHBOUR: 'it returns false'. Refute it at one input. -/
def reedSumWrong : ChangeSpec := { name := "reedSum", fn := fun _ => fun
  | [d1, d2, d3] => { results := [.lit (.bool false)], args := [d1, d2, d3] }
  | _ => none }
def ReedSumWrongFalsely : Prop := reedSumRow.holds Try.pinned (OpenSpec.ofChange reedSumWrong)

/-- 'platterholdlaw1.ParityEven': WHATEVER THE INPUT: true; the input reads as it did. -/
def parityEvenSpec : ChangeSpec := { name := "parityEven", fn := fun _ => fun
  | [d] => { results := [.lit (.bool true)], args := [d] }
  | _ => none }
def parityEvenRow : OpenClaim := { program := "ytdhfckdnfppieaa", sum := "396e08c105991e074bf648bb0fcb96d58faca31e6900e7a2b266c0a2ddb492ec", func := "platterhold/platterholdlaw1.ParityEven", spec := "parityEven", apart := false }
def ParityEvenSaid : Prop := parityEvenRow.holds Try.pinned (OpenSpec.ofChange parityEvenSpec)

/-- ITS FALSE NEIGHBOUR: 'it returns false'. Refute it at one input. -/
def parityEvenWrong : ChangeSpec := { name := "parityEven", fn := fun _ => fun
  | [d] => { results := [.lit (.bool false)], args := [d] }
  | _ => none }
def ParityEvenWrongFalsely : Prop := parityEvenRow.holds Try.pinned (OpenSpec.ofChange parityEvenWrong)

/-- 'platterholdlaw1.ParitySmall': WHATEVER THE INPUT: true; the input reads as it did. -/
def paritySmallSpec : ChangeSpec := { name := "paritySmall", fn := fun _ => fun
  | [d1, d2, d3] => { results := [.lit (.bool true)], args := [d1, d2, d3] }
  | _ => none }
def paritySmallRow : OpenClaim := { program := "ytdhfckdnfppieaa", sum := "396e08c105991e074bf648bb0fcb96d58faca31e6900e7a2b266c0a2ddb492ec", func := "platterhold/platterholdlaw1.ParitySmall", spec := "paritySmall", apart := false }
def ParitySmallSaid : Prop := paritySmallRow.holds Try.pinned (OpenSpec.ofChange paritySmallSpec)

/-- ITS FALSE NEIGHBOUR: 'it returns false'. Refute it at one input. -/
def paritySmallWrong : ChangeSpec := { name := "paritySmall", fn := fun _ => fun
  | [d1, d2, d3] => { results := [.lit (.bool false)], args := [d1, d2, d3] }
  | _ => none }
def ParitySmallWrongFalsely : Prop := paritySmallRow.holds Try.pinned (OpenSpec.ofChange paritySmallWrong)

/-- 'platterholdtop.TopArray': WHATEVER THE INPUT: true; the input reads as it did. -/
def topArraySpec : ChangeSpec := { name := "topArray", fn := fun _ => fun
  | [d1, d2] => { results := [.lit (.bool true)], args := [d1, d2] }
  | _ => none }
def topArrayRow : OpenClaim := { program := "ytdhfckdnfppieaa", sum := "396e08c105991e074bf648bb0fcb96d58faca31e6900e7a2b266c0a2ddb492ec", func := "platterhold/platterholdtop.TopArray", spec := "topArray", apart := false }
def TopArraySaid : Prop := topArrayRow.holds Try.pinned (OpenSpec.ofChange topArraySpec)

/-- ITS FALSE NEIGHBOUR: 'it returns false'. Refute it at one input. -/
def topArrayWrong : ChangeSpec := { name := "topArray", fn := fun _ => fun
  | [d1, d2] => { results := [.lit (.bool false)], args := [d1, d2] }
  | _ => none }
def TopArrayWrongFalsely : Prop := topArrayRow.holds Try.pinned (OpenSpec.ofChange topArrayWrong)

/- THE SECOND FORM. 'bulk': how many values and letters a reading holds, each counted each time it is reached (what is shared counts as often as it is met; a slice's spare places count too). A statement '..UptoSaid' is the law's where the arguments, and the package variables that the reading takes, are together of bulk at most 1048576: NARROWER than '..Said'. Prove '..Said' where nothing that the law and all that it calls make is longer than what came in: it says more and counts as full. Else prove '..UptoSaid'. A law counts once. -/
mutual
def uptoBulk {H : Type} : DataW H → Nat
  | .lit (.string bytes) => bytes.length + 1
  | .lit _ => 1
  | .nil => 1
  | .ptr d => uptoBulk d + 1
  | .slice elems spare => uptoBulkAll elems + uptoBulkAll spare + 1
  | .agg parts => uptoBulkAll parts + 1
  | .iface _ d => uptoBulk d + 1
  | .map entries => uptoBulkEntries entries + 1
  | .held _ => 1
def uptoBulkAll {H : Type} : List (DataW H) → Nat
  | [] => 0
  | d :: r => uptoBulk d + uptoBulkAll r
def uptoBulkEntries {H : Type} : List (Lit × DataW H) → Nat
  | [] => 0
  | x :: r => uptoBulkEntry x + uptoBulkEntries r
def uptoBulkEntry {H : Type} : Lit × DataW H → Nat
  | (.string bytes, d) => bytes.length + uptoBulk d + 1
  | (_, d) => uptoBulk d + 1
 end
def uptoSmall : (H : Type) → List (DataW H) → Bool := fun _ ds => decide (uptoBulkAll ds ≤ 1048576)
def OpenSpec.upto (s : _root_.Go.ChangeSpec) : _root_.Go.OpenSpec := { _root_.Go.OpenSpec.ofChange s with cond := some uptoSmall }

/-- 'platterholdlaw1.GaloisField', WHERE WHAT IT READS IS OF BULK AT MOST 1048576: true; the input reads as it did. -/
def galoisFieldUptoRow : OpenClaim := { program := "ytdhfckdnfppieaa", sum := "396e08c105991e074bf648bb0fcb96d58faca31e6900e7a2b266c0a2ddb492ec", func := "platterhold/platterholdlaw1.GaloisField", spec := "galoisField", apart := false, narrowed := true }
def GaloisFieldUptoSaid : Prop := galoisFieldUptoRow.holds Try.pinned (OpenSpec.upto galoisFieldSpec)

/-- 'platterholdlaw1.GaloisFermat', WHERE WHAT IT READS IS OF BULK AT MOST 1048576: true; the input reads as it did. -/
def galoisFermatUptoRow : OpenClaim := { program := "ytdhfckdnfppieaa", sum := "396e08c105991e074bf648bb0fcb96d58faca31e6900e7a2b266c0a2ddb492ec", func := "platterhold/platterholdlaw1.GaloisFermat", spec := "galoisFermat", apart := false, narrowed := true }
def GaloisFermatUptoSaid : Prop := galoisFermatUptoRow.holds Try.pinned (OpenSpec.upto galoisFermatSpec)

/-- 'platterholdlaw1.GaloisRoots', WHERE WHAT IT READS IS OF BULK AT MOST 1048576: true; the input reads as it did. -/
def galoisRootsUptoRow : OpenClaim := { program := "ytdhfckdnfppieaa", sum := "396e08c105991e074bf648bb0fcb96d58faca31e6900e7a2b266c0a2ddb492ec", func := "platterhold/platterholdlaw1.GaloisRoots", spec := "galoisRoots", unfollowed := true, recurses := true, apart := false, narrowed := true }
def GaloisRootsUptoSaid : Prop := galoisRootsUptoRow.holds Try.pinned (OpenSpec.upto galoisRootsSpec)

/-- 'platterholdlaw1.ReedAny', WHERE WHAT IT READS IS OF BULK AT MOST 1048576: true; the input reads as it did. -/
def reedAnyUptoRow : OpenClaim := { program := "ytdhfckdnfppieaa", sum := "396e08c105991e074bf648bb0fcb96d58faca31e6900e7a2b266c0a2ddb492ec", func := "platterhold/platterholdlaw1.ReedAny", spec := "reedAny", apart := false, narrowed := true }
def ReedAnyUptoSaid : Prop := reedAnyUptoRow.holds Try.pinned (OpenSpec.upto reedAnySpec)

/-- 'platterholdlaw1.ReedApart', WHERE WHAT IT READS IS OF BULK AT MOST 1048576: true; the input reads as it did. -/
def reedApartUptoRow : OpenClaim := { program := "ytdhfckdnfppieaa", sum := "396e08c105991e074bf648bb0fcb96d58faca31e6900e7a2b266c0a2ddb492ec", func := "platterhold/platterholdlaw1.ReedApart", spec := "reedApart", apart := false, narrowed := true }
def ReedApartUptoSaid : Prop := reedApartUptoRow.holds Try.pinned (OpenSpec.upto reedApartSpec)

/-- 'platterholdlaw1.ReedSum', WHERE WHAT IT READS IS OF BULK AT MOST 1048576: true; the input reads as it did. -/
def reedSumUptoRow : OpenClaim := { program := "ytdhfckdnfppieaa", sum := "396e08c105991e074bf648bb0fcb96d58faca31e6900e7a2b266c0a2ddb492ec", func := "platterhold/platterholdlaw1.ReedSum", spec := "reedSum", apart := false, narrowed := true }
def ReedSumUptoSaid : Prop := reedSumUptoRow.holds Try.pinned (OpenSpec.upto reedSumSpec)

/-- 'platterholdlaw1.ParityEven', WHERE WHAT IT READS IS OF BULK AT MOST 1048576: true; the input reads as it did. -/
def parityEvenUptoRow : OpenClaim := { program := "ytdhfckdnfppieaa", sum := "396e08c105991e074bf648bb0fcb96d58faca31e6900e7a2b266c0a2ddb492ec", func := "platterhold/platterholdlaw1.ParityEven", spec := "parityEven", apart := false, narrowed := true }
def ParityEvenUptoSaid : Prop := parityEvenUptoRow.holds Try.pinned (OpenSpec.upto parityEvenSpec)

/-- 'platterholdlaw1.ParitySmall', WHERE WHAT IT READS IS OF BULK AT MOST 1048576: true; the input reads as it did. -/
def paritySmallUptoRow : OpenClaim := { program := "ytdhfckdnfppieaa", sum := "396e08c105991e074bf648bb0fcb96d58faca31e6900e7a2b266c0a2ddb492ec", func := "platterhold/platterholdlaw1.ParitySmall", spec := "paritySmall", apart := false, narrowed := true }
def ParitySmallUptoSaid : Prop := paritySmallUptoRow.holds Try.pinned (OpenSpec.upto paritySmallSpec)

/-- 'platterholdtop.TopArray', WHERE WHAT IT READS IS OF BULK AT MOST 1048576: true; the input reads as it did. -/
def topArrayUptoRow : OpenClaim := { program := "ytdhfckdnfppieaa", sum := "396e08c105991e074bf648bb0fcb96d58faca31e6900e7a2b266c0a2ddb492ec", func := "platterhold/platterholdtop.TopArray", spec := "topArray", apart := false, narrowed := true }
def TopArrayUptoSaid : Prop := topArrayUptoRow.holds Try.pinned (OpenSpec.upto topArraySpec)

end Rows
end Go.Proofs.Ytdhfckdnfppieaa
