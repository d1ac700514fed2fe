/-
  DERIVED. GIVEN WITH THE SEED: THE CARDS: each row of YtdhfckdnfppieaaDoorRows.lean that lists a variable, with what it lists TIED to the program's text (the seventh form; the later family's looks); each row that meets fmt, with fmt's text TOLD by the authors' own Lean function (tested against real Go, not proved from fmt's source: count such statements apart). THE CARD IS WHAT COUNTS. Prove the row's statement (the work); the ties are given (YtdhfckdnfppieaaDoorTie.lean); close each card by the builder's one call (the guide's Derived/Test/ToyasCard.lean, 'card_holds'). Laid BY PROGRAM, IN A SANDBOX (cutbox-door.mjs). By AI agents, Wed Nov 11 2026. No macro, syntax, notation, axiom, sorry.
-/
import Derived.Test.YtdhfckdnfppieaaDoorRows
import GoSem.ClaimSeven
namespace Go.Proofs.YtdhfckdnfppieaaDoor
namespace Rows

/-- THE TIED CARD OF 'platterholdlaw1.GaloisInverse'. -/
def galoisInverseCard : Claim7 := { stood := { row := galoisInverseRow, standIns := [], harness := (true, "7f71961c342f982201be8964ae9b5d60cc8d09632423b17968e75992aa56bee6"), looks := true }, kinds := [], alts := [], laidByText := true, laidKinds := [.handle], laidTests := true, laidLooks := .later }
def GaloisInverseCardSaid : Prop := Claim7.holds Tryd.pinned (.plain (OpenSpec.ofChange galoisInverseSpec)) galoisInverseCard

/-- THE TIED CARD OF 'platterholdlaw1.GaloisSays'. -/
def galoisSaysCard : Claim7 := { stood := { row := galoisSaysRow, standIns := [], harness := (true, "7f71961c342f982201be8964ae9b5d60cc8d09632423b17968e75992aa56bee6"), looks := true }, kinds := [], alts := [], laidByText := true, laidKinds := [.handle], laidTests := true, laidLooks := .later }
def GaloisSaysCardSaid : Prop := Claim7.holds Tryd.pinned (.plain (OpenSpec.ofChange galoisSaysSpec)) galoisSaysCard

/-- THE TIED CARD OF 'platterholdlaw1.ReedSays'. -/
def reedSaysCard : Claim7 := { stood := { row := reedSaysRow, standIns := [], harness := (true, "7f71961c342f982201be8964ae9b5d60cc8d09632423b17968e75992aa56bee6"), looks := true }, kinds := [], alts := [], laidByText := true, laidKinds := [.handle], laidTests := true, laidLooks := .later }
def ReedSaysCardSaid : Prop := Claim7.holds Tryd.pinned (.plain (OpenSpec.ofChange reedSaysSpec)) reedSaysCard

/-- THE TIED CARD OF 'platterholdlaw1.ReedWrong'. -/
def reedWrongCard : Claim7 := { stood := { row := reedWrongRow, standIns := [], harness := (true, "7f71961c342f982201be8964ae9b5d60cc8d09632423b17968e75992aa56bee6"), looks := true }, kinds := [], alts := [], laidByText := true, laidKinds := [.handle], laidTests := true, laidLooks := .later }
def ReedWrongCardSaid : Prop := Claim7.holds Tryd.pinned (.plain (OpenSpec.ofChange reedWrongSpec)) reedWrongCard

/-- THE TIED CARD OF 'platterholdlaw1.ParityAgain'. -/
def parityAgainCard : Claim7 := { stood := { row := parityAgainRow, standIns := [], harness := (true, "7f71961c342f982201be8964ae9b5d60cc8d09632423b17968e75992aa56bee6"), looks := true }, kinds := [], alts := [], laidByText := true, laidKinds := [.handle], laidTests := true, laidLooks := .later }
def ParityAgainCardSaid : Prop := Claim7.holds Tryd.pinned (.plain (OpenSpec.ofChange parityAgainSpec)) parityAgainCard

/-- THE TIED CARD OF 'platterholdlaw1.ParitySays'. -/
def paritySaysCard : Claim7 := { stood := { row := paritySaysRow, standIns := [], harness := (true, "7f71961c342f982201be8964ae9b5d60cc8d09632423b17968e75992aa56bee6"), looks := true }, kinds := [], alts := [], laidByText := true, laidKinds := [.handle], laidTests := true, laidLooks := .later }
def ParitySaysCardSaid : Prop := Claim7.holds Tryd.pinned (.plain (OpenSpec.ofChange paritySaysSpec)) paritySaysCard

/-- THE SECOND FORM's CARD OF 'platterholdlaw1.GaloisInverse'. -/
def galoisInverseUptoCard : Claim7 := { stood := { row := galoisInverseUptoRow, standIns := [], harness := (true, "7f71961c342f982201be8964ae9b5d60cc8d09632423b17968e75992aa56bee6"), looks := true }, kinds := [], alts := [], laidByText := true, laidKinds := [.handle], laidTests := true, laidLooks := .later }
def GaloisInverseUptoCardSaid : Prop := Claim7.holds Tryd.pinned (.plain (OpenSpec.upto galoisInverseSpec)) galoisInverseUptoCard

/-- THE SECOND FORM's CARD OF 'platterholdlaw1.GaloisSays'. -/
def galoisSaysUptoCard : Claim7 := { stood := { row := galoisSaysUptoRow, standIns := [], harness := (true, "7f71961c342f982201be8964ae9b5d60cc8d09632423b17968e75992aa56bee6"), looks := true }, kinds := [], alts := [], laidByText := true, laidKinds := [.handle], laidTests := true, laidLooks := .later }
def GaloisSaysUptoCardSaid : Prop := Claim7.holds Tryd.pinned (.plain (OpenSpec.upto galoisSaysSpec)) galoisSaysUptoCard

/-- THE SECOND FORM's CARD OF 'platterholdlaw1.ReedSays'. -/
def reedSaysUptoCard : Claim7 := { stood := { row := reedSaysUptoRow, standIns := [], harness := (true, "7f71961c342f982201be8964ae9b5d60cc8d09632423b17968e75992aa56bee6"), looks := true }, kinds := [], alts := [], laidByText := true, laidKinds := [.handle], laidTests := true, laidLooks := .later }
def ReedSaysUptoCardSaid : Prop := Claim7.holds Tryd.pinned (.plain (OpenSpec.upto reedSaysSpec)) reedSaysUptoCard

/-- THE SECOND FORM's CARD OF 'platterholdlaw1.ReedWrong'. -/
def reedWrongUptoCard : Claim7 := { stood := { row := reedWrongUptoRow, standIns := [], harness := (true, "7f71961c342f982201be8964ae9b5d60cc8d09632423b17968e75992aa56bee6"), looks := true }, kinds := [], alts := [], laidByText := true, laidKinds := [.handle], laidTests := true, laidLooks := .later }
def ReedWrongUptoCardSaid : Prop := Claim7.holds Tryd.pinned (.plain (OpenSpec.upto reedWrongSpec)) reedWrongUptoCard

/-- THE SECOND FORM's CARD OF 'platterholdlaw1.ParityAgain'. -/
def parityAgainUptoCard : Claim7 := { stood := { row := parityAgainUptoRow, standIns := [], harness := (true, "7f71961c342f982201be8964ae9b5d60cc8d09632423b17968e75992aa56bee6"), looks := true }, kinds := [], alts := [], laidByText := true, laidKinds := [.handle], laidTests := true, laidLooks := .later }
def ParityAgainUptoCardSaid : Prop := Claim7.holds Tryd.pinned (.plain (OpenSpec.upto parityAgainSpec)) parityAgainUptoCard

/-- THE SECOND FORM's CARD OF 'platterholdlaw1.ParitySays'. -/
def paritySaysUptoCard : Claim7 := { stood := { row := paritySaysUptoRow, standIns := [], harness := (true, "7f71961c342f982201be8964ae9b5d60cc8d09632423b17968e75992aa56bee6"), looks := true }, kinds := [], alts := [], laidByText := true, laidKinds := [.handle], laidTests := true, laidLooks := .later }
def ParitySaysUptoCardSaid : Prop := Claim7.holds Tryd.pinned (.plain (OpenSpec.upto paritySaysSpec)) paritySaysUptoCard
end Rows
end Go.Proofs.YtdhfckdnfppieaaDoor
