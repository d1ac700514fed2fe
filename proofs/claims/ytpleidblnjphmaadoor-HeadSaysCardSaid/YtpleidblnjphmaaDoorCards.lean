/-
  DERIVED. GIVEN WITH THE SEED: THE CARDS: each row of YtpleidblnjphmaaDoorRows.lean that lists a variable, with what it lists TIED to the program's text (the seventh form; the later family's looks); each row that meets fmt, with fmt's text TOLD by the authors' own Lean function (tested against real Go, not proved from fmt's source: count such statements apart). THE CARD IS WHAT COUNTS. Prove the row's statement (the work); the ties are given (YtpleidblnjphmaaDoorTie.lean); close each card by the builder's one call (the guide's Derived/Test/ToyasCard.lean, 'card_holds'). Laid BY PROGRAM, IN A SANDBOX (cutbox-door.mjs). By AI agents, Wed Nov 11 2026. No macro, syntax, notation, axiom, sorry.
-/
import Derived.Test.YtpleidblnjphmaaDoorRows
import GoSem.ClaimSeven
namespace Go.Proofs.YtpleidblnjphmaaDoor
namespace Rows

/-- THE TIED CARD OF 'platterholdlaw1.MerkleSays'. -/
def merkleSaysCard : Claim7 := { stood := { row := merkleSaysRow, standIns := [], harness := (true, "d3e3a33842ee8c40c2c9f2915e4710a5caa6e8522e4bd5e98c395afcbd79fbe7"), looks := true }, kinds := [], alts := [], laidByText := true, laidKinds := [.handle], laidTests := true, laidLooks := .later }
def MerkleSaysCardSaid : Prop := Claim7.holds Tryd.pinned (.plain (OpenSpec.ofChange merkleSaysSpec)) merkleSaysCard

/-- THE TIED CARD OF 'platterholdlaw1.HeadSays'. -/
def headSaysCard : Claim7 := { stood := { row := headSaysRow, standIns := [], harness := (true, "d3e3a33842ee8c40c2c9f2915e4710a5caa6e8522e4bd5e98c395afcbd79fbe7"), looks := true }, kinds := [], alts := [], laidByText := true, laidKinds := [.handle], laidTests := true, laidLooks := .later }
def HeadSaysCardSaid : Prop := Claim7.holds Tryd.pinned (.plain (OpenSpec.ofChange headSaysSpec)) headSaysCard

/-- THE SECOND FORM's CARD OF 'platterholdlaw1.MerkleSays'. -/
def merkleSaysUptoCard : Claim7 := { stood := { row := merkleSaysUptoRow, standIns := [], harness := (true, "d3e3a33842ee8c40c2c9f2915e4710a5caa6e8522e4bd5e98c395afcbd79fbe7"), looks := true }, kinds := [], alts := [], laidByText := true, laidKinds := [.handle], laidTests := true, laidLooks := .later }
def MerkleSaysUptoCardSaid : Prop := Claim7.holds Tryd.pinned (.plain (OpenSpec.upto merkleSaysSpec)) merkleSaysUptoCard

/-- THE SECOND FORM's CARD OF 'platterholdlaw1.HeadSays'. -/
def headSaysUptoCard : Claim7 := { stood := { row := headSaysUptoRow, standIns := [], harness := (true, "d3e3a33842ee8c40c2c9f2915e4710a5caa6e8522e4bd5e98c395afcbd79fbe7"), looks := true }, kinds := [], alts := [], laidByText := true, laidKinds := [.handle], laidTests := true, laidLooks := .later }
def HeadSaysUptoCardSaid : Prop := Claim7.holds Tryd.pinned (.plain (OpenSpec.upto headSaysSpec)) headSaysUptoCard
end Rows
end Go.Proofs.YtpleidblnjphmaaDoor
