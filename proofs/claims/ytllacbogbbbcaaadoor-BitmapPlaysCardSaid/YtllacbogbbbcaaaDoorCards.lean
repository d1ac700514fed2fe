/-
  DERIVED. GIVEN WITH THE SEED: THE CARDS: each row of YtllacbogbbbcaaaDoorRows.lean that lists a variable, with what it lists TIED to the program's text (the seventh form; the later family's looks); each row that meets fmt, with fmt's text TOLD by the authors' own Lean function (tested against real Go, not proved from fmt's source: count such statements apart). THE CARD IS WHAT COUNTS. Prove the row's statement (the work); the ties are given (YtllacbogbbbcaaaDoorTie.lean); close each card by the builder's one call (the guide's Derived/Test/ToyasCard.lean, 'card_holds'). Laid BY PROGRAM, IN A SANDBOX (cutbox-door.mjs). By AI agents, Wed Nov 11 2026. No macro, syntax, notation, axiom, sorry.
-/
import Derived.Test.YtllacbogbbbcaaaDoorRows
import GoSem.ClaimSeven
namespace Go.Proofs.YtllacbogbbbcaaaDoor
namespace Rows

/-- THE TIED CARD OF 'platterholdlaw1.PlaceSays'. -/
def placeSaysCard : Claim7 := { stood := { row := placeSaysRow, standIns := [], harness := (true, "a88fa9c720ebc45915f273f7a22a8bba237c0a308909bb785236164944955066"), looks := true }, kinds := [], alts := [], laidByText := true, laidKinds := [.handle], laidTests := true, laidLooks := .later }
def PlaceSaysCardSaid : Prop := Claim7.holds Tryd.pinned (.plain (OpenSpec.ofChange placeSaysSpec)) placeSaysCard

/-- THE TIED CARD OF 'platterholdlaw1.ExtentSays'. -/
def extentSaysCard : Claim7 := { stood := { row := extentSaysRow, standIns := [], harness := (true, "a88fa9c720ebc45915f273f7a22a8bba237c0a308909bb785236164944955066"), looks := true }, kinds := [], alts := [], laidByText := true, laidKinds := [.handle], laidTests := true, laidLooks := .later }
def ExtentSaysCardSaid : Prop := Claim7.holds Tryd.pinned (.plain (OpenSpec.ofChange extentSaysSpec)) extentSaysCard

/-- THE TIED CARD OF 'platterholdlaw1.BitmapFirst'. -/
def bitmapFirstCard : Claim7 := { stood := { row := bitmapFirstRow, standIns := [], harness := (true, "a88fa9c720ebc45915f273f7a22a8bba237c0a308909bb785236164944955066"), looks := true }, kinds := [], alts := [], laidByText := true, laidKinds := [.handle], laidTests := true, laidLooks := .later }
def BitmapFirstCardSaid : Prop := Claim7.holds Tryd.pinned (.plain (OpenSpec.ofChange bitmapFirstSpec)) bitmapFirstCard

/-- THE TIED CARD OF 'platterholdlaw1.BitmapBack'. -/
def bitmapBackCard : Claim7 := { stood := { row := bitmapBackRow, standIns := [], harness := (true, "a88fa9c720ebc45915f273f7a22a8bba237c0a308909bb785236164944955066"), looks := true }, kinds := [], alts := [], laidByText := true, laidKinds := [.handle], laidTests := true, laidLooks := .later }
def BitmapBackCardSaid : Prop := Claim7.holds Tryd.pinned (.plain (OpenSpec.ofChange bitmapBackSpec)) bitmapBackCard

/-- THE TIED CARD OF 'platterholdlaw1.BitmapPlays'. -/
def bitmapPlaysCard : Claim7 := { stood := { row := bitmapPlaysRow, standIns := [], harness := (true, "a88fa9c720ebc45915f273f7a22a8bba237c0a308909bb785236164944955066"), looks := true }, kinds := [], alts := [], laidByText := true, laidKinds := [.handle], laidTests := true, laidLooks := .later }
def BitmapPlaysCardSaid : Prop := Claim7.holds Tryd.pinned (.plain (OpenSpec.ofChange bitmapPlaysSpec)) bitmapPlaysCard

/-- THE SECOND FORM's CARD OF 'platterholdlaw1.PlaceSays'. -/
def placeSaysUptoCard : Claim7 := { stood := { row := placeSaysUptoRow, standIns := [], harness := (true, "a88fa9c720ebc45915f273f7a22a8bba237c0a308909bb785236164944955066"), looks := true }, kinds := [], alts := [], laidByText := true, laidKinds := [.handle], laidTests := true, laidLooks := .later }
def PlaceSaysUptoCardSaid : Prop := Claim7.holds Tryd.pinned (.plain (OpenSpec.upto placeSaysSpec)) placeSaysUptoCard

/-- THE SECOND FORM's CARD OF 'platterholdlaw1.ExtentSays'. -/
def extentSaysUptoCard : Claim7 := { stood := { row := extentSaysUptoRow, standIns := [], harness := (true, "a88fa9c720ebc45915f273f7a22a8bba237c0a308909bb785236164944955066"), looks := true }, kinds := [], alts := [], laidByText := true, laidKinds := [.handle], laidTests := true, laidLooks := .later }
def ExtentSaysUptoCardSaid : Prop := Claim7.holds Tryd.pinned (.plain (OpenSpec.upto extentSaysSpec)) extentSaysUptoCard

/-- THE SECOND FORM's CARD OF 'platterholdlaw1.BitmapFirst'. -/
def bitmapFirstUptoCard : Claim7 := { stood := { row := bitmapFirstUptoRow, standIns := [], harness := (true, "a88fa9c720ebc45915f273f7a22a8bba237c0a308909bb785236164944955066"), looks := true }, kinds := [], alts := [], laidByText := true, laidKinds := [.handle], laidTests := true, laidLooks := .later }
def BitmapFirstUptoCardSaid : Prop := Claim7.holds Tryd.pinned (.plain (OpenSpec.upto bitmapFirstSpec)) bitmapFirstUptoCard

/-- THE SECOND FORM's CARD OF 'platterholdlaw1.BitmapBack'. -/
def bitmapBackUptoCard : Claim7 := { stood := { row := bitmapBackUptoRow, standIns := [], harness := (true, "a88fa9c720ebc45915f273f7a22a8bba237c0a308909bb785236164944955066"), looks := true }, kinds := [], alts := [], laidByText := true, laidKinds := [.handle], laidTests := true, laidLooks := .later }
def BitmapBackUptoCardSaid : Prop := Claim7.holds Tryd.pinned (.plain (OpenSpec.upto bitmapBackSpec)) bitmapBackUptoCard

/-- THE SECOND FORM's CARD OF 'platterholdlaw1.BitmapPlays'. -/
def bitmapPlaysUptoCard : Claim7 := { stood := { row := bitmapPlaysUptoRow, standIns := [], harness := (true, "a88fa9c720ebc45915f273f7a22a8bba237c0a308909bb785236164944955066"), looks := true }, kinds := [], alts := [], laidByText := true, laidKinds := [.handle], laidTests := true, laidLooks := .later }
def BitmapPlaysUptoCardSaid : Prop := Claim7.holds Tryd.pinned (.plain (OpenSpec.upto bitmapPlaysSpec)) bitmapPlaysUptoCard
end Rows
end Go.Proofs.YtllacbogbbbcaaaDoor
