/-
  DERIVED. GIVEN WITH THE SEED: THE CARDS: each row of YtfkbbmomanaabaaDoorRows.lean that lists a variable, with what it lists TIED to the program's text (the seventh form; the later family's looks); each row that meets fmt, with fmt's text TOLD by the authors' own Lean function (tested against real Go, not proved from fmt's source: count such statements apart). THE CARD IS WHAT COUNTS. Prove the row's statement (the work); the ties are given (YtfkbbmomanaabaaDoorTie.lean); close each card by the builder's one call (the guide's Derived/Test/ToyasCard.lean, 'card_holds'). Laid BY PROGRAM, IN A SANDBOX (cutbox-door.mjs). By AI agents, Wed Nov 11 2026. No macro, syntax, notation, axiom, sorry.
-/
import Derived.Test.YtfkbbmomanaabaaDoorRows
import GoSem.ClaimSeven
namespace Go.Proofs.YtfkbbmomanaabaaDoor
namespace Rows

/-- THE TIED CARD OF 'platterholdlaw1.HammingFix'. -/
def hammingFixCard : Claim7 := { stood := { row := hammingFixRow, standIns := [], harness := (true, "399d36f5bfea71c9c9cd9f9d9720e8ccb7f506d374441535717816bab1d73a42"), looks := true }, kinds := [], alts := [], laidByText := true, laidKinds := [.data], laidTests := true, laidLooks := .later }
def HammingFixCardSaid : Prop := Claim7.holds Tryd.pinned (.plain (OpenSpec.ofChange hammingFixSpec)) hammingFixCard

/-- THE TIED CARD OF 'platterholdlaw1.HammingApart'. -/
def hammingApartCard : Claim7 := { stood := { row := hammingApartRow, standIns := [], harness := (true, "399d36f5bfea71c9c9cd9f9d9720e8ccb7f506d374441535717816bab1d73a42"), looks := true }, kinds := [], alts := [], laidByText := true, laidKinds := [.data], laidTests := true, laidLooks := .later }
def HammingApartCardSaid : Prop := Claim7.holds Tryd.pinned (.plain (OpenSpec.ofChange hammingApartSpec)) hammingApartCard

/-- THE TIED CARD OF 'platterholdlaw1.HammingSays'. -/
def hammingSaysCard : Claim7 := { stood := { row := hammingSaysRow, standIns := [], harness := (true, "399d36f5bfea71c9c9cd9f9d9720e8ccb7f506d374441535717816bab1d73a42"), looks := true }, kinds := [], alts := [], laidByText := true, laidKinds := [.handle, .data], laidTests := true, laidLooks := .later }
def HammingSaysCardSaid : Prop := Claim7.holds Tryd.pinned (.plain (OpenSpec.ofChange hammingSaysSpec)) hammingSaysCard

/-- THE TIED CARD OF 'platterholdlaw1.HammingPerfect'. -/
def hammingPerfectCard : Claim7 := { stood := { row := hammingPerfectRow, standIns := [], harness := (true, "399d36f5bfea71c9c9cd9f9d9720e8ccb7f506d374441535717816bab1d73a42"), looks := true }, kinds := [], alts := [], laidByText := true, laidKinds := [.handle, .data], laidTests := true, laidLooks := .later }
def HammingPerfectCardSaid : Prop := Claim7.holds Tryd.pinned (.plain (OpenSpec.ofChange hammingPerfectSpec)) hammingPerfectCard

/-- THE TIED CARD OF 'platterholdlaw1.CrcSays'. -/
def crcSaysCard : Claim7 := { stood := { row := crcSaysRow, standIns := [], harness := (true, "399d36f5bfea71c9c9cd9f9d9720e8ccb7f506d374441535717816bab1d73a42"), looks := true }, kinds := [], alts := [], laidByText := true, laidKinds := [.handle], laidTests := true, laidLooks := .later }
def CrcSaysCardSaid : Prop := Claim7.holds Tryd.pinned (.plain (OpenSpec.ofChange crcSaysSpec)) crcSaysCard

/-- THE TIED CARD OF 'platterholdlaw1.CrcGood'. -/
def crcGoodCard : Claim7 := { stood := { row := crcGoodRow, standIns := [], harness := (true, "399d36f5bfea71c9c9cd9f9d9720e8ccb7f506d374441535717816bab1d73a42"), looks := true }, kinds := [], alts := [], laidByText := true, laidKinds := [.handle], laidTests := true, laidLooks := .later }
def CrcGoodCardSaid : Prop := Claim7.holds Tryd.pinned (.plain (OpenSpec.ofChange crcGoodSpec)) crcGoodCard

/-- THE TIED CARD OF 'platterholdtop.TopWords'. -/
def topWordsCard : Claim7 := { stood := { row := topWordsRow, standIns := [], harness := (true, "399d36f5bfea71c9c9cd9f9d9720e8ccb7f506d374441535717816bab1d73a42"), looks := true }, kinds := [], alts := [], laidByText := true, laidKinds := [.data], laidTests := true, laidLooks := .later }
def TopWordsCardSaid : Prop := Claim7.holds Tryd.pinned (.plain (OpenSpec.ofChange topWordsSpec)) topWordsCard

/-- THE SECOND FORM's CARD OF 'platterholdlaw1.HammingFix'. -/
def hammingFixUptoCard : Claim7 := { stood := { row := hammingFixUptoRow, standIns := [], harness := (true, "399d36f5bfea71c9c9cd9f9d9720e8ccb7f506d374441535717816bab1d73a42"), looks := true }, kinds := [], alts := [], laidByText := true, laidKinds := [.data], laidTests := true, laidLooks := .later }
def HammingFixUptoCardSaid : Prop := Claim7.holds Tryd.pinned (.plain (OpenSpec.upto hammingFixSpec)) hammingFixUptoCard

/-- THE SECOND FORM's CARD OF 'platterholdlaw1.HammingApart'. -/
def hammingApartUptoCard : Claim7 := { stood := { row := hammingApartUptoRow, standIns := [], harness := (true, "399d36f5bfea71c9c9cd9f9d9720e8ccb7f506d374441535717816bab1d73a42"), looks := true }, kinds := [], alts := [], laidByText := true, laidKinds := [.data], laidTests := true, laidLooks := .later }
def HammingApartUptoCardSaid : Prop := Claim7.holds Tryd.pinned (.plain (OpenSpec.upto hammingApartSpec)) hammingApartUptoCard

/-- THE SECOND FORM's CARD OF 'platterholdlaw1.HammingSays'. -/
def hammingSaysUptoCard : Claim7 := { stood := { row := hammingSaysUptoRow, standIns := [], harness := (true, "399d36f5bfea71c9c9cd9f9d9720e8ccb7f506d374441535717816bab1d73a42"), looks := true }, kinds := [], alts := [], laidByText := true, laidKinds := [.handle, .data], laidTests := true, laidLooks := .later }
def HammingSaysUptoCardSaid : Prop := Claim7.holds Tryd.pinned (.plain (OpenSpec.upto hammingSaysSpec)) hammingSaysUptoCard

/-- THE SECOND FORM's CARD OF 'platterholdlaw1.HammingPerfect'. -/
def hammingPerfectUptoCard : Claim7 := { stood := { row := hammingPerfectUptoRow, standIns := [], harness := (true, "399d36f5bfea71c9c9cd9f9d9720e8ccb7f506d374441535717816bab1d73a42"), looks := true }, kinds := [], alts := [], laidByText := true, laidKinds := [.handle, .data], laidTests := true, laidLooks := .later }
def HammingPerfectUptoCardSaid : Prop := Claim7.holds Tryd.pinned (.plain (OpenSpec.upto hammingPerfectSpec)) hammingPerfectUptoCard

/-- THE SECOND FORM's CARD OF 'platterholdlaw1.CrcSays'. -/
def crcSaysUptoCard : Claim7 := { stood := { row := crcSaysUptoRow, standIns := [], harness := (true, "399d36f5bfea71c9c9cd9f9d9720e8ccb7f506d374441535717816bab1d73a42"), looks := true }, kinds := [], alts := [], laidByText := true, laidKinds := [.handle], laidTests := true, laidLooks := .later }
def CrcSaysUptoCardSaid : Prop := Claim7.holds Tryd.pinned (.plain (OpenSpec.upto crcSaysSpec)) crcSaysUptoCard

/-- THE SECOND FORM's CARD OF 'platterholdlaw1.CrcGood'. -/
def crcGoodUptoCard : Claim7 := { stood := { row := crcGoodUptoRow, standIns := [], harness := (true, "399d36f5bfea71c9c9cd9f9d9720e8ccb7f506d374441535717816bab1d73a42"), looks := true }, kinds := [], alts := [], laidByText := true, laidKinds := [.handle], laidTests := true, laidLooks := .later }
def CrcGoodUptoCardSaid : Prop := Claim7.holds Tryd.pinned (.plain (OpenSpec.upto crcGoodSpec)) crcGoodUptoCard

/-- THE SECOND FORM's CARD OF 'platterholdtop.TopWords'. -/
def topWordsUptoCard : Claim7 := { stood := { row := topWordsUptoRow, standIns := [], harness := (true, "399d36f5bfea71c9c9cd9f9d9720e8ccb7f506d374441535717816bab1d73a42"), looks := true }, kinds := [], alts := [], laidByText := true, laidKinds := [.data], laidTests := true, laidLooks := .later }
def TopWordsUptoCardSaid : Prop := Claim7.holds Tryd.pinned (.plain (OpenSpec.upto topWordsSpec)) topWordsUptoCard
end Rows
end Go.Proofs.YtfkbbmomanaabaaDoor
