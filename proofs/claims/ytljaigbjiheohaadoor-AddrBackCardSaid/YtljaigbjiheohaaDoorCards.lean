/-
  DERIVED. GIVEN WITH THE SEED: THE CARDS: each row of YtljaigbjiheohaaDoorRows.lean that lists a variable, with what it lists TIED to the program's text (the seventh form; the later family's looks); each row that meets fmt, with fmt's text TOLD by the authors' own Lean function (tested against real Go, not proved from fmt's source: count such statements apart). THE CARD IS WHAT COUNTS. Prove the row's statement (the work); the ties are given (YtljaigbjiheohaaDoorTie.lean); close each card by the builder's one call (the guide's Derived/Test/ToyasCard.lean, 'card_holds'). Laid BY PROGRAM, IN A SANDBOX (cutbox-door.mjs). By AI agents, Wed Nov 11 2026. No macro, syntax, notation, axiom, sorry.
-/
import Derived.Test.YtljaigbjiheohaaDoorRows
import GoSem.ClaimSeven
namespace Go.Proofs.YtljaigbjiheohaaDoor
namespace Rows

/-- THE TIED CARD OF 'floodgatelaw04.AddrNums'. -/
def addrNumsCard : Claim7 := { stood := { row := addrNumsRow, standIns := [], harness := (true, "6dd2f4d0c871b7729e2a10c6503639b1a772bd2ca77ab62677c2e969dcb8805a"), looks := true }, kinds := [], alts := [], laidByText := true, laidKinds := [.data, .data, .data, .sentinel, .sentinel], laidTests := true, laidLooks := .later }
def AddrNumsCardSaid : Prop := Claim7.holds Tryd.pinned (.plain (OpenSpec.ofChange addrNumsSpec)) addrNumsCard

/-- THE TIED CARD OF 'floodgatelaw04.AddrNets'. -/
def addrNetsCard : Claim7 := { stood := { row := addrNetsRow, standIns := [], harness := (true, "6dd2f4d0c871b7729e2a10c6503639b1a772bd2ca77ab62677c2e969dcb8805a"), looks := true }, kinds := [], alts := [], laidByText := true, laidKinds := [.data, .data, .data, .sentinel, .sentinel], laidTests := true, laidLooks := .later }
def AddrNetsCardSaid : Prop := Claim7.holds Tryd.pinned (.plain (OpenSpec.ofChange addrNetsSpec)) addrNetsCard

/-- THE TIED CARD OF 'floodgatelaw04.AddrTree'. -/
def addrTreeCard : Claim7 := { stood := { row := addrTreeRow, standIns := [], harness := (true, "6dd2f4d0c871b7729e2a10c6503639b1a772bd2ca77ab62677c2e969dcb8805a"), looks := true }, kinds := [], alts := [], laidByText := true, laidKinds := [.data, .data, .data, .sentinel, .sentinel], laidTests := true, laidLooks := .later }
def AddrTreeCardSaid : Prop := Claim7.holds Tryd.pinned (.plain (OpenSpec.ofChange addrTreeSpec)) addrTreeCard

/-- THE TIED CARD OF 'floodgatelaw04.AddrCuts'. -/
def addrCutsCard : Claim7 := { stood := { row := addrCutsRow, standIns := [], harness := (true, "6dd2f4d0c871b7729e2a10c6503639b1a772bd2ca77ab62677c2e969dcb8805a"), looks := true }, kinds := [], alts := [], laidByText := true, laidKinds := [.data, .data, .data, .sentinel, .sentinel], laidTests := true, laidLooks := .later }
def AddrCutsCardSaid : Prop := Claim7.holds Tryd.pinned (.plain (OpenSpec.ofChange addrCutsSpec)) addrCutsCard

/-- THE TIED CARD OF 'floodgatelaw04.AddrTexts'. -/
def addrTextsCard : Claim7 := { stood := { row := addrTextsRow, standIns := [], harness := (true, "6dd2f4d0c871b7729e2a10c6503639b1a772bd2ca77ab62677c2e969dcb8805a"), looks := true }, kinds := [], alts := [], laidByText := true, laidKinds := [.data, .data, .data, .sentinel, .sentinel], laidTests := true, laidLooks := .later }
def AddrTextsCardSaid : Prop := Claim7.holds Tryd.pinned (.plain (OpenSpec.ofChange addrTextsSpec)) addrTextsCard

/-- THE TIED CARD OF 'floodgatelaw04.AddrBack'. -/
def addrBackCard : Claim7 := { stood := { row := addrBackRow, standIns := [], harness := (true, "6dd2f4d0c871b7729e2a10c6503639b1a772bd2ca77ab62677c2e969dcb8805a"), looks := true }, kinds := [], alts := [], laidByText := true, laidKinds := [.data, .data, .data, .sentinel, .sentinel], laidTests := true, laidLooks := .later }
def AddrBackCardSaid : Prop := Claim7.holds Tryd.pinned (.plain (OpenSpec.ofChange addrBackSpec)) addrBackCard

/-- THE TIED CARD OF 'floodgatelaw04.AddrNames'. -/
def addrNamesCard : Claim7 := { stood := { row := addrNamesRow, standIns := [], harness := (true, "6dd2f4d0c871b7729e2a10c6503639b1a772bd2ca77ab62677c2e969dcb8805a"), looks := true }, kinds := [], alts := [], laidByText := true, laidKinds := [.data, .data, .data, .sentinel, .sentinel], laidTests := true, laidLooks := .later }
def AddrNamesCardSaid : Prop := Claim7.holds Tryd.pinned (.plain (OpenSpec.ofChange addrNamesSpec)) addrNamesCard

/-- THE SECOND FORM's CARD OF 'floodgatelaw04.AddrNums'. -/
def addrNumsUptoCard : Claim7 := { stood := { row := addrNumsUptoRow, standIns := [], harness := (true, "6dd2f4d0c871b7729e2a10c6503639b1a772bd2ca77ab62677c2e969dcb8805a"), looks := true }, kinds := [], alts := [], laidByText := true, laidKinds := [.data, .data, .data, .sentinel, .sentinel], laidTests := true, laidLooks := .later }
def AddrNumsUptoCardSaid : Prop := Claim7.holds Tryd.pinned (.plain (OpenSpec.upto addrNumsSpec)) addrNumsUptoCard

/-- THE SECOND FORM's CARD OF 'floodgatelaw04.AddrNets'. -/
def addrNetsUptoCard : Claim7 := { stood := { row := addrNetsUptoRow, standIns := [], harness := (true, "6dd2f4d0c871b7729e2a10c6503639b1a772bd2ca77ab62677c2e969dcb8805a"), looks := true }, kinds := [], alts := [], laidByText := true, laidKinds := [.data, .data, .data, .sentinel, .sentinel], laidTests := true, laidLooks := .later }
def AddrNetsUptoCardSaid : Prop := Claim7.holds Tryd.pinned (.plain (OpenSpec.upto addrNetsSpec)) addrNetsUptoCard

/-- THE SECOND FORM's CARD OF 'floodgatelaw04.AddrTree'. -/
def addrTreeUptoCard : Claim7 := { stood := { row := addrTreeUptoRow, standIns := [], harness := (true, "6dd2f4d0c871b7729e2a10c6503639b1a772bd2ca77ab62677c2e969dcb8805a"), looks := true }, kinds := [], alts := [], laidByText := true, laidKinds := [.data, .data, .data, .sentinel, .sentinel], laidTests := true, laidLooks := .later }
def AddrTreeUptoCardSaid : Prop := Claim7.holds Tryd.pinned (.plain (OpenSpec.upto addrTreeSpec)) addrTreeUptoCard

/-- THE SECOND FORM's CARD OF 'floodgatelaw04.AddrCuts'. -/
def addrCutsUptoCard : Claim7 := { stood := { row := addrCutsUptoRow, standIns := [], harness := (true, "6dd2f4d0c871b7729e2a10c6503639b1a772bd2ca77ab62677c2e969dcb8805a"), looks := true }, kinds := [], alts := [], laidByText := true, laidKinds := [.data, .data, .data, .sentinel, .sentinel], laidTests := true, laidLooks := .later }
def AddrCutsUptoCardSaid : Prop := Claim7.holds Tryd.pinned (.plain (OpenSpec.upto addrCutsSpec)) addrCutsUptoCard

/-- THE SECOND FORM's CARD OF 'floodgatelaw04.AddrTexts'. -/
def addrTextsUptoCard : Claim7 := { stood := { row := addrTextsUptoRow, standIns := [], harness := (true, "6dd2f4d0c871b7729e2a10c6503639b1a772bd2ca77ab62677c2e969dcb8805a"), looks := true }, kinds := [], alts := [], laidByText := true, laidKinds := [.data, .data, .data, .sentinel, .sentinel], laidTests := true, laidLooks := .later }
def AddrTextsUptoCardSaid : Prop := Claim7.holds Tryd.pinned (.plain (OpenSpec.upto addrTextsSpec)) addrTextsUptoCard

/-- THE SECOND FORM's CARD OF 'floodgatelaw04.AddrBack'. -/
def addrBackUptoCard : Claim7 := { stood := { row := addrBackUptoRow, standIns := [], harness := (true, "6dd2f4d0c871b7729e2a10c6503639b1a772bd2ca77ab62677c2e969dcb8805a"), looks := true }, kinds := [], alts := [], laidByText := true, laidKinds := [.data, .data, .data, .sentinel, .sentinel], laidTests := true, laidLooks := .later }
def AddrBackUptoCardSaid : Prop := Claim7.holds Tryd.pinned (.plain (OpenSpec.upto addrBackSpec)) addrBackUptoCard

/-- THE SECOND FORM's CARD OF 'floodgatelaw04.AddrNames'. -/
def addrNamesUptoCard : Claim7 := { stood := { row := addrNamesUptoRow, standIns := [], harness := (true, "6dd2f4d0c871b7729e2a10c6503639b1a772bd2ca77ab62677c2e969dcb8805a"), looks := true }, kinds := [], alts := [], laidByText := true, laidKinds := [.data, .data, .data, .sentinel, .sentinel], laidTests := true, laidLooks := .later }
def AddrNamesUptoCardSaid : Prop := Claim7.holds Tryd.pinned (.plain (OpenSpec.upto addrNamesSpec)) addrNamesUptoCard
end Rows
end Go.Proofs.YtljaigbjiheohaaDoor
