/-
  DERIVED. GIVEN WITH THE SEED: THE CARDS: each row of YtccfiohcblecoaaDoorRows.lean that lists a variable, with what it lists TIED to the program's text (the seventh form; the later family's looks); each row that meets fmt, with fmt's text TOLD by the authors' own Lean function (tested against real Go, not proved from fmt's source: count such statements apart). THE CARD IS WHAT COUNTS. Prove the row's statement (the work); the ties are given (YtccfiohcblecoaaDoorTie.lean); close each card by the builder's one call (the guide's Derived/Test/ToyasCard.lean, 'card_holds'). Laid BY PROGRAM, IN A SANDBOX (cutbox-door.mjs). By AI agents, Wed Nov 11 2026. No macro, syntax, notation, axiom, sorry.
-/
import Derived.Test.YtccfiohcblecoaaDoorRows
import GoSem.ClaimSeven
namespace Go.Proofs.YtccfiohcblecoaaDoor
namespace Rows

/-- THE TIED CARD OF 'phoenixlaw6.WalNumbers'. -/
def walNumbersCard : Claim7 := { stood := { row := walNumbersRow, standIns := [], harness := (true, "2adc1ecbf4d439bb57095002e4b4f81fe12ca7232e48c0187434f08baab0ef92"), looks := true }, kinds := [], alts := [], laidByText := true, laidKinds := [.sentinel, .sentinel, .sentinel, .sentinel, .sentinel, .sentinel, .sentinel, .sentinel, .sentinel, .sentinel, .sentinel, .sentinel, .sentinel, .sentinel, .sentinel, .sentinel, .sentinel, .sentinel], laidTests := true, laidLooks := .later }
def WalNumbersCardSaid : Prop := Claim7.holds Tryd.pinned (.plain (OpenSpec.ofChange walNumbersSpec)) walNumbersCard

/-- THE TIED CARD OF 'phoenixlaw2.DiskLoads'. -/
def diskLoadsCard : Claim7 := { stood := { row := diskLoadsRow, standIns := [], harness := (true, "2adc1ecbf4d439bb57095002e4b4f81fe12ca7232e48c0187434f08baab0ef92"), looks := true }, kinds := [], alts := [], laidByText := true, laidKinds := [.sentinel, .sentinel, .sentinel, .sentinel, .sentinel, .sentinel, .sentinel, .sentinel, .sentinel, .sentinel, .sentinel, .sentinel, .sentinel, .sentinel, .sentinel, .sentinel, .sentinel, .sentinel], laidTests := true, laidLooks := .later }
def DiskLoadsCardSaid : Prop := Claim7.holds Tryd.pinned (.plain (OpenSpec.ofChange diskLoadsSpec)) diskLoadsCard

/-- THE TIED CARD OF 'phoenixlaw16.ChainBase'. -/
def chainBaseCard : Claim7 := { stood := { row := chainBaseRow, standIns := [], harness := (true, "2adc1ecbf4d439bb57095002e4b4f81fe12ca7232e48c0187434f08baab0ef92"), looks := true }, kinds := [], alts := [], laidByText := true, laidKinds := [.sentinel, .sentinel, .sentinel, .sentinel, .sentinel, .sentinel, .sentinel, .sentinel, .sentinel, .sentinel, .sentinel, .sentinel, .sentinel, .sentinel, .sentinel, .sentinel, .sentinel, .sentinel], laidTests := true, laidLooks := .later }
def ChainBaseCardSaid : Prop := Claim7.holds Tryd.pinned (.plain (OpenSpec.ofChange chainBaseSpec)) chainBaseCard

/-- THE TIED CARD OF 'phoenixlaw16.ChainSays'. -/
def chainSaysCard : Claim7 := { stood := { row := chainSaysRow, standIns := [], harness := (true, "2adc1ecbf4d439bb57095002e4b4f81fe12ca7232e48c0187434f08baab0ef92"), looks := true }, kinds := [], alts := [], laidByText := true, laidKinds := [.sentinel, .sentinel, .sentinel, .sentinel, .sentinel, .sentinel, .sentinel, .sentinel, .sentinel, .sentinel, .sentinel, .sentinel, .sentinel, .sentinel, .sentinel, .sentinel, .sentinel, .sentinel], laidTests := true, laidLooks := .later }
def ChainSaysCardSaid : Prop := Claim7.holds Tryd.pinned (.plain (OpenSpec.ofChange chainSaysSpec)) chainSaysCard

/-- THE TIED CARD OF 'phoenixlaw16.ChainUndoes'. -/
def chainUndoesCard : Claim7 := { stood := { row := chainUndoesRow, standIns := [], harness := (true, "2adc1ecbf4d439bb57095002e4b4f81fe12ca7232e48c0187434f08baab0ef92"), looks := true }, kinds := [], alts := [], laidByText := true, laidKinds := [.sentinel, .sentinel, .sentinel, .sentinel, .sentinel, .sentinel, .sentinel, .sentinel, .sentinel, .sentinel, .sentinel, .sentinel, .sentinel, .sentinel, .sentinel, .sentinel, .sentinel, .sentinel], laidTests := true, laidLooks := .later }
def ChainUndoesCardSaid : Prop := Claim7.holds Tryd.pinned (.plain (OpenSpec.ofChange chainUndoesSpec)) chainUndoesCard

/-- THE TIED CARD OF 'phoenixlaw16.ChainLoops'. -/
def chainLoopsCard : Claim7 := { stood := { row := chainLoopsRow, standIns := [], harness := (true, "2adc1ecbf4d439bb57095002e4b4f81fe12ca7232e48c0187434f08baab0ef92"), looks := true }, kinds := [], alts := [], laidByText := true, laidKinds := [.sentinel, .sentinel, .sentinel, .sentinel, .sentinel, .sentinel, .sentinel, .sentinel, .sentinel, .sentinel, .sentinel, .sentinel, .sentinel, .sentinel, .sentinel, .sentinel, .sentinel, .sentinel], laidTests := true, laidLooks := .later }
def ChainLoopsCardSaid : Prop := Claim7.holds Tryd.pinned (.plain (OpenSpec.ofChange chainLoopsSpec)) chainLoopsCard

/-- THE TIED CARD OF 'phoenixlaw16.ChainMixed'. -/
def chainMixedCard : Claim7 := { stood := { row := chainMixedRow, standIns := [], harness := (true, "2adc1ecbf4d439bb57095002e4b4f81fe12ca7232e48c0187434f08baab0ef92"), looks := true }, kinds := [], alts := [], laidByText := true, laidKinds := [.sentinel, .sentinel, .sentinel, .sentinel, .sentinel, .sentinel, .sentinel, .sentinel, .sentinel, .sentinel, .sentinel, .sentinel, .sentinel, .sentinel, .sentinel, .sentinel, .sentinel, .sentinel], laidTests := true, laidLooks := .later }
def ChainMixedCardSaid : Prop := Claim7.holds Tryd.pinned (.plain (OpenSpec.ofChange chainMixedSpec)) chainMixedCard

/-- THE TIED CARD OF 'phoenixlaw4.BlockTurned'. -/
def blockTurnedCard : Claim7 := { stood := { row := blockTurnedRow, standIns := [], harness := (true, "2adc1ecbf4d439bb57095002e4b4f81fe12ca7232e48c0187434f08baab0ef92"), looks := true }, kinds := [], alts := [], laidByText := true, laidKinds := [.sentinel, .sentinel, .sentinel, .sentinel], laidTests := true, laidLooks := .later }
def BlockTurnedCardSaid : Prop := Claim7.holds Tryd.pinned (.plain (OpenSpec.ofChange blockTurnedSpec)) blockTurnedCard

/-- THE TIED CARD OF 'phoenixlaw4.BlockSays'. -/
def blockSaysCard : Claim7 := { stood := { row := blockSaysRow, standIns := [], harness := (true, "2adc1ecbf4d439bb57095002e4b4f81fe12ca7232e48c0187434f08baab0ef92"), looks := true }, kinds := [], alts := [], laidByText := true, laidKinds := [.sentinel, .sentinel, .sentinel, .sentinel, .sentinel, .sentinel, .sentinel, .sentinel, .sentinel, .sentinel, .sentinel, .sentinel, .sentinel, .sentinel, .sentinel, .sentinel, .sentinel, .sentinel], laidTests := true, laidLooks := .later }
def BlockSaysCardSaid : Prop := Claim7.holds Tryd.pinned (.plain (OpenSpec.ofChange blockSaysSpec)) blockSaysCard

/-- THE TIED CARD OF 'phoenixlaw4.BlockBack'. -/
def blockBackCard : Claim7 := { stood := { row := blockBackRow, standIns := [], harness := (true, "2adc1ecbf4d439bb57095002e4b4f81fe12ca7232e48c0187434f08baab0ef92"), looks := true }, kinds := [], alts := [], laidByText := true, laidKinds := [.sentinel, .sentinel, .sentinel, .sentinel, .sentinel, .sentinel, .sentinel, .sentinel, .sentinel, .sentinel, .sentinel, .sentinel, .sentinel, .sentinel, .sentinel, .sentinel, .sentinel, .sentinel], laidTests := true, laidLooks := .later }
def BlockBackCardSaid : Prop := Claim7.holds Tryd.pinned (.plain (OpenSpec.ofChange blockBackSpec)) blockBackCard

/-- THE TIED CARD OF 'phoenixlaw4.BlockRecords'. -/
def blockRecordsCard : Claim7 := { stood := { row := blockRecordsRow, standIns := [], harness := (true, "2adc1ecbf4d439bb57095002e4b4f81fe12ca7232e48c0187434f08baab0ef92"), looks := true }, kinds := [], alts := [], laidByText := true, laidKinds := [.sentinel, .sentinel, .sentinel, .sentinel], laidTests := true, laidLooks := .later }
def BlockRecordsCardSaid : Prop := Claim7.holds Tryd.pinned (.plain (OpenSpec.ofChange blockRecordsSpec)) blockRecordsCard

/-- THE TIED CARD OF 'phoenixlaw4.BlockWrong'. -/
def blockWrongCard : Claim7 := { stood := { row := blockWrongRow, standIns := [], harness := (true, "2adc1ecbf4d439bb57095002e4b4f81fe12ca7232e48c0187434f08baab0ef92"), looks := true }, kinds := [], alts := [], laidByText := true, laidKinds := [.sentinel, .sentinel, .sentinel, .sentinel, .sentinel, .sentinel, .sentinel, .sentinel, .sentinel, .sentinel, .sentinel, .sentinel, .sentinel, .sentinel, .sentinel, .sentinel, .sentinel, .sentinel], laidTests := true, laidLooks := .later }
def BlockWrongCardSaid : Prop := Claim7.holds Tryd.pinned (.plain (OpenSpec.ofChange blockWrongSpec)) blockWrongCard

/-- THE SECOND FORM's CARD OF 'phoenixlaw6.WalNumbers'. -/
def walNumbersUptoCard : Claim7 := { stood := { row := walNumbersUptoRow, standIns := [], harness := (true, "2adc1ecbf4d439bb57095002e4b4f81fe12ca7232e48c0187434f08baab0ef92"), looks := true }, kinds := [], alts := [], laidByText := true, laidKinds := [.sentinel, .sentinel, .sentinel, .sentinel, .sentinel, .sentinel, .sentinel, .sentinel, .sentinel, .sentinel, .sentinel, .sentinel, .sentinel, .sentinel, .sentinel, .sentinel, .sentinel, .sentinel], laidTests := true, laidLooks := .later }
def WalNumbersUptoCardSaid : Prop := Claim7.holds Tryd.pinned (.plain (OpenSpec.upto walNumbersSpec)) walNumbersUptoCard

/-- THE SECOND FORM's CARD OF 'phoenixlaw2.DiskLoads'. -/
def diskLoadsUptoCard : Claim7 := { stood := { row := diskLoadsUptoRow, standIns := [], harness := (true, "2adc1ecbf4d439bb57095002e4b4f81fe12ca7232e48c0187434f08baab0ef92"), looks := true }, kinds := [], alts := [], laidByText := true, laidKinds := [.sentinel, .sentinel, .sentinel, .sentinel, .sentinel, .sentinel, .sentinel, .sentinel, .sentinel, .sentinel, .sentinel, .sentinel, .sentinel, .sentinel, .sentinel, .sentinel, .sentinel, .sentinel], laidTests := true, laidLooks := .later }
def DiskLoadsUptoCardSaid : Prop := Claim7.holds Tryd.pinned (.plain (OpenSpec.upto diskLoadsSpec)) diskLoadsUptoCard

/-- THE SECOND FORM's CARD OF 'phoenixlaw16.ChainBase'. -/
def chainBaseUptoCard : Claim7 := { stood := { row := chainBaseUptoRow, standIns := [], harness := (true, "2adc1ecbf4d439bb57095002e4b4f81fe12ca7232e48c0187434f08baab0ef92"), looks := true }, kinds := [], alts := [], laidByText := true, laidKinds := [.sentinel, .sentinel, .sentinel, .sentinel, .sentinel, .sentinel, .sentinel, .sentinel, .sentinel, .sentinel, .sentinel, .sentinel, .sentinel, .sentinel, .sentinel, .sentinel, .sentinel, .sentinel], laidTests := true, laidLooks := .later }
def ChainBaseUptoCardSaid : Prop := Claim7.holds Tryd.pinned (.plain (OpenSpec.upto chainBaseSpec)) chainBaseUptoCard

/-- THE SECOND FORM's CARD OF 'phoenixlaw16.ChainSays'. -/
def chainSaysUptoCard : Claim7 := { stood := { row := chainSaysUptoRow, standIns := [], harness := (true, "2adc1ecbf4d439bb57095002e4b4f81fe12ca7232e48c0187434f08baab0ef92"), looks := true }, kinds := [], alts := [], laidByText := true, laidKinds := [.sentinel, .sentinel, .sentinel, .sentinel, .sentinel, .sentinel, .sentinel, .sentinel, .sentinel, .sentinel, .sentinel, .sentinel, .sentinel, .sentinel, .sentinel, .sentinel, .sentinel, .sentinel], laidTests := true, laidLooks := .later }
def ChainSaysUptoCardSaid : Prop := Claim7.holds Tryd.pinned (.plain (OpenSpec.upto chainSaysSpec)) chainSaysUptoCard

/-- THE SECOND FORM's CARD OF 'phoenixlaw16.ChainUndoes'. -/
def chainUndoesUptoCard : Claim7 := { stood := { row := chainUndoesUptoRow, standIns := [], harness := (true, "2adc1ecbf4d439bb57095002e4b4f81fe12ca7232e48c0187434f08baab0ef92"), looks := true }, kinds := [], alts := [], laidByText := true, laidKinds := [.sentinel, .sentinel, .sentinel, .sentinel, .sentinel, .sentinel, .sentinel, .sentinel, .sentinel, .sentinel, .sentinel, .sentinel, .sentinel, .sentinel, .sentinel, .sentinel, .sentinel, .sentinel], laidTests := true, laidLooks := .later }
def ChainUndoesUptoCardSaid : Prop := Claim7.holds Tryd.pinned (.plain (OpenSpec.upto chainUndoesSpec)) chainUndoesUptoCard

/-- THE SECOND FORM's CARD OF 'phoenixlaw16.ChainLoops'. -/
def chainLoopsUptoCard : Claim7 := { stood := { row := chainLoopsUptoRow, standIns := [], harness := (true, "2adc1ecbf4d439bb57095002e4b4f81fe12ca7232e48c0187434f08baab0ef92"), looks := true }, kinds := [], alts := [], laidByText := true, laidKinds := [.sentinel, .sentinel, .sentinel, .sentinel, .sentinel, .sentinel, .sentinel, .sentinel, .sentinel, .sentinel, .sentinel, .sentinel, .sentinel, .sentinel, .sentinel, .sentinel, .sentinel, .sentinel], laidTests := true, laidLooks := .later }
def ChainLoopsUptoCardSaid : Prop := Claim7.holds Tryd.pinned (.plain (OpenSpec.upto chainLoopsSpec)) chainLoopsUptoCard

/-- THE SECOND FORM's CARD OF 'phoenixlaw16.ChainMixed'. -/
def chainMixedUptoCard : Claim7 := { stood := { row := chainMixedUptoRow, standIns := [], harness := (true, "2adc1ecbf4d439bb57095002e4b4f81fe12ca7232e48c0187434f08baab0ef92"), looks := true }, kinds := [], alts := [], laidByText := true, laidKinds := [.sentinel, .sentinel, .sentinel, .sentinel, .sentinel, .sentinel, .sentinel, .sentinel, .sentinel, .sentinel, .sentinel, .sentinel, .sentinel, .sentinel, .sentinel, .sentinel, .sentinel, .sentinel], laidTests := true, laidLooks := .later }
def ChainMixedUptoCardSaid : Prop := Claim7.holds Tryd.pinned (.plain (OpenSpec.upto chainMixedSpec)) chainMixedUptoCard

/-- THE SECOND FORM's CARD OF 'phoenixlaw4.BlockTurned'. -/
def blockTurnedUptoCard : Claim7 := { stood := { row := blockTurnedUptoRow, standIns := [], harness := (true, "2adc1ecbf4d439bb57095002e4b4f81fe12ca7232e48c0187434f08baab0ef92"), looks := true }, kinds := [], alts := [], laidByText := true, laidKinds := [.sentinel, .sentinel, .sentinel, .sentinel], laidTests := true, laidLooks := .later }
def BlockTurnedUptoCardSaid : Prop := Claim7.holds Tryd.pinned (.plain (OpenSpec.upto blockTurnedSpec)) blockTurnedUptoCard

/-- THE SECOND FORM's CARD OF 'phoenixlaw4.BlockSays'. -/
def blockSaysUptoCard : Claim7 := { stood := { row := blockSaysUptoRow, standIns := [], harness := (true, "2adc1ecbf4d439bb57095002e4b4f81fe12ca7232e48c0187434f08baab0ef92"), looks := true }, kinds := [], alts := [], laidByText := true, laidKinds := [.sentinel, .sentinel, .sentinel, .sentinel, .sentinel, .sentinel, .sentinel, .sentinel, .sentinel, .sentinel, .sentinel, .sentinel, .sentinel, .sentinel, .sentinel, .sentinel, .sentinel, .sentinel], laidTests := true, laidLooks := .later }
def BlockSaysUptoCardSaid : Prop := Claim7.holds Tryd.pinned (.plain (OpenSpec.upto blockSaysSpec)) blockSaysUptoCard

/-- THE SECOND FORM's CARD OF 'phoenixlaw4.BlockBack'. -/
def blockBackUptoCard : Claim7 := { stood := { row := blockBackUptoRow, standIns := [], harness := (true, "2adc1ecbf4d439bb57095002e4b4f81fe12ca7232e48c0187434f08baab0ef92"), looks := true }, kinds := [], alts := [], laidByText := true, laidKinds := [.sentinel, .sentinel, .sentinel, .sentinel, .sentinel, .sentinel, .sentinel, .sentinel, .sentinel, .sentinel, .sentinel, .sentinel, .sentinel, .sentinel, .sentinel, .sentinel, .sentinel, .sentinel], laidTests := true, laidLooks := .later }
def BlockBackUptoCardSaid : Prop := Claim7.holds Tryd.pinned (.plain (OpenSpec.upto blockBackSpec)) blockBackUptoCard

/-- THE SECOND FORM's CARD OF 'phoenixlaw4.BlockRecords'. -/
def blockRecordsUptoCard : Claim7 := { stood := { row := blockRecordsUptoRow, standIns := [], harness := (true, "2adc1ecbf4d439bb57095002e4b4f81fe12ca7232e48c0187434f08baab0ef92"), looks := true }, kinds := [], alts := [], laidByText := true, laidKinds := [.sentinel, .sentinel, .sentinel, .sentinel], laidTests := true, laidLooks := .later }
def BlockRecordsUptoCardSaid : Prop := Claim7.holds Tryd.pinned (.plain (OpenSpec.upto blockRecordsSpec)) blockRecordsUptoCard

/-- THE SECOND FORM's CARD OF 'phoenixlaw4.BlockWrong'. -/
def blockWrongUptoCard : Claim7 := { stood := { row := blockWrongUptoRow, standIns := [], harness := (true, "2adc1ecbf4d439bb57095002e4b4f81fe12ca7232e48c0187434f08baab0ef92"), looks := true }, kinds := [], alts := [], laidByText := true, laidKinds := [.sentinel, .sentinel, .sentinel, .sentinel, .sentinel, .sentinel, .sentinel, .sentinel, .sentinel, .sentinel, .sentinel, .sentinel, .sentinel, .sentinel, .sentinel, .sentinel, .sentinel, .sentinel], laidTests := true, laidLooks := .later }
def BlockWrongUptoCardSaid : Prop := Claim7.holds Tryd.pinned (.plain (OpenSpec.upto blockWrongSpec)) blockWrongUptoCard
end Rows
end Go.Proofs.YtccfiohcblecoaaDoor
