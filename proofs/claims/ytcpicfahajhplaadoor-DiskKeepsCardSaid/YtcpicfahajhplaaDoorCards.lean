/-
  DERIVED. GIVEN WITH THE SEED: THE CARDS: each row of YtcpicfahajhplaaDoorRows.lean that lists a variable, with what it lists TIED to the program's text (the seventh form; the later family's looks); each row that meets fmt, with fmt's text TOLD by the authors' own Lean function (tested against real Go, not proved from fmt's source: count such statements apart). THE CARD IS WHAT COUNTS. Prove the row's statement (the work); the ties are given (YtcpicfahajhplaaDoorTie.lean); close each card by the builder's one call (the guide's Derived/Test/ToyasCard.lean, 'card_holds'). Laid BY PROGRAM, IN A SANDBOX (cutbox-door.mjs). By AI agents, Wed Nov 11 2026. No macro, syntax, notation, axiom, sorry.
-/
import Derived.Test.YtcpicfahajhplaaDoorRows
import GoSem.ClaimSeven
namespace Go.Proofs.YtcpicfahajhplaaDoor
namespace Rows

/-- THE TIED CARD OF 'phoenixlaw2.DiskErrors'. -/
def diskErrorsCard : Claim7 := { stood := { row := diskErrorsRow, standIns := [], harness := (true, "9a24e157291681f1d5a8244fcec87e9b99a91d0295b1c804e9cfbf48694e662f"), looks := true }, kinds := [], alts := [], laidByText := true, laidKinds := [.sentinel, .sentinel, .sentinel, .sentinel, .sentinel, .sentinel, .sentinel, .sentinel, .sentinel, .sentinel, .sentinel, .sentinel, .sentinel, .sentinel, .sentinel, .sentinel, .sentinel, .sentinel], laidTests := true, laidLooks := .later }
def DiskErrorsCardSaid : Prop := Claim7.holds Tryd.pinned (.plain (OpenSpec.ofChange diskErrorsSpec)) diskErrorsCard

/-- THE TIED CARD OF 'phoenixlaw2.DiskLoose'. -/
def diskLooseCard : Claim7 := { stood := { row := diskLooseRow, standIns := [], harness := (true, "9a24e157291681f1d5a8244fcec87e9b99a91d0295b1c804e9cfbf48694e662f"), looks := true }, kinds := [], alts := [], laidByText := true, laidKinds := [.sentinel, .sentinel, .sentinel], laidTests := true, laidLooks := .later }
def DiskLooseCardSaid : Prop := Claim7.holds Tryd.pinned (.plain (OpenSpec.ofChange diskLooseSpec)) diskLooseCard

/-- THE TIED CARD OF 'phoenixlaw2.DiskKeeps'. -/
def diskKeepsCard : Claim7 := { stood := { row := diskKeepsRow, standIns := [], harness := (true, "9a24e157291681f1d5a8244fcec87e9b99a91d0295b1c804e9cfbf48694e662f"), looks := true }, kinds := [], alts := [], laidByText := true, laidKinds := [.sentinel, .sentinel, .sentinel], laidTests := true, laidLooks := .later }
def DiskKeepsCardSaid : Prop := Claim7.holds Tryd.pinned (.plain (OpenSpec.ofChange diskKeepsSpec)) diskKeepsCard

/-- THE TIED CARD OF 'phoenixlaw2.DiskLoads'. -/
def diskLoadsCard : Claim7 := { stood := { row := diskLoadsRow, standIns := [], harness := (true, "9a24e157291681f1d5a8244fcec87e9b99a91d0295b1c804e9cfbf48694e662f"), looks := true }, kinds := [], alts := [], laidByText := true, laidKinds := [.sentinel, .sentinel, .sentinel, .sentinel, .sentinel, .sentinel, .sentinel, .sentinel, .sentinel, .sentinel, .sentinel, .sentinel, .sentinel, .sentinel, .sentinel, .sentinel, .sentinel, .sentinel], laidTests := true, laidLooks := .later }
def DiskLoadsCardSaid : Prop := Claim7.holds Tryd.pinned (.plain (OpenSpec.ofChange diskLoadsSpec)) diskLoadsCard

/-- THE TIED CARD OF 'phoenixlaw2.DiskFuses'. -/
def diskFusesCard : Claim7 := { stood := { row := diskFusesRow, standIns := [], harness := (true, "9a24e157291681f1d5a8244fcec87e9b99a91d0295b1c804e9cfbf48694e662f"), looks := true }, kinds := [], alts := [], laidByText := true, laidKinds := [.sentinel, .sentinel, .sentinel, .sentinel, .sentinel, .sentinel, .sentinel, .sentinel, .sentinel, .sentinel, .sentinel, .sentinel, .sentinel, .sentinel, .sentinel, .sentinel, .sentinel, .sentinel], laidTests := true, laidLooks := .later }
def DiskFusesCardSaid : Prop := Claim7.holds Tryd.pinned (.plain (OpenSpec.ofChange diskFusesSpec)) diskFusesCard

/-- THE TIED CARD OF 'phoenixlaw4.BlockTurned'. -/
def blockTurnedCard : Claim7 := { stood := { row := blockTurnedRow, standIns := [], harness := (true, "9a24e157291681f1d5a8244fcec87e9b99a91d0295b1c804e9cfbf48694e662f"), looks := true }, kinds := [], alts := [], laidByText := true, laidKinds := [.sentinel, .sentinel, .sentinel, .sentinel], laidTests := true, laidLooks := .later }
def BlockTurnedCardSaid : Prop := Claim7.holds Tryd.pinned (.plain (OpenSpec.ofChange blockTurnedSpec)) blockTurnedCard

/-- THE TIED CARD OF 'phoenixlaw4.BlockSays'. -/
def blockSaysCard : Claim7 := { stood := { row := blockSaysRow, standIns := [], harness := (true, "9a24e157291681f1d5a8244fcec87e9b99a91d0295b1c804e9cfbf48694e662f"), looks := true }, kinds := [], alts := [], laidByText := true, laidKinds := [.sentinel, .sentinel, .sentinel, .sentinel, .sentinel, .sentinel, .sentinel, .sentinel, .sentinel, .sentinel, .sentinel, .sentinel, .sentinel, .sentinel, .sentinel, .sentinel, .sentinel, .sentinel], laidTests := true, laidLooks := .later }
def BlockSaysCardSaid : Prop := Claim7.holds Tryd.pinned (.plain (OpenSpec.ofChange blockSaysSpec)) blockSaysCard

/-- THE TIED CARD OF 'phoenixlaw4.BlockBack'. -/
def blockBackCard : Claim7 := { stood := { row := blockBackRow, standIns := [], harness := (true, "9a24e157291681f1d5a8244fcec87e9b99a91d0295b1c804e9cfbf48694e662f"), looks := true }, kinds := [], alts := [], laidByText := true, laidKinds := [.sentinel, .sentinel, .sentinel, .sentinel, .sentinel, .sentinel, .sentinel, .sentinel, .sentinel, .sentinel, .sentinel, .sentinel, .sentinel, .sentinel, .sentinel, .sentinel, .sentinel, .sentinel], laidTests := true, laidLooks := .later }
def BlockBackCardSaid : Prop := Claim7.holds Tryd.pinned (.plain (OpenSpec.ofChange blockBackSpec)) blockBackCard

/-- THE TIED CARD OF 'phoenixlaw4.BlockRecords'. -/
def blockRecordsCard : Claim7 := { stood := { row := blockRecordsRow, standIns := [], harness := (true, "9a24e157291681f1d5a8244fcec87e9b99a91d0295b1c804e9cfbf48694e662f"), looks := true }, kinds := [], alts := [], laidByText := true, laidKinds := [.sentinel, .sentinel, .sentinel, .sentinel], laidTests := true, laidLooks := .later }
def BlockRecordsCardSaid : Prop := Claim7.holds Tryd.pinned (.plain (OpenSpec.ofChange blockRecordsSpec)) blockRecordsCard

/-- THE TIED CARD OF 'phoenixlaw4.BlockWrong'. -/
def blockWrongCard : Claim7 := { stood := { row := blockWrongRow, standIns := [], harness := (true, "9a24e157291681f1d5a8244fcec87e9b99a91d0295b1c804e9cfbf48694e662f"), looks := true }, kinds := [], alts := [], laidByText := true, laidKinds := [.sentinel, .sentinel, .sentinel, .sentinel, .sentinel, .sentinel, .sentinel, .sentinel, .sentinel, .sentinel, .sentinel, .sentinel, .sentinel, .sentinel, .sentinel, .sentinel, .sentinel, .sentinel], laidTests := true, laidLooks := .later }
def BlockWrongCardSaid : Prop := Claim7.holds Tryd.pinned (.plain (OpenSpec.ofChange blockWrongSpec)) blockWrongCard

/-- THE SECOND FORM's CARD OF 'phoenixlaw2.DiskErrors'. -/
def diskErrorsUptoCard : Claim7 := { stood := { row := diskErrorsUptoRow, standIns := [], harness := (true, "9a24e157291681f1d5a8244fcec87e9b99a91d0295b1c804e9cfbf48694e662f"), looks := true }, kinds := [], alts := [], laidByText := true, laidKinds := [.sentinel, .sentinel, .sentinel, .sentinel, .sentinel, .sentinel, .sentinel, .sentinel, .sentinel, .sentinel, .sentinel, .sentinel, .sentinel, .sentinel, .sentinel, .sentinel, .sentinel, .sentinel], laidTests := true, laidLooks := .later }
def DiskErrorsUptoCardSaid : Prop := Claim7.holds Tryd.pinned (.plain (OpenSpec.upto diskErrorsSpec)) diskErrorsUptoCard

/-- THE SECOND FORM's CARD OF 'phoenixlaw2.DiskLoose'. -/
def diskLooseUptoCard : Claim7 := { stood := { row := diskLooseUptoRow, standIns := [], harness := (true, "9a24e157291681f1d5a8244fcec87e9b99a91d0295b1c804e9cfbf48694e662f"), looks := true }, kinds := [], alts := [], laidByText := true, laidKinds := [.sentinel, .sentinel, .sentinel], laidTests := true, laidLooks := .later }
def DiskLooseUptoCardSaid : Prop := Claim7.holds Tryd.pinned (.plain (OpenSpec.upto diskLooseSpec)) diskLooseUptoCard

/-- THE SECOND FORM's CARD OF 'phoenixlaw2.DiskKeeps'. -/
def diskKeepsUptoCard : Claim7 := { stood := { row := diskKeepsUptoRow, standIns := [], harness := (true, "9a24e157291681f1d5a8244fcec87e9b99a91d0295b1c804e9cfbf48694e662f"), looks := true }, kinds := [], alts := [], laidByText := true, laidKinds := [.sentinel, .sentinel, .sentinel], laidTests := true, laidLooks := .later }
def DiskKeepsUptoCardSaid : Prop := Claim7.holds Tryd.pinned (.plain (OpenSpec.upto diskKeepsSpec)) diskKeepsUptoCard

/-- THE SECOND FORM's CARD OF 'phoenixlaw2.DiskLoads'. -/
def diskLoadsUptoCard : Claim7 := { stood := { row := diskLoadsUptoRow, standIns := [], harness := (true, "9a24e157291681f1d5a8244fcec87e9b99a91d0295b1c804e9cfbf48694e662f"), looks := true }, kinds := [], alts := [], laidByText := true, laidKinds := [.sentinel, .sentinel, .sentinel, .sentinel, .sentinel, .sentinel, .sentinel, .sentinel, .sentinel, .sentinel, .sentinel, .sentinel, .sentinel, .sentinel, .sentinel, .sentinel, .sentinel, .sentinel], laidTests := true, laidLooks := .later }
def DiskLoadsUptoCardSaid : Prop := Claim7.holds Tryd.pinned (.plain (OpenSpec.upto diskLoadsSpec)) diskLoadsUptoCard

/-- THE SECOND FORM's CARD OF 'phoenixlaw2.DiskFuses'. -/
def diskFusesUptoCard : Claim7 := { stood := { row := diskFusesUptoRow, standIns := [], harness := (true, "9a24e157291681f1d5a8244fcec87e9b99a91d0295b1c804e9cfbf48694e662f"), looks := true }, kinds := [], alts := [], laidByText := true, laidKinds := [.sentinel, .sentinel, .sentinel, .sentinel, .sentinel, .sentinel, .sentinel, .sentinel, .sentinel, .sentinel, .sentinel, .sentinel, .sentinel, .sentinel, .sentinel, .sentinel, .sentinel, .sentinel], laidTests := true, laidLooks := .later }
def DiskFusesUptoCardSaid : Prop := Claim7.holds Tryd.pinned (.plain (OpenSpec.upto diskFusesSpec)) diskFusesUptoCard

/-- THE SECOND FORM's CARD OF 'phoenixlaw4.BlockTurned'. -/
def blockTurnedUptoCard : Claim7 := { stood := { row := blockTurnedUptoRow, standIns := [], harness := (true, "9a24e157291681f1d5a8244fcec87e9b99a91d0295b1c804e9cfbf48694e662f"), looks := true }, kinds := [], alts := [], laidByText := true, laidKinds := [.sentinel, .sentinel, .sentinel, .sentinel], laidTests := true, laidLooks := .later }
def BlockTurnedUptoCardSaid : Prop := Claim7.holds Tryd.pinned (.plain (OpenSpec.upto blockTurnedSpec)) blockTurnedUptoCard

/-- THE SECOND FORM's CARD OF 'phoenixlaw4.BlockSays'. -/
def blockSaysUptoCard : Claim7 := { stood := { row := blockSaysUptoRow, standIns := [], harness := (true, "9a24e157291681f1d5a8244fcec87e9b99a91d0295b1c804e9cfbf48694e662f"), looks := true }, kinds := [], alts := [], laidByText := true, laidKinds := [.sentinel, .sentinel, .sentinel, .sentinel, .sentinel, .sentinel, .sentinel, .sentinel, .sentinel, .sentinel, .sentinel, .sentinel, .sentinel, .sentinel, .sentinel, .sentinel, .sentinel, .sentinel], laidTests := true, laidLooks := .later }
def BlockSaysUptoCardSaid : Prop := Claim7.holds Tryd.pinned (.plain (OpenSpec.upto blockSaysSpec)) blockSaysUptoCard

/-- THE SECOND FORM's CARD OF 'phoenixlaw4.BlockBack'. -/
def blockBackUptoCard : Claim7 := { stood := { row := blockBackUptoRow, standIns := [], harness := (true, "9a24e157291681f1d5a8244fcec87e9b99a91d0295b1c804e9cfbf48694e662f"), looks := true }, kinds := [], alts := [], laidByText := true, laidKinds := [.sentinel, .sentinel, .sentinel, .sentinel, .sentinel, .sentinel, .sentinel, .sentinel, .sentinel, .sentinel, .sentinel, .sentinel, .sentinel, .sentinel, .sentinel, .sentinel, .sentinel, .sentinel], laidTests := true, laidLooks := .later }
def BlockBackUptoCardSaid : Prop := Claim7.holds Tryd.pinned (.plain (OpenSpec.upto blockBackSpec)) blockBackUptoCard

/-- THE SECOND FORM's CARD OF 'phoenixlaw4.BlockRecords'. -/
def blockRecordsUptoCard : Claim7 := { stood := { row := blockRecordsUptoRow, standIns := [], harness := (true, "9a24e157291681f1d5a8244fcec87e9b99a91d0295b1c804e9cfbf48694e662f"), looks := true }, kinds := [], alts := [], laidByText := true, laidKinds := [.sentinel, .sentinel, .sentinel, .sentinel], laidTests := true, laidLooks := .later }
def BlockRecordsUptoCardSaid : Prop := Claim7.holds Tryd.pinned (.plain (OpenSpec.upto blockRecordsSpec)) blockRecordsUptoCard

/-- THE SECOND FORM's CARD OF 'phoenixlaw4.BlockWrong'. -/
def blockWrongUptoCard : Claim7 := { stood := { row := blockWrongUptoRow, standIns := [], harness := (true, "9a24e157291681f1d5a8244fcec87e9b99a91d0295b1c804e9cfbf48694e662f"), looks := true }, kinds := [], alts := [], laidByText := true, laidKinds := [.sentinel, .sentinel, .sentinel, .sentinel, .sentinel, .sentinel, .sentinel, .sentinel, .sentinel, .sentinel, .sentinel, .sentinel, .sentinel, .sentinel, .sentinel, .sentinel, .sentinel, .sentinel], laidTests := true, laidLooks := .later }
def BlockWrongUptoCardSaid : Prop := Claim7.holds Tryd.pinned (.plain (OpenSpec.upto blockWrongSpec)) blockWrongUptoCard
end Rows
end Go.Proofs.YtcpicfahajhplaaDoor
