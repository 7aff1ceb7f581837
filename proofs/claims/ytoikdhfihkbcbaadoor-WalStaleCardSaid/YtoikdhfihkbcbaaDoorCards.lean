/-
  DERIVED. GIVEN WITH THE SEED: THE CARDS: each row of YtoikdhfihkbcbaaDoorRows.lean that lists a variable, with what it lists TIED to the program's text (the seventh form; the later family's looks); each row that meets fmt, with fmt's text TOLD by the authors' own Lean function (tested against real Go, not proved from fmt's source: count such statements apart). THE CARD IS WHAT COUNTS. Prove the row's statement (the work); the ties are given (YtoikdhfihkbcbaaDoorTie.lean); close each card by the builder's one call (the guide's Derived/Test/ToyasCard.lean, 'card_holds'). Laid BY PROGRAM, IN A SANDBOX (cutbox-door.mjs). By AI agents, Wed Nov 11 2026. No macro, syntax, notation, axiom, sorry.
-/
import Derived.Test.YtoikdhfihkbcbaaDoorRows
import GoSem.ClaimSeven
namespace Go.Proofs.YtoikdhfihkbcbaaDoor
namespace Rows

/-- THE TIED CARD OF 'phoenixlaw4.BlockTurned'. -/
def blockTurnedCard : Claim7 := { stood := { row := blockTurnedRow, standIns := [], harness := (true, "a75fcc120b7176d08132d7ac8afde125b5143df51b8449565fdf2c838a8698e3"), looks := true }, kinds := [], alts := [], laidByText := true, laidKinds := [.sentinel, .sentinel, .sentinel, .sentinel], laidTests := true, laidLooks := .later }
def BlockTurnedCardSaid : Prop := Claim7.holds Tryd.pinned (.plain (OpenSpec.ofChange blockTurnedSpec)) blockTurnedCard

/-- THE TIED CARD OF 'phoenixlaw4.BlockSays'. -/
def blockSaysCard : Claim7 := { stood := { row := blockSaysRow, standIns := [], harness := (true, "a75fcc120b7176d08132d7ac8afde125b5143df51b8449565fdf2c838a8698e3"), looks := true }, kinds := [], alts := [], laidByText := true, laidKinds := [.sentinel, .sentinel, .sentinel, .sentinel, .sentinel, .sentinel, .sentinel, .sentinel, .sentinel, .sentinel, .sentinel, .sentinel, .sentinel, .sentinel, .sentinel, .sentinel, .sentinel, .sentinel], laidTests := true, laidLooks := .later }
def BlockSaysCardSaid : Prop := Claim7.holds Tryd.pinned (.plain (OpenSpec.ofChange blockSaysSpec)) blockSaysCard

/-- THE TIED CARD OF 'phoenixlaw4.BlockBack'. -/
def blockBackCard : Claim7 := { stood := { row := blockBackRow, standIns := [], harness := (true, "a75fcc120b7176d08132d7ac8afde125b5143df51b8449565fdf2c838a8698e3"), looks := true }, kinds := [], alts := [], laidByText := true, laidKinds := [.sentinel, .sentinel, .sentinel, .sentinel, .sentinel, .sentinel, .sentinel, .sentinel, .sentinel, .sentinel, .sentinel, .sentinel, .sentinel, .sentinel, .sentinel, .sentinel, .sentinel, .sentinel], laidTests := true, laidLooks := .later }
def BlockBackCardSaid : Prop := Claim7.holds Tryd.pinned (.plain (OpenSpec.ofChange blockBackSpec)) blockBackCard

/-- THE TIED CARD OF 'phoenixlaw6.WalEnds'. -/
def walEndsCard : Claim7 := { stood := { row := walEndsRow, standIns := [], harness := (true, "a75fcc120b7176d08132d7ac8afde125b5143df51b8449565fdf2c838a8698e3"), looks := true }, kinds := [], alts := [], laidByText := true, laidKinds := [.sentinel, .sentinel, .sentinel, .sentinel, .sentinel, .sentinel, .sentinel, .sentinel, .sentinel, .sentinel, .sentinel, .sentinel, .sentinel, .sentinel, .sentinel, .sentinel, .sentinel, .sentinel], laidTests := true, laidLooks := .later }
def WalEndsCardSaid : Prop := Claim7.holds Tryd.pinned (.plain (OpenSpec.ofChange walEndsSpec)) walEndsCard

/-- THE TIED CARD OF 'phoenixlaw6.WalStale'. -/
def walStaleCard : Claim7 := { stood := { row := walStaleRow, standIns := [], harness := (true, "a75fcc120b7176d08132d7ac8afde125b5143df51b8449565fdf2c838a8698e3"), looks := true }, kinds := [], alts := [], laidByText := true, laidKinds := [.sentinel, .sentinel, .sentinel, .sentinel, .sentinel, .sentinel, .sentinel, .sentinel, .sentinel, .sentinel, .sentinel, .sentinel, .sentinel, .sentinel, .sentinel, .sentinel, .sentinel, .sentinel], laidTests := true, laidLooks := .later }
def WalStaleCardSaid : Prop := Claim7.holds Tryd.pinned (.plain (OpenSpec.ofChange walStaleSpec)) walStaleCard

/-- THE TIED CARD OF 'phoenixlaw6.WalBoots'. -/
def walBootsCard : Claim7 := { stood := { row := walBootsRow, standIns := [], harness := (true, "a75fcc120b7176d08132d7ac8afde125b5143df51b8449565fdf2c838a8698e3"), looks := true }, kinds := [], alts := [], laidByText := true, laidKinds := [.sentinel, .sentinel, .sentinel, .sentinel, .sentinel, .sentinel, .sentinel], laidTests := true, laidLooks := .later }
def WalBootsCardSaid : Prop := Claim7.holds Tryd.pinned (.plain (OpenSpec.ofChange walBootsSpec)) walBootsCard

/-- THE TIED CARD OF 'phoenixlaw6.WalFlushes'. -/
def walFlushesCard : Claim7 := { stood := { row := walFlushesRow, standIns := [], harness := (true, "a75fcc120b7176d08132d7ac8afde125b5143df51b8449565fdf2c838a8698e3"), looks := true }, kinds := [], alts := [], laidByText := true, laidKinds := [.sentinel, .sentinel, .sentinel, .sentinel, .sentinel, .sentinel, .sentinel], laidTests := true, laidLooks := .later }
def WalFlushesCardSaid : Prop := Claim7.holds Tryd.pinned (.plain (OpenSpec.ofChange walFlushesSpec)) walFlushesCard

/-- THE SECOND FORM's CARD OF 'phoenixlaw4.BlockTurned'. -/
def blockTurnedUptoCard : Claim7 := { stood := { row := blockTurnedUptoRow, standIns := [], harness := (true, "a75fcc120b7176d08132d7ac8afde125b5143df51b8449565fdf2c838a8698e3"), looks := true }, kinds := [], alts := [], laidByText := true, laidKinds := [.sentinel, .sentinel, .sentinel, .sentinel], laidTests := true, laidLooks := .later }
def BlockTurnedUptoCardSaid : Prop := Claim7.holds Tryd.pinned (.plain (OpenSpec.upto blockTurnedSpec)) blockTurnedUptoCard

/-- THE SECOND FORM's CARD OF 'phoenixlaw4.BlockSays'. -/
def blockSaysUptoCard : Claim7 := { stood := { row := blockSaysUptoRow, standIns := [], harness := (true, "a75fcc120b7176d08132d7ac8afde125b5143df51b8449565fdf2c838a8698e3"), looks := true }, kinds := [], alts := [], laidByText := true, laidKinds := [.sentinel, .sentinel, .sentinel, .sentinel, .sentinel, .sentinel, .sentinel, .sentinel, .sentinel, .sentinel, .sentinel, .sentinel, .sentinel, .sentinel, .sentinel, .sentinel, .sentinel, .sentinel], laidTests := true, laidLooks := .later }
def BlockSaysUptoCardSaid : Prop := Claim7.holds Tryd.pinned (.plain (OpenSpec.upto blockSaysSpec)) blockSaysUptoCard

/-- THE SECOND FORM's CARD OF 'phoenixlaw4.BlockBack'. -/
def blockBackUptoCard : Claim7 := { stood := { row := blockBackUptoRow, standIns := [], harness := (true, "a75fcc120b7176d08132d7ac8afde125b5143df51b8449565fdf2c838a8698e3"), looks := true }, kinds := [], alts := [], laidByText := true, laidKinds := [.sentinel, .sentinel, .sentinel, .sentinel, .sentinel, .sentinel, .sentinel, .sentinel, .sentinel, .sentinel, .sentinel, .sentinel, .sentinel, .sentinel, .sentinel, .sentinel, .sentinel, .sentinel], laidTests := true, laidLooks := .later }
def BlockBackUptoCardSaid : Prop := Claim7.holds Tryd.pinned (.plain (OpenSpec.upto blockBackSpec)) blockBackUptoCard

/-- THE SECOND FORM's CARD OF 'phoenixlaw6.WalEnds'. -/
def walEndsUptoCard : Claim7 := { stood := { row := walEndsUptoRow, standIns := [], harness := (true, "a75fcc120b7176d08132d7ac8afde125b5143df51b8449565fdf2c838a8698e3"), looks := true }, kinds := [], alts := [], laidByText := true, laidKinds := [.sentinel, .sentinel, .sentinel, .sentinel, .sentinel, .sentinel, .sentinel, .sentinel, .sentinel, .sentinel, .sentinel, .sentinel, .sentinel, .sentinel, .sentinel, .sentinel, .sentinel, .sentinel], laidTests := true, laidLooks := .later }
def WalEndsUptoCardSaid : Prop := Claim7.holds Tryd.pinned (.plain (OpenSpec.upto walEndsSpec)) walEndsUptoCard

/-- THE SECOND FORM's CARD OF 'phoenixlaw6.WalStale'. -/
def walStaleUptoCard : Claim7 := { stood := { row := walStaleUptoRow, standIns := [], harness := (true, "a75fcc120b7176d08132d7ac8afde125b5143df51b8449565fdf2c838a8698e3"), looks := true }, kinds := [], alts := [], laidByText := true, laidKinds := [.sentinel, .sentinel, .sentinel, .sentinel, .sentinel, .sentinel, .sentinel, .sentinel, .sentinel, .sentinel, .sentinel, .sentinel, .sentinel, .sentinel, .sentinel, .sentinel, .sentinel, .sentinel], laidTests := true, laidLooks := .later }
def WalStaleUptoCardSaid : Prop := Claim7.holds Tryd.pinned (.plain (OpenSpec.upto walStaleSpec)) walStaleUptoCard

/-- THE SECOND FORM's CARD OF 'phoenixlaw6.WalBoots'. -/
def walBootsUptoCard : Claim7 := { stood := { row := walBootsUptoRow, standIns := [], harness := (true, "a75fcc120b7176d08132d7ac8afde125b5143df51b8449565fdf2c838a8698e3"), looks := true }, kinds := [], alts := [], laidByText := true, laidKinds := [.sentinel, .sentinel, .sentinel, .sentinel, .sentinel, .sentinel, .sentinel], laidTests := true, laidLooks := .later }
def WalBootsUptoCardSaid : Prop := Claim7.holds Tryd.pinned (.plain (OpenSpec.upto walBootsSpec)) walBootsUptoCard

/-- THE SECOND FORM's CARD OF 'phoenixlaw6.WalFlushes'. -/
def walFlushesUptoCard : Claim7 := { stood := { row := walFlushesUptoRow, standIns := [], harness := (true, "a75fcc120b7176d08132d7ac8afde125b5143df51b8449565fdf2c838a8698e3"), looks := true }, kinds := [], alts := [], laidByText := true, laidKinds := [.sentinel, .sentinel, .sentinel, .sentinel, .sentinel, .sentinel, .sentinel], laidTests := true, laidLooks := .later }
def WalFlushesUptoCardSaid : Prop := Claim7.holds Tryd.pinned (.plain (OpenSpec.upto walFlushesSpec)) walFlushesUptoCard
end Rows
end Go.Proofs.YtoikdhfihkbcbaaDoor
