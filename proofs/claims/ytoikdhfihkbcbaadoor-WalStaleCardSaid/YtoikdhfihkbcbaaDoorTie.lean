/-
  DERIVED. GIVEN WITH THE SEED: THE PROGRAM's TIES (one call each: nine closed facts by the kernel) AND EACH ROW's TIE, after the 31st guide's Derived/Test/Toyas{Tie, Card}.lean. No idea stands in it: it is a product of the set-up. Laid BY PROGRAM, IN A SANDBOX (cutbox-door.mjs). By AI agents, Wed Nov 11 2026. No macro, syntax, notation, axiom, sorry.
-/
import Derived.Test.YtoikdhfihkbcbaaDoorRows
import Derived.LaidByTextLater
import Derived.SevenTiedAt
import Derived.LaidSub
import Derived.LaidOnce
namespace Go.Proofs.YtoikdhfihkbcbaaDoor
open Go
set_option maxRecDepth 100000
theorem seatTie1 : Tryd.prog.laidByTextLater [("phoenix/api.ErrOff", Rows.laid_phoenix_api_ErrOff), ("phoenix/api.ErrRange", Rows.laid_phoenix_api_ErrRange), ("phoenix/api.ErrShort", Rows.laid_phoenix_api_ErrShort), ("phoenix/api.ErrRec", Rows.laid_phoenix_api_ErrRec), ("phoenix/api.ErrBlock", Rows.laid_phoenix_api_ErrBlock), ("phoenix/api.ErrMaster", Rows.laid_phoenix_api_ErrMaster), ("phoenix/api.ErrPage", Rows.laid_phoenix_api_ErrPage), ("phoenix/api.ErrLog", Rows.laid_phoenix_api_ErrLog), ("phoenix/api.ErrLogFull", Rows.laid_phoenix_api_ErrLogFull), ("phoenix/api.ErrFull", Rows.laid_phoenix_api_ErrFull), ("phoenix/api.ErrLocked", Rows.laid_phoenix_api_ErrLocked), ("phoenix/api.ErrDeadlock", Rows.laid_phoenix_api_ErrDeadlock), ("phoenix/api.ErrNoTxn", Rows.laid_phoenix_api_ErrNoTxn), ("phoenix/api.ErrOpen", Rows.laid_phoenix_api_ErrOpen), ("phoenix/api.ErrSave", Rows.laid_phoenix_api_ErrSave), ("phoenix/api.ErrBusy", Rows.laid_phoenix_api_ErrBusy), ("phoenix/api.ErrLimit", Rows.laid_phoenix_api_ErrLimit), ("phoenix/api.ErrClosed", Rows.laid_phoenix_api_ErrClosed)] [.sentinel, .sentinel, .sentinel, .sentinel, .sentinel, .sentinel, .sentinel, .sentinel, .sentinel, .sentinel, .sentinel, .sentinel, .sentinel, .sentinel, .sentinel, .sentinel, .sentinel, .sentinel] true :=
  Program.laidByTextLater_by_one 351 8 2 (by kernel_rfl) (by kernel_rfl) (by kernel_rfl) (by kernel_rfl) (by kernel_rfl) (by kernel_rfl) (fun _ _ => by kernel_rfl)
theorem noOwnUnsafe : Tryd.pinned.checked.prog.headLifts.contains "ownunsafe" = false := by kernel_rfl
theorem tie : Tryd.prog.laidByTextLater [("phoenix/api.ErrRange", Rows.laid_phoenix_api_ErrRange), ("phoenix/api.ErrShort", Rows.laid_phoenix_api_ErrShort), ("phoenix/api.ErrRec", Rows.laid_phoenix_api_ErrRec), ("phoenix/api.ErrBlock", Rows.laid_phoenix_api_ErrBlock)] [.sentinel, .sentinel, .sentinel, .sentinel] true :=
  Program.laidByTextLater.sub seatTie1 ["phoenix/api.ErrRange", "phoenix/api.ErrShort", "phoenix/api.ErrRec", "phoenix/api.ErrBlock"] (by kernel_rfl) (by kernel_rfl)
theorem blockTurned_row_tie : Rows.blockTurnedRow.laidByTextAt .later Tryd.pinned [.sentinel, .sentinel, .sentinel, .sentinel] true :=
  OpenClaim.laidByTextAt_later rfl rfl tie noOwnUnsafe
theorem tie2 : Tryd.prog.laidByTextLater [("phoenix/api.ErrOff", Rows.laid_phoenix_api_ErrOff), ("phoenix/api.ErrRange", Rows.laid_phoenix_api_ErrRange), ("phoenix/api.ErrShort", Rows.laid_phoenix_api_ErrShort), ("phoenix/api.ErrRec", Rows.laid_phoenix_api_ErrRec), ("phoenix/api.ErrBlock", Rows.laid_phoenix_api_ErrBlock), ("phoenix/api.ErrMaster", Rows.laid_phoenix_api_ErrMaster), ("phoenix/api.ErrPage", Rows.laid_phoenix_api_ErrPage), ("phoenix/api.ErrLog", Rows.laid_phoenix_api_ErrLog), ("phoenix/api.ErrLogFull", Rows.laid_phoenix_api_ErrLogFull), ("phoenix/api.ErrFull", Rows.laid_phoenix_api_ErrFull), ("phoenix/api.ErrLocked", Rows.laid_phoenix_api_ErrLocked), ("phoenix/api.ErrDeadlock", Rows.laid_phoenix_api_ErrDeadlock), ("phoenix/api.ErrNoTxn", Rows.laid_phoenix_api_ErrNoTxn), ("phoenix/api.ErrOpen", Rows.laid_phoenix_api_ErrOpen), ("phoenix/api.ErrSave", Rows.laid_phoenix_api_ErrSave), ("phoenix/api.ErrBusy", Rows.laid_phoenix_api_ErrBusy), ("phoenix/api.ErrLimit", Rows.laid_phoenix_api_ErrLimit), ("phoenix/api.ErrClosed", Rows.laid_phoenix_api_ErrClosed)] [.sentinel, .sentinel, .sentinel, .sentinel, .sentinel, .sentinel, .sentinel, .sentinel, .sentinel, .sentinel, .sentinel, .sentinel, .sentinel, .sentinel, .sentinel, .sentinel, .sentinel, .sentinel] true :=
  Program.laidByTextLater.sub seatTie1 ["phoenix/api.ErrOff", "phoenix/api.ErrRange", "phoenix/api.ErrShort", "phoenix/api.ErrRec", "phoenix/api.ErrBlock", "phoenix/api.ErrMaster", "phoenix/api.ErrPage", "phoenix/api.ErrLog", "phoenix/api.ErrLogFull", "phoenix/api.ErrFull", "phoenix/api.ErrLocked", "phoenix/api.ErrDeadlock", "phoenix/api.ErrNoTxn", "phoenix/api.ErrOpen", "phoenix/api.ErrSave", "phoenix/api.ErrBusy", "phoenix/api.ErrLimit", "phoenix/api.ErrClosed"] (by kernel_rfl) (by kernel_rfl)
theorem blockSays_row_tie : Rows.blockSaysRow.laidByTextAt .later Tryd.pinned [.sentinel, .sentinel, .sentinel, .sentinel, .sentinel, .sentinel, .sentinel, .sentinel, .sentinel, .sentinel, .sentinel, .sentinel, .sentinel, .sentinel, .sentinel, .sentinel, .sentinel, .sentinel] true :=
  OpenClaim.laidByTextAt_later rfl rfl tie2 noOwnUnsafe
theorem blockBack_row_tie : Rows.blockBackRow.laidByTextAt .later Tryd.pinned [.sentinel, .sentinel, .sentinel, .sentinel, .sentinel, .sentinel, .sentinel, .sentinel, .sentinel, .sentinel, .sentinel, .sentinel, .sentinel, .sentinel, .sentinel, .sentinel, .sentinel, .sentinel] true :=
  OpenClaim.laidByTextAt_later rfl rfl tie2 noOwnUnsafe
theorem walEnds_row_tie : Rows.walEndsRow.laidByTextAt .later Tryd.pinned [.sentinel, .sentinel, .sentinel, .sentinel, .sentinel, .sentinel, .sentinel, .sentinel, .sentinel, .sentinel, .sentinel, .sentinel, .sentinel, .sentinel, .sentinel, .sentinel, .sentinel, .sentinel] true :=
  OpenClaim.laidByTextAt_later rfl rfl tie2 noOwnUnsafe
theorem walStale_row_tie : Rows.walStaleRow.laidByTextAt .later Tryd.pinned [.sentinel, .sentinel, .sentinel, .sentinel, .sentinel, .sentinel, .sentinel, .sentinel, .sentinel, .sentinel, .sentinel, .sentinel, .sentinel, .sentinel, .sentinel, .sentinel, .sentinel, .sentinel] true :=
  OpenClaim.laidByTextAt_later rfl rfl tie2 noOwnUnsafe
theorem tie3 : Tryd.prog.laidByTextLater [("phoenix/api.ErrOff", Rows.laid_phoenix_api_ErrOff), ("phoenix/api.ErrRange", Rows.laid_phoenix_api_ErrRange), ("phoenix/api.ErrShort", Rows.laid_phoenix_api_ErrShort), ("phoenix/api.ErrRec", Rows.laid_phoenix_api_ErrRec), ("phoenix/api.ErrBlock", Rows.laid_phoenix_api_ErrBlock), ("phoenix/api.ErrLog", Rows.laid_phoenix_api_ErrLog), ("phoenix/api.ErrLogFull", Rows.laid_phoenix_api_ErrLogFull)] [.sentinel, .sentinel, .sentinel, .sentinel, .sentinel, .sentinel, .sentinel] true :=
  Program.laidByTextLater.sub seatTie1 ["phoenix/api.ErrOff", "phoenix/api.ErrRange", "phoenix/api.ErrShort", "phoenix/api.ErrRec", "phoenix/api.ErrBlock", "phoenix/api.ErrLog", "phoenix/api.ErrLogFull"] (by kernel_rfl) (by kernel_rfl)
theorem walBoots_row_tie : Rows.walBootsRow.laidByTextAt .later Tryd.pinned [.sentinel, .sentinel, .sentinel, .sentinel, .sentinel, .sentinel, .sentinel] true :=
  OpenClaim.laidByTextAt_later rfl rfl tie3 noOwnUnsafe
theorem walFlushes_row_tie : Rows.walFlushesRow.laidByTextAt .later Tryd.pinned [.sentinel, .sentinel, .sentinel, .sentinel, .sentinel, .sentinel, .sentinel] true :=
  OpenClaim.laidByTextAt_later rfl rfl tie3 noOwnUnsafe
theorem blockTurnedUpto_row_tie : Rows.blockTurnedUptoRow.laidByTextAt .later Tryd.pinned [.sentinel, .sentinel, .sentinel, .sentinel] true :=
  OpenClaim.laidByTextAt_later rfl rfl tie noOwnUnsafe
theorem blockSaysUpto_row_tie : Rows.blockSaysUptoRow.laidByTextAt .later Tryd.pinned [.sentinel, .sentinel, .sentinel, .sentinel, .sentinel, .sentinel, .sentinel, .sentinel, .sentinel, .sentinel, .sentinel, .sentinel, .sentinel, .sentinel, .sentinel, .sentinel, .sentinel, .sentinel] true :=
  OpenClaim.laidByTextAt_later rfl rfl tie2 noOwnUnsafe
theorem blockBackUpto_row_tie : Rows.blockBackUptoRow.laidByTextAt .later Tryd.pinned [.sentinel, .sentinel, .sentinel, .sentinel, .sentinel, .sentinel, .sentinel, .sentinel, .sentinel, .sentinel, .sentinel, .sentinel, .sentinel, .sentinel, .sentinel, .sentinel, .sentinel, .sentinel] true :=
  OpenClaim.laidByTextAt_later rfl rfl tie2 noOwnUnsafe
theorem walEndsUpto_row_tie : Rows.walEndsUptoRow.laidByTextAt .later Tryd.pinned [.sentinel, .sentinel, .sentinel, .sentinel, .sentinel, .sentinel, .sentinel, .sentinel, .sentinel, .sentinel, .sentinel, .sentinel, .sentinel, .sentinel, .sentinel, .sentinel, .sentinel, .sentinel] true :=
  OpenClaim.laidByTextAt_later rfl rfl tie2 noOwnUnsafe
theorem walStaleUpto_row_tie : Rows.walStaleUptoRow.laidByTextAt .later Tryd.pinned [.sentinel, .sentinel, .sentinel, .sentinel, .sentinel, .sentinel, .sentinel, .sentinel, .sentinel, .sentinel, .sentinel, .sentinel, .sentinel, .sentinel, .sentinel, .sentinel, .sentinel, .sentinel] true :=
  OpenClaim.laidByTextAt_later rfl rfl tie2 noOwnUnsafe
theorem walBootsUpto_row_tie : Rows.walBootsUptoRow.laidByTextAt .later Tryd.pinned [.sentinel, .sentinel, .sentinel, .sentinel, .sentinel, .sentinel, .sentinel] true :=
  OpenClaim.laidByTextAt_later rfl rfl tie3 noOwnUnsafe
theorem walFlushesUpto_row_tie : Rows.walFlushesUptoRow.laidByTextAt .later Tryd.pinned [.sentinel, .sentinel, .sentinel, .sentinel, .sentinel, .sentinel, .sentinel] true :=
  OpenClaim.laidByTextAt_later rfl rfl tie3 noOwnUnsafe
end Go.Proofs.YtoikdhfihkbcbaaDoor
