/-
  DERIVED. GIVEN WITH THE SEED: THE PROGRAM's TIES (one call each: nine closed facts by the kernel) AND EACH ROW's TIE, after the 31st guide's Derived/Test/Toyas{Tie, Card}.lean. No idea stands in it: it is a product of the set-up. Laid BY PROGRAM, IN A SANDBOX (cutbox-door.mjs). By AI agents, Wed Nov 11 2026. No macro, syntax, notation, axiom, sorry.
-/
import Derived.Test.YtabpmpaeakebmaaDoorRows
import Derived.LaidByTextLater
import Derived.SevenTiedAt
import Derived.LaidSub
import Derived.LaidOnce
namespace Go.Proofs.YtabpmpaeakebmaaDoor
open Go
set_option maxRecDepth 100000
theorem seatTie1 : Tryd.prog.laidByTextLater [("phoenix/api.ErrOff", Rows.laid_phoenix_api_ErrOff), ("phoenix/api.ErrRange", Rows.laid_phoenix_api_ErrRange), ("phoenix/api.ErrShort", Rows.laid_phoenix_api_ErrShort), ("phoenix/api.ErrRec", Rows.laid_phoenix_api_ErrRec), ("phoenix/api.ErrBlock", Rows.laid_phoenix_api_ErrBlock), ("phoenix/api.ErrMaster", Rows.laid_phoenix_api_ErrMaster), ("phoenix/api.ErrPage", Rows.laid_phoenix_api_ErrPage), ("phoenix/api.ErrLog", Rows.laid_phoenix_api_ErrLog), ("phoenix/api.ErrLogFull", Rows.laid_phoenix_api_ErrLogFull), ("phoenix/api.ErrFull", Rows.laid_phoenix_api_ErrFull), ("phoenix/api.ErrLocked", Rows.laid_phoenix_api_ErrLocked), ("phoenix/api.ErrDeadlock", Rows.laid_phoenix_api_ErrDeadlock), ("phoenix/api.ErrNoTxn", Rows.laid_phoenix_api_ErrNoTxn), ("phoenix/api.ErrOpen", Rows.laid_phoenix_api_ErrOpen), ("phoenix/api.ErrSave", Rows.laid_phoenix_api_ErrSave), ("phoenix/api.ErrBusy", Rows.laid_phoenix_api_ErrBusy), ("phoenix/api.ErrLimit", Rows.laid_phoenix_api_ErrLimit), ("phoenix/api.ErrClosed", Rows.laid_phoenix_api_ErrClosed)] [.sentinel, .sentinel, .sentinel, .sentinel, .sentinel, .sentinel, .sentinel, .sentinel, .sentinel, .sentinel, .sentinel, .sentinel, .sentinel, .sentinel, .sentinel, .sentinel, .sentinel, .sentinel] true :=
  Program.laidByTextLater_by_one 351 8 2 (by kernel_rfl) (by kernel_rfl) (by kernel_rfl) (by kernel_rfl) (by kernel_rfl) (by kernel_rfl) (fun _ _ => by kernel_rfl)
theorem noOwnUnsafe : Tryd.pinned.checked.prog.headLifts.contains "ownunsafe" = false := by kernel_rfl
theorem tie : Tryd.prog.laidByTextLater [("phoenix/api.ErrOff", Rows.laid_phoenix_api_ErrOff), ("phoenix/api.ErrRange", Rows.laid_phoenix_api_ErrRange), ("phoenix/api.ErrShort", Rows.laid_phoenix_api_ErrShort), ("phoenix/api.ErrRec", Rows.laid_phoenix_api_ErrRec), ("phoenix/api.ErrBlock", Rows.laid_phoenix_api_ErrBlock), ("phoenix/api.ErrMaster", Rows.laid_phoenix_api_ErrMaster), ("phoenix/api.ErrPage", Rows.laid_phoenix_api_ErrPage), ("phoenix/api.ErrLog", Rows.laid_phoenix_api_ErrLog), ("phoenix/api.ErrLogFull", Rows.laid_phoenix_api_ErrLogFull), ("phoenix/api.ErrFull", Rows.laid_phoenix_api_ErrFull), ("phoenix/api.ErrLocked", Rows.laid_phoenix_api_ErrLocked), ("phoenix/api.ErrDeadlock", Rows.laid_phoenix_api_ErrDeadlock), ("phoenix/api.ErrNoTxn", Rows.laid_phoenix_api_ErrNoTxn), ("phoenix/api.ErrOpen", Rows.laid_phoenix_api_ErrOpen), ("phoenix/api.ErrSave", Rows.laid_phoenix_api_ErrSave), ("phoenix/api.ErrBusy", Rows.laid_phoenix_api_ErrBusy), ("phoenix/api.ErrLimit", Rows.laid_phoenix_api_ErrLimit), ("phoenix/api.ErrClosed", Rows.laid_phoenix_api_ErrClosed)] [.sentinel, .sentinel, .sentinel, .sentinel, .sentinel, .sentinel, .sentinel, .sentinel, .sentinel, .sentinel, .sentinel, .sentinel, .sentinel, .sentinel, .sentinel, .sentinel, .sentinel, .sentinel] true :=
  Program.laidByTextLater.sub seatTie1 ["phoenix/api.ErrOff", "phoenix/api.ErrRange", "phoenix/api.ErrShort", "phoenix/api.ErrRec", "phoenix/api.ErrBlock", "phoenix/api.ErrMaster", "phoenix/api.ErrPage", "phoenix/api.ErrLog", "phoenix/api.ErrLogFull", "phoenix/api.ErrFull", "phoenix/api.ErrLocked", "phoenix/api.ErrDeadlock", "phoenix/api.ErrNoTxn", "phoenix/api.ErrOpen", "phoenix/api.ErrSave", "phoenix/api.ErrBusy", "phoenix/api.ErrLimit", "phoenix/api.ErrClosed"] (by kernel_rfl) (by kernel_rfl)
theorem masterSays_row_tie : Rows.masterSaysRow.laidByTextAt .later Tryd.pinned [.sentinel, .sentinel, .sentinel, .sentinel, .sentinel, .sentinel, .sentinel, .sentinel, .sentinel, .sentinel, .sentinel, .sentinel, .sentinel, .sentinel, .sentinel, .sentinel, .sentinel, .sentinel] true :=
  OpenClaim.laidByTextAt_later rfl rfl tie noOwnUnsafe
theorem masterBack_row_tie : Rows.masterBackRow.laidByTextAt .later Tryd.pinned [.sentinel, .sentinel, .sentinel, .sentinel, .sentinel, .sentinel, .sentinel, .sentinel, .sentinel, .sentinel, .sentinel, .sentinel, .sentinel, .sentinel, .sentinel, .sentinel, .sentinel, .sentinel] true :=
  OpenClaim.laidByTextAt_later rfl rfl tie noOwnUnsafe
theorem masterUnlike_row_tie : Rows.masterUnlikeRow.laidByTextAt .later Tryd.pinned [.sentinel, .sentinel, .sentinel, .sentinel, .sentinel, .sentinel, .sentinel, .sentinel, .sentinel, .sentinel, .sentinel, .sentinel, .sentinel, .sentinel, .sentinel, .sentinel, .sentinel, .sentinel] true :=
  OpenClaim.laidByTextAt_later rfl rfl tie noOwnUnsafe
theorem masterNumbers_row_tie : Rows.masterNumbersRow.laidByTextAt .later Tryd.pinned [.sentinel, .sentinel, .sentinel, .sentinel, .sentinel, .sentinel, .sentinel, .sentinel, .sentinel, .sentinel, .sentinel, .sentinel, .sentinel, .sentinel, .sentinel, .sentinel, .sentinel, .sentinel] true :=
  OpenClaim.laidByTextAt_later rfl rfl tie noOwnUnsafe
theorem recWrong_row_tie : Rows.recWrongRow.laidByTextAt .later Tryd.pinned [.sentinel, .sentinel, .sentinel, .sentinel, .sentinel, .sentinel, .sentinel, .sentinel, .sentinel, .sentinel, .sentinel, .sentinel, .sentinel, .sentinel, .sentinel, .sentinel, .sentinel, .sentinel] true :=
  OpenClaim.laidByTextAt_later rfl rfl tie noOwnUnsafe
theorem recBack_row_tie : Rows.recBackRow.laidByTextAt .later Tryd.pinned [.sentinel, .sentinel, .sentinel, .sentinel, .sentinel, .sentinel, .sentinel, .sentinel, .sentinel, .sentinel, .sentinel, .sentinel, .sentinel, .sentinel, .sentinel, .sentinel, .sentinel, .sentinel] true :=
  OpenClaim.laidByTextAt_later rfl rfl tie noOwnUnsafe
theorem recSays_row_tie : Rows.recSaysRow.laidByTextAt .later Tryd.pinned [.sentinel, .sentinel, .sentinel, .sentinel, .sentinel, .sentinel, .sentinel, .sentinel, .sentinel, .sentinel, .sentinel, .sentinel, .sentinel, .sentinel, .sentinel, .sentinel, .sentinel, .sentinel] true :=
  OpenClaim.laidByTextAt_later rfl rfl tie noOwnUnsafe
theorem tie2 : Tryd.prog.laidByTextLater [("phoenix/api.ErrRange", Rows.laid_phoenix_api_ErrRange)] [.sentinel] true :=
  Program.laidByTextLater.sub seatTie1 ["phoenix/api.ErrRange"] (by kernel_rfl) (by kernel_rfl)
theorem recUnlike_row_tie : Rows.recUnlikeRow.laidByTextAt .later Tryd.pinned [.sentinel] true :=
  OpenClaim.laidByTextAt_later rfl rfl tie2 noOwnUnsafe
theorem tie3 : Tryd.prog.laidByTextLater [("phoenix/api.ErrRange", Rows.laid_phoenix_api_ErrRange), ("phoenix/api.ErrShort", Rows.laid_phoenix_api_ErrShort), ("phoenix/api.ErrRec", Rows.laid_phoenix_api_ErrRec)] [.sentinel, .sentinel, .sentinel] true :=
  Program.laidByTextLater.sub seatTie1 ["phoenix/api.ErrRange", "phoenix/api.ErrShort", "phoenix/api.ErrRec"] (by kernel_rfl) (by kernel_rfl)
theorem recZeros_row_tie : Rows.recZerosRow.laidByTextAt .later Tryd.pinned [.sentinel, .sentinel, .sentinel] true :=
  OpenClaim.laidByTextAt_later rfl rfl tie3 noOwnUnsafe
theorem recNumbers_row_tie : Rows.recNumbersRow.laidByTextAt .later Tryd.pinned [.sentinel, .sentinel, .sentinel] true :=
  OpenClaim.laidByTextAt_later rfl rfl tie3 noOwnUnsafe
theorem masterSaysUpto_row_tie : Rows.masterSaysUptoRow.laidByTextAt .later Tryd.pinned [.sentinel, .sentinel, .sentinel, .sentinel, .sentinel, .sentinel, .sentinel, .sentinel, .sentinel, .sentinel, .sentinel, .sentinel, .sentinel, .sentinel, .sentinel, .sentinel, .sentinel, .sentinel] true :=
  OpenClaim.laidByTextAt_later rfl rfl tie noOwnUnsafe
theorem masterBackUpto_row_tie : Rows.masterBackUptoRow.laidByTextAt .later Tryd.pinned [.sentinel, .sentinel, .sentinel, .sentinel, .sentinel, .sentinel, .sentinel, .sentinel, .sentinel, .sentinel, .sentinel, .sentinel, .sentinel, .sentinel, .sentinel, .sentinel, .sentinel, .sentinel] true :=
  OpenClaim.laidByTextAt_later rfl rfl tie noOwnUnsafe
theorem masterUnlikeUpto_row_tie : Rows.masterUnlikeUptoRow.laidByTextAt .later Tryd.pinned [.sentinel, .sentinel, .sentinel, .sentinel, .sentinel, .sentinel, .sentinel, .sentinel, .sentinel, .sentinel, .sentinel, .sentinel, .sentinel, .sentinel, .sentinel, .sentinel, .sentinel, .sentinel] true :=
  OpenClaim.laidByTextAt_later rfl rfl tie noOwnUnsafe
theorem masterNumbersUpto_row_tie : Rows.masterNumbersUptoRow.laidByTextAt .later Tryd.pinned [.sentinel, .sentinel, .sentinel, .sentinel, .sentinel, .sentinel, .sentinel, .sentinel, .sentinel, .sentinel, .sentinel, .sentinel, .sentinel, .sentinel, .sentinel, .sentinel, .sentinel, .sentinel] true :=
  OpenClaim.laidByTextAt_later rfl rfl tie noOwnUnsafe
theorem recWrongUpto_row_tie : Rows.recWrongUptoRow.laidByTextAt .later Tryd.pinned [.sentinel, .sentinel, .sentinel, .sentinel, .sentinel, .sentinel, .sentinel, .sentinel, .sentinel, .sentinel, .sentinel, .sentinel, .sentinel, .sentinel, .sentinel, .sentinel, .sentinel, .sentinel] true :=
  OpenClaim.laidByTextAt_later rfl rfl tie noOwnUnsafe
theorem recUnlikeUpto_row_tie : Rows.recUnlikeUptoRow.laidByTextAt .later Tryd.pinned [.sentinel] true :=
  OpenClaim.laidByTextAt_later rfl rfl tie2 noOwnUnsafe
theorem recBackUpto_row_tie : Rows.recBackUptoRow.laidByTextAt .later Tryd.pinned [.sentinel, .sentinel, .sentinel, .sentinel, .sentinel, .sentinel, .sentinel, .sentinel, .sentinel, .sentinel, .sentinel, .sentinel, .sentinel, .sentinel, .sentinel, .sentinel, .sentinel, .sentinel] true :=
  OpenClaim.laidByTextAt_later rfl rfl tie noOwnUnsafe
theorem recZerosUpto_row_tie : Rows.recZerosUptoRow.laidByTextAt .later Tryd.pinned [.sentinel, .sentinel, .sentinel] true :=
  OpenClaim.laidByTextAt_later rfl rfl tie3 noOwnUnsafe
theorem recSaysUpto_row_tie : Rows.recSaysUptoRow.laidByTextAt .later Tryd.pinned [.sentinel, .sentinel, .sentinel, .sentinel, .sentinel, .sentinel, .sentinel, .sentinel, .sentinel, .sentinel, .sentinel, .sentinel, .sentinel, .sentinel, .sentinel, .sentinel, .sentinel, .sentinel] true :=
  OpenClaim.laidByTextAt_later rfl rfl tie noOwnUnsafe
theorem recNumbersUpto_row_tie : Rows.recNumbersUptoRow.laidByTextAt .later Tryd.pinned [.sentinel, .sentinel, .sentinel] true :=
  OpenClaim.laidByTextAt_later rfl rfl tie3 noOwnUnsafe
end Go.Proofs.YtabpmpaeakebmaaDoor
