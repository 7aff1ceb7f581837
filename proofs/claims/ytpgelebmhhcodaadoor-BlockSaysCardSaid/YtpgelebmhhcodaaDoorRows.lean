/-
  NARROWER THAN 'FOR EVERY INPUT', by the rows' own cells (each row's printed sentence says how): BlockSays: laid.
  DERIVED. THE GIVEN ROWS OF THIS SEAT. 1 by the template 'for every input the law returns true; each argument reads behind the call as it read before'; 0 by the template 'total and deterministic' (their statements: YtpgelebmhhcodaaDoorTotals.lean).
  GIVEN WITH THE SEED: the statements are not yours to turn. If you find one false, say at which input.
  Laid BY PROGRAM, IN A SANDBOX (cutbox-rows.mjs): the forced cells as the released guide's own fill.sh prints them over the translation 02ea73a40d7013d6… (all of the seat's roots in one cut). By AI agents, Wed Nov 11 2026. No macro, syntax, notation, axiom, sorry.
-/
import Derived.Test.YtpgelebmhhcodaaDoorChecked
import GoSem.Claim
import GoSem.ClaimJoined
import GoSem.ClaimMapViews
import Derived.JoinedTies
import Derived.KernelRfl
namespace Go.Proofs.YtpgelebmhhcodaaDoor
/- THE CELL 'sum', in the pinned program and in every row, IS THE sha256 OF THE DUMP (.gsa) THAT YtpgelebmhhcodaaDoorProg.lean LOADS. Nothing in Lean hashes anything: it is a label: what it is worth is what the hold of that sum in a sandbox is worth. -/
noncomputable def Tryd.pinned : Pinned := { name := "ytpgelebmhhcodaadoor", sum := "02ea73a40d7013d6296d17ab07d0758f1bd5d0ddfb643b538bd7503948e17314", checked := Tryd.checked }
namespace Rows
def none {H : Type} : Left H := { results := [], args := [] }

/- WHAT THE LISTED PACKAGE-LEVEL VARIABLES READ AS WHEN THE CALL BEGINS. Each datum BY PROGRAM (the guide's laid-datum.mjs) off the statement by which the dump's own 'gosem.cut.vars' lays the variable. In a bare row this is a premise. The card (YtpgelebmhhcodaaDoorCards.lean) ties it to the program's text. -/
def laid_phoenix_api_ErrOff {H : Type} : DataW H := .iface "*errors.errorString" (.ptr (.agg [.lit (.string [116, 104, 101, 114, 101, 32, 105, 115, 32, 110, 111, 32, 112, 111, 119, 101, 114])]))
def laid_phoenix_api_ErrRange {H : Type} : DataW H := .iface "*errors.errorString" (.ptr (.agg [.lit (.string [97, 32, 110, 117, 109, 98, 101, 114, 32, 111, 117, 116, 32, 111, 102, 32, 105, 116, 115, 32, 114, 97, 110, 103, 101])]))
def laid_phoenix_api_ErrShort {H : Type} : DataW H := .iface "*errors.errorString" (.ptr (.agg [.lit (.string [98, 121, 116, 101, 115, 32, 111, 102, 32, 97, 110, 111, 116, 104, 101, 114, 32, 108, 101, 110, 103, 116, 104])]))
def laid_phoenix_api_ErrRec {H : Type} : DataW H := .iface "*errors.errorString" (.ptr (.agg [.lit (.string [110, 111, 116, 32, 97, 32, 114, 101, 99, 111, 114, 100])]))
def laid_phoenix_api_ErrBlock {H : Type} : DataW H := .iface "*errors.errorString" (.ptr (.agg [.lit (.string [110, 111, 116, 32, 97, 32, 98, 108, 111, 99, 107])]))
def laid_phoenix_api_ErrMaster {H : Type} : DataW H := .iface "*errors.errorString" (.ptr (.agg [.lit (.string [110, 111, 116, 32, 97, 32, 109, 97, 115, 116, 101, 114])]))
def laid_phoenix_api_ErrPage {H : Type} : DataW H := .iface "*errors.errorString" (.ptr (.agg [.lit (.string [110, 111, 116, 32, 97, 32, 112, 97, 103, 101])]))
def laid_phoenix_api_ErrLog {H : Type} : DataW H := .iface "*errors.errorString" (.ptr (.agg [.lit (.string [97, 32, 108, 111, 103, 32, 116, 104, 97, 116, 32, 99, 97, 110, 39, 116, 32, 98, 101])]))
def laid_phoenix_api_ErrLogFull {H : Type} : DataW H := .iface "*errors.errorString" (.ptr (.agg [.lit (.string [116, 104, 101, 32, 108, 111, 103, 32, 105, 115, 32, 102, 117, 108, 108])]))
def laid_phoenix_api_ErrFull {H : Type} : DataW H := .iface "*errors.errorString" (.ptr (.agg [.lit (.string [116, 104, 101, 32, 112, 97, 103, 101, 32, 105, 115, 32, 102, 117, 108, 108])]))
def laid_phoenix_api_ErrLocked {H : Type} : DataW H := .iface "*errors.errorString" (.ptr (.agg [.lit (.string [97, 110, 111, 116, 104, 101, 114, 32, 111, 110, 101, 32, 104, 111, 108, 100, 115, 32, 105, 116])]))
def laid_phoenix_api_ErrDeadlock {H : Type} : DataW H := .iface "*errors.errorString" (.ptr (.agg [.lit (.string [101, 97, 99, 104, 32, 119, 97, 105, 116, 115, 32, 102, 111, 114, 32, 97, 110, 111, 116, 104, 101, 114, 32, 111, 110, 101])]))
def laid_phoenix_api_ErrNoTxn {H : Type} : DataW H := .iface "*errors.errorString" (.ptr (.agg [.lit (.string [110, 111, 32, 116, 114, 97, 110, 115, 97, 99, 116, 105, 111, 110])]))
def laid_phoenix_api_ErrOpen {H : Type} : DataW H := .iface "*errors.errorString" (.ptr (.agg [.lit (.string [97, 32, 116, 114, 97, 110, 115, 97, 99, 116, 105, 111, 110, 32, 97, 108, 114, 101, 97, 100, 121])]))
def laid_phoenix_api_ErrSave {H : Type} : DataW H := .iface "*errors.errorString" (.ptr (.agg [.lit (.string [110, 111, 32, 115, 117, 99, 104, 32, 115, 97, 118, 101, 112, 111, 105, 110, 116])]))
def laid_phoenix_api_ErrBusy {H : Type} : DataW H := .iface "*errors.errorString" (.ptr (.agg [.lit (.string [116, 114, 97, 110, 115, 97, 99, 116, 105, 111, 110, 115, 32, 97, 114, 101, 32, 111, 112, 101, 110])]))
def laid_phoenix_api_ErrLimit {H : Type} : DataW H := .iface "*errors.errorString" (.ptr (.agg [.lit (.string [109, 111, 114, 101, 32, 116, 104, 97, 110, 32, 109, 97, 121, 32, 98, 101])]))
def laid_phoenix_api_ErrClosed {H : Type} : DataW H := .iface "*errors.errorString" (.ptr (.agg [.lit (.string [99, 108, 111, 115, 101, 100])]))

/-- 'phoenixlaw4.BlockSays': WHATEVER THE INPUT: true; the input reads as it did. -/
def blockSaysSpec : ChangeSpec := { name := "blockSays", fn := fun _ => fun
  | [d1, d2, d3, d4, d5, d6] => { results := [.lit (.bool true)], args := [d1, d2, d3, d4, d5, d6] }
  | _ => none }
def blockSaysRow : OpenClaim := { program := "ytpgelebmhhcodaadoor", sum := "02ea73a40d7013d6296d17ab07d0758f1bd5d0ddfb643b538bd7503948e17314", func := "phoenix/phoenixlaw4.BlockSays", spec := "blockSays", unfollowed := true, recurses := true, named := ["phoenix/api.ErrShort", "phoenix/api.ErrBlock", "phoenix/api.ErrRec", "phoenix/api.ErrRange", "phoenix/api.ErrOff", "phoenix/api.ErrMaster", "phoenix/api.ErrPage", "phoenix/api.ErrLog", "phoenix/api.ErrLogFull", "phoenix/api.ErrFull", "phoenix/api.ErrLocked", "phoenix/api.ErrDeadlock", "phoenix/api.ErrNoTxn", "phoenix/api.ErrOpen", "phoenix/api.ErrSave", "phoenix/api.ErrBusy", "phoenix/api.ErrLimit", "phoenix/api.ErrClosed"], apart := false, laid := [("phoenix/api.ErrOff", laid_phoenix_api_ErrOff), ("phoenix/api.ErrRange", laid_phoenix_api_ErrRange), ("phoenix/api.ErrShort", laid_phoenix_api_ErrShort), ("phoenix/api.ErrRec", laid_phoenix_api_ErrRec), ("phoenix/api.ErrBlock", laid_phoenix_api_ErrBlock), ("phoenix/api.ErrMaster", laid_phoenix_api_ErrMaster), ("phoenix/api.ErrPage", laid_phoenix_api_ErrPage), ("phoenix/api.ErrLog", laid_phoenix_api_ErrLog), ("phoenix/api.ErrLogFull", laid_phoenix_api_ErrLogFull), ("phoenix/api.ErrFull", laid_phoenix_api_ErrFull), ("phoenix/api.ErrLocked", laid_phoenix_api_ErrLocked), ("phoenix/api.ErrDeadlock", laid_phoenix_api_ErrDeadlock), ("phoenix/api.ErrNoTxn", laid_phoenix_api_ErrNoTxn), ("phoenix/api.ErrOpen", laid_phoenix_api_ErrOpen), ("phoenix/api.ErrSave", laid_phoenix_api_ErrSave), ("phoenix/api.ErrBusy", laid_phoenix_api_ErrBusy), ("phoenix/api.ErrLimit", laid_phoenix_api_ErrLimit), ("phoenix/api.ErrClosed", laid_phoenix_api_ErrClosed)] }
def BlockSaysSaid : Prop := blockSaysRow.holds Tryd.pinned (OpenSpec.ofChange blockSaysSpec)

/-- ITS FALSE NEIGHBOUR: 'it returns false'. Refute it at one input. -/
def blockSaysWrong : ChangeSpec := { name := "blockSays", fn := fun _ => fun
  | [d1, d2, d3, d4, d5, d6] => { results := [.lit (.bool false)], args := [d1, d2, d3, d4, d5, d6] }
  | _ => none }
def BlockSaysWrongFalsely : Prop := blockSaysRow.holds Tryd.pinned (OpenSpec.ofChange blockSaysWrong)

/- THE SECOND FORM. 'bulk': how many values and letters a reading holds, each counted each time it is reached (what is shared counts as often as it is met; a slice's spare places count too). A statement '..UptoSaid' is the law's where the arguments, and the package variables that the reading takes, are together of bulk at most 1048576: NARROWER than '..Said'. Prove '..Said' where nothing that the law and all that it calls make is longer than what came in: it says more and counts as full. Else prove '..UptoSaid'. A law counts once. -/
mutual
def uptoBulk {H : Type} : DataW H → Nat
  | .lit (.string bytes) => bytes.length + 1
  | .lit _ => 1
  | .nil => 1
  | .ptr d => uptoBulk d + 1
  | .slice elems spare => uptoBulkAll elems + uptoBulkAll spare + 1
  | .agg parts => uptoBulkAll parts + 1
  | .iface _ d => uptoBulk d + 1
  | .map entries => uptoBulkEntries entries + 1
  | .held _ => 1
def uptoBulkAll {H : Type} : List (DataW H) → Nat
  | [] => 0
  | d :: r => uptoBulk d + uptoBulkAll r
def uptoBulkEntries {H : Type} : List (Lit × DataW H) → Nat
  | [] => 0
  | x :: r => uptoBulkEntry x + uptoBulkEntries r
def uptoBulkEntry {H : Type} : Lit × DataW H → Nat
  | (.string bytes, d) => bytes.length + uptoBulk d + 1
  | (_, d) => uptoBulk d + 1
 end
def uptoSmall : (H : Type) → List (DataW H) → Bool := fun _ ds => decide (uptoBulkAll ds ≤ 1048576)
def OpenSpec.upto (s : _root_.Go.ChangeSpec) : _root_.Go.OpenSpec := { _root_.Go.OpenSpec.ofChange s with cond := some uptoSmall }

/-- 'phoenixlaw4.BlockSays', WHERE WHAT IT READS IS OF BULK AT MOST 1048576: true; the input reads as it did. -/
def blockSaysUptoRow : OpenClaim := { program := "ytpgelebmhhcodaadoor", sum := "02ea73a40d7013d6296d17ab07d0758f1bd5d0ddfb643b538bd7503948e17314", func := "phoenix/phoenixlaw4.BlockSays", spec := "blockSays", unfollowed := true, recurses := true, named := ["phoenix/api.ErrShort", "phoenix/api.ErrBlock", "phoenix/api.ErrRec", "phoenix/api.ErrRange", "phoenix/api.ErrOff", "phoenix/api.ErrMaster", "phoenix/api.ErrPage", "phoenix/api.ErrLog", "phoenix/api.ErrLogFull", "phoenix/api.ErrFull", "phoenix/api.ErrLocked", "phoenix/api.ErrDeadlock", "phoenix/api.ErrNoTxn", "phoenix/api.ErrOpen", "phoenix/api.ErrSave", "phoenix/api.ErrBusy", "phoenix/api.ErrLimit", "phoenix/api.ErrClosed"], apart := false, laid := [("phoenix/api.ErrOff", laid_phoenix_api_ErrOff), ("phoenix/api.ErrRange", laid_phoenix_api_ErrRange), ("phoenix/api.ErrShort", laid_phoenix_api_ErrShort), ("phoenix/api.ErrRec", laid_phoenix_api_ErrRec), ("phoenix/api.ErrBlock", laid_phoenix_api_ErrBlock), ("phoenix/api.ErrMaster", laid_phoenix_api_ErrMaster), ("phoenix/api.ErrPage", laid_phoenix_api_ErrPage), ("phoenix/api.ErrLog", laid_phoenix_api_ErrLog), ("phoenix/api.ErrLogFull", laid_phoenix_api_ErrLogFull), ("phoenix/api.ErrFull", laid_phoenix_api_ErrFull), ("phoenix/api.ErrLocked", laid_phoenix_api_ErrLocked), ("phoenix/api.ErrDeadlock", laid_phoenix_api_ErrDeadlock), ("phoenix/api.ErrNoTxn", laid_phoenix_api_ErrNoTxn), ("phoenix/api.ErrOpen", laid_phoenix_api_ErrOpen), ("phoenix/api.ErrSave", laid_phoenix_api_ErrSave), ("phoenix/api.ErrBusy", laid_phoenix_api_ErrBusy), ("phoenix/api.ErrLimit", laid_phoenix_api_ErrLimit), ("phoenix/api.ErrClosed", laid_phoenix_api_ErrClosed)], narrowed := true }
def BlockSaysUptoSaid : Prop := blockSaysUptoRow.holds Tryd.pinned (OpenSpec.upto blockSaysSpec)

end Rows
end Go.Proofs.YtpgelebmhhcodaaDoor
