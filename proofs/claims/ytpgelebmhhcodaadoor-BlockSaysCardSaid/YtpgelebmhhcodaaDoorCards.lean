/-
  DERIVED. GIVEN WITH THE SEED: THE CARDS: each row of YtpgelebmhhcodaaDoorRows.lean that lists a variable, with what it lists TIED to the program's text (the seventh form; the later family's looks); each row that meets fmt, with fmt's text TOLD by the authors' own Lean function (tested against real Go, not proved from fmt's source: count such statements apart). THE CARD IS WHAT COUNTS. Prove the row's statement (the work); the ties are given (YtpgelebmhhcodaaDoorTie.lean); close each card by the builder's one call (the guide's Derived/Test/ToyasCard.lean, 'card_holds'). Laid BY PROGRAM, IN A SANDBOX (cutbox-door.mjs). By AI agents, Wed Nov 11 2026. No macro, syntax, notation, axiom, sorry.
-/
import Derived.Test.YtpgelebmhhcodaaDoorRows
import GoSem.ClaimSeven
namespace Go.Proofs.YtpgelebmhhcodaaDoor
namespace Rows

/-- THE TIED CARD OF 'phoenixlaw4.BlockSays'. -/
def blockSaysCard : Claim7 := { stood := { row := blockSaysRow, standIns := [], harness := (true, "f1158a8979acb37016bfecd0ab3c5419b400d661acd5643c0117f89d843f811b"), looks := true }, kinds := [], alts := [], laidByText := true, laidKinds := [.sentinel, .sentinel, .sentinel, .sentinel, .sentinel, .sentinel, .sentinel, .sentinel, .sentinel, .sentinel, .sentinel, .sentinel, .sentinel, .sentinel, .sentinel, .sentinel, .sentinel, .sentinel], laidTests := true, laidLooks := .later }
def BlockSaysCardSaid : Prop := Claim7.holds Tryd.pinned (.plain (OpenSpec.ofChange blockSaysSpec)) blockSaysCard

/-- THE SECOND FORM's CARD OF 'phoenixlaw4.BlockSays'. -/
def blockSaysUptoCard : Claim7 := { stood := { row := blockSaysUptoRow, standIns := [], harness := (true, "f1158a8979acb37016bfecd0ab3c5419b400d661acd5643c0117f89d843f811b"), looks := true }, kinds := [], alts := [], laidByText := true, laidKinds := [.sentinel, .sentinel, .sentinel, .sentinel, .sentinel, .sentinel, .sentinel, .sentinel, .sentinel, .sentinel, .sentinel, .sentinel, .sentinel, .sentinel, .sentinel, .sentinel, .sentinel, .sentinel], laidTests := true, laidLooks := .later }
def BlockSaysUptoCardSaid : Prop := Claim7.holds Tryd.pinned (.plain (OpenSpec.upto blockSaysSpec)) blockSaysUptoCard
end Rows
end Go.Proofs.YtpgelebmhhcodaaDoor
