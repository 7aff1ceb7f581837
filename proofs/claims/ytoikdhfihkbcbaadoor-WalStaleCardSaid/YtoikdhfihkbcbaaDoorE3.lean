/- Three errors: what their variables hold. -/
import Derived.Test.YtoikdhfihkbcbaaDoorErr
namespace Go.Proofs.YtoikdhfihkbcbaaDoor
open Go.RowKit
set_option linter.unusedVariables false

/-- what ErrRange, ErrShort, ErrRec hold -/
structure E3 (ea : Nat → Addr) (w : World) : Prop where
  r : w.cell? ⟨0, 0, none⟩ = some (eV ea 1)
  s : w.cell? ⟨1, 0, none⟩ = some (eV ea 2)
  c : w.cell? ⟨6, 0, none⟩ = some (eV ea 3)
theorem E3.below {ea : Nat → Addr} {w w' : World} (h : E3 ea w) (hb : Below w.heap.size w w') : E3 ea w' :=
  ⟨(hb.cell (Below.lt h.r)).trans h.r, (hb.cell (Below.lt h.s)).trans h.s, (hb.cell (Below.lt h.c)).trans h.c⟩
theorem Sen.e3 {ea : Nat → Addr} {w : World} (h : Sen ea w) : E3 ea w := ⟨h.cell 1 (by decide), h.cell 2 (by decide), h.cell 3 (by decide)⟩
end Go.Proofs.YtoikdhfihkbcbaaDoor
