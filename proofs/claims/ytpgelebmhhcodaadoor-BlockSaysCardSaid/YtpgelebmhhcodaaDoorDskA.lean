/- Contracts of the disk's small functions: Size, Off, Fuse, spend, at, Read. -/
import Derived.Test.YtpgelebmhhcodaaDoorDskM
import Derived.Test.YtpgelebmhhcodaaDoorByteT
import Derived.Test.YtpgelebmhhcodaaDoorErr
import Derived.Deep.RegionLaw
namespace Go.Proofs.YtpgelebmhhcodaaDoor
open Go.RowKit
set_option linter.unusedVariables false

/-- the errors that a disk tells -/
structure D3 (ea : Nat → Addr) (w : World) : Prop where
  o : w.cell? ⟨4, 0, none⟩ = some (.iface 91 (.pointer (some (ea 0))))
  r : w.cell? ⟨0, 0, none⟩ = some (.iface 91 (.pointer (some (ea 1))))
  s : w.cell? ⟨1, 0, none⟩ = some (.iface 91 (.pointer (some (ea 2))))
theorem D3.below {ea : Nat → Addr} {w w' : World} (h : D3 ea w) (hb : Below w.heap.size w w') : D3 ea w' :=
  ⟨(hb.cell (Below.lt h.o)).trans h.o, (hb.cell (Below.lt h.r)).trans h.r, (hb.cell (Below.lt h.s)).trans h.s⟩
theorem Sen.d3 {ea : Nat → Addr} {w : World} (h : Sen ea w) : D3 ea w := ⟨h.cell 0 (by decide), h.cell 1 (by decide), h.cell 2 (by decide)⟩

theorem getLastD_eq {α : Type} (l : List α) (a d : α) (h : 0 < l.length) : l.getLastD a = l.getD (l.length - 1) d := by
  rw [List.getLastD_eq_getLast?, List.getLast?_eq_getElem?, List.getD_eq_getElem?_getD, List.getElem?_eq_getElem (by omega)]
  rfl

end Go.Proofs.YtpgelebmhhcodaaDoor
