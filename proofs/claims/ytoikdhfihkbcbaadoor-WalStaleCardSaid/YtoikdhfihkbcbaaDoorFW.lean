/- A block of a fault's three cells. -/
import Derived.Test.YtoikdhfihkbcbaaDoorRecRow
namespace Go.Proofs.YtoikdhfihkbcbaaDoor
open Go.RowKit
set_option linter.unusedVariables false

/-- a block of a fault's three cells -/
def FW (A : Nat) (cs : Array Value) (w : World) : Prop := w.heap[A]? = some (.cells cs 68 (0, 0))
theorem FW.below {A : Nat} {cs : Array Value} {w w' : World} (h : FW A cs w) (hb : Below w.heap.size w w') : FW A cs w' := by
  unfold FW; rw [hb.block _ (Array.getElem?_eq_some_iff.1 h).1]; exact h
theorem FW.frozen {A : Nat} {cs : Array Value} {w : World} (h : FW A cs w) (i : Nat) : w.frozen? ⟨A, i, none⟩ = false := rowFrozen h i
theorem FW.new (w : World) (cs : Array Value) : FW w.heap.size cs (w.alloc (.cells cs 68)) := heap_alloc_new w _
theorem FW.cells {A : Nat} {w : World} {c0 c1 c2 : Value} (h : FW A #[c0, c1, c2] w) : w.cell? ⟨A, 0, none⟩ = some c0 ∧ w.cell? ⟨A, 1, none⟩ = some c1 ∧ w.cell? ⟨A, 2, none⟩ = some c2 := by
  refine ⟨?_, ?_, ?_⟩ <;> rw [cell_of_row w A _ _ _ (0, 0) h] <;> rfl
theorem FW.put {A : Nat} {w : World} {c0 c1 c2 : Value} (h : FW A #[c0, c1, c2] w) (d0 d1 d2 : Value) : FW A #[d0, d1, d2] (((w.setCell ⟨A, 0, none⟩ d0).setCell ⟨A, 1, none⟩ d1).setCell ⟨A, 2, none⟩ d2) := by
  have h0 := setCell_rowR h 0 d0
  have h1 := setCell_rowR h0 1 d1
  have h2 := setCell_rowR h1 2 d2
  unfold FW
  rw [h2]; simp
theorem below3 {base : Nat} {w0 W : World} (h : Below base w0 W) {A : Nat} (hA : base ≤ A) (v0 v1 v2 : Value) : Below base w0 (((W.setCell ⟨A, 0, none⟩ v0).setCell ⟨A, 1, none⟩ v1).setCell ⟨A, 2, none⟩ v2) :=
  ((h.setCell (p := ⟨A, 0, none⟩) hA v0).setCell (p := ⟨A, 1, none⟩) hA v1).setCell (p := ⟨A, 2, none⟩) hA v2

end Go.Proofs.YtoikdhfihkbcbaaDoor
