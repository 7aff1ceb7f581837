/- Numbers in a row of cells. No program. -/
import Derived.Test.YtabpmpaeakebmaaDoorBase
namespace Go.Proofs.YtabpmpaeakebmaaDoor
open Go.RowKit

/-- numbers in a row of a block's -/
def CI (B : Nat) (l : List Int) (w : World) : Prop := ∀ k, k < l.length → w.cell? ⟨B, k, none⟩ = some (.int .i64 (l.getD k 0))
theorem CI.below {B : Nat} {l : List Int} {w w' : World} (h : CI B l w) (hb : Below w.heap.size w w') : CI B l w' :=
  fun k hk => by rw [hb.cell (Below.lt (h k hk))]; exact h k hk
theorem CI.new {l : List Int} {w : World} {T : TypeId} {cs : Array Value} (hcs : cs = (l.map (Value.int .i64)).toArray) : CI w.heap.size l (w.alloc (.cells cs T)) := by
  subst hcs
  intro k hk
  rw [cell_of_row (w.alloc (.cells _ T)) w.heap.size k _ T (0, 0) (heap_alloc_new w _)]
  simp [hk, List.getD_eq_getElem?_getD]

end Go.Proofs.YtabpmpaeakebmaaDoor
