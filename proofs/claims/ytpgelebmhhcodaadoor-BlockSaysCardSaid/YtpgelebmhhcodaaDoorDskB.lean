/- What a store, an append do to a disk's memory. -/
import Derived.Test.YtpgelebmhhcodaaDoorDskA
import Derived.Deep.AppendLies
import Derived.OwnWalk
namespace Go.Proofs.YtpgelebmhhcodaaDoor
open Go.RowKit
set_option linter.unusedVariables false

theorem set_same {cur : Array Value} {i : Nat} {v : Value} (h : cur[i]? = some v) : cur.setIfInBounds i v = cur := by
  apply Array.ext_getElem?
  intro j
  rw [Array.getElem?_setIfInBounds]
  split
  · rename_i e
    subst e
    rw [h, if_pos (Array.getElem?_eq_some_iff.1 h).1]
  · rfl
theorem setCell_rowD {w : World} {A : Nat} {T : TypeId} {cs : Array Value} {r : Nat × Nat} (h : w.heap[A]? = some (.cells cs T r)) (i : Nat) (v : Value) : (w.setCell ⟨A, i, none⟩ v).heap[A]? = some (.cells (cs.setIfInBounds i v) T r) := by
  obtain ⟨hlt, hk⟩ := Array.getElem?_eq_some_iff.1 h
  show (w.heap.modify A _)[A]? = _
  rw [Array.getElem?_eq_getElem (by rw [Array.size_modify]; exact hlt), Array.getElem_modify_self, hk]
  rfl
theorem setCell_sizeD (w : World) (a : Addr) (v : Value) : (w.setCell a v).heap.size = w.heap.size := by
  show (w.heap.modify a.block _).size = _
  rw [Array.size_modify]
theorem setCell_otherD (w : World) {A g : Nat} (i : Nat) (v : Value) (h : g ≠ A) : (w.setCell ⟨A, i, none⟩ v).heap[g]? = w.heap[g]? := by
  show (w.heap.modify A _)[g]? = _
  rw [Array.getElem?_modify, if_neg (Ne.symm h)]

theorem secInfo : (Tryd.prog.info? 25).map (fun i => (i.zero, i.size, i.bytes)) = some (some (.slice none 0 0), 1, 24) := by kernel_rfl

end Go.Proofs.YtpgelebmhhcodaaDoor
