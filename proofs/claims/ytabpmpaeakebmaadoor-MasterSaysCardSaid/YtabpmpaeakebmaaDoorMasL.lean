/- What the walks of chapter 5's laws share. -/
import Derived.Test.YtabpmpaeakebmaaDoorMasF
import Derived.Test.YtabpmpaeakebmaaDoorMasO
import Derived.Test.YtabpmpaeakebmaaDoorMasW
import Derived.Test.YtabpmpaeakebmaaDoorMasS
import Derived.Test.YtabpmpaeakebmaaDoorBytesR
namespace Go.Proofs.YtabpmpaeakebmaaDoor
open Go.RowKit
set_option linter.unusedVariables false

/-- a variable that holds a master -/
def MS (A : Nat) (m : MasD) (w : World) : Prop := w.heap[A]? = some (.cells #[.int .i64 m.epoch, .int .i64 m.base, .int .i64 m.reset, .int .i64 m.ckpt, .int .i64 m.pages, .int .i64 m.blocks, .int .i64 m.frames] 23 (0, 0))
theorem MS.below {A : Nat} {m : MasD} {w w' : World} (h : MS A m w) (hb : Below w.heap.size w w') : MS A m w' := by
  unfold MS; rw [hb.block _ (Array.getElem?_eq_some_iff.1 h).1]; exact h
theorem MS.cells {A : Nat} {m : MasD} {w : World} (h : MS A m w) :
    w.cell? ⟨A, 0, none⟩ = some (.int .i64 m.epoch) ∧ w.cell? ⟨A, 1, none⟩ = some (.int .i64 m.base) ∧ w.cell? ⟨A, 2, none⟩ = some (.int .i64 m.reset) ∧ w.cell? ⟨A, 3, none⟩ = some (.int .i64 m.ckpt) ∧ w.cell? ⟨A, 4, none⟩ = some (.int .i64 m.pages) ∧ w.cell? ⟨A, 5, none⟩ = some (.int .i64 m.blocks) ∧ w.cell? ⟨A, 6, none⟩ = some (.int .i64 m.frames) := row7 h
theorem MS.frozen {A : Nat} {m : MasD} {w : World} (h : MS A m w) (i : Nat) : w.frozen? ⟨A, i, none⟩ = false := rowFrozen h i
theorem MS.lt {A : Nat} {m : MasD} {w : World} (h : MS A m w) : A < w.heap.size := (Array.getElem?_eq_some_iff.1 h).1
theorem MS.new (w : World) (m : MasD) : MS w.heap.size m (w.alloc (.cells #[.int .i64 m.epoch, .int .i64 m.base, .int .i64 m.reset, .int .i64 m.ckpt, .int .i64 m.pages, .int .i64 m.blocks, .int .i64 m.frames] 23)) := heap_alloc_new w _

theorem setCell_row {w : World} {A : Nat} {T : TypeId} {cs : Array Value} {r : Nat × Nat} (h : w.heap[A]? = some (.cells cs T r)) (i : Nat) (v : Value) : (w.setCell ⟨A, i, none⟩ v).heap[A]? = some (.cells (cs.setIfInBounds i v) T r) := by
  obtain ⟨hlt, hk⟩ := Array.getElem?_eq_some_iff.1 h
  show (w.heap.modify A _)[A]? = _
  rw [Array.getElem?_eq_getElem (by rw [Array.size_modify]; exact hlt), Array.getElem_modify_self, hk]
  rfl
theorem setCell_size (w : World) (a : Addr) (v : Value) : (w.setCell a v).heap.size = w.heap.size := by
  show (w.heap.modify a.block _).size = _
  rw [Array.size_modify]
theorem setCell_other (w : World) {A g : Nat} (i : Nat) (v : Value) (h : g ≠ A) : (w.setCell ⟨A, i, none⟩ v).heap[g]? = w.heap[g]? := by
  show (w.heap.modify A _)[g]? = _
  rw [Array.getElem?_modify, if_neg (Ne.symm h)]

/-- such a variable, written anew -/
theorem MS.put {A : Nat} {m : MasD} {w W : World} (h : MS A m w) (n : MasD)
    (hW : W = ((((((w.setCell ⟨A, 0, none⟩ (.int .i64 n.epoch)).setCell ⟨A, 1, none⟩ (.int .i64 n.base)).setCell ⟨A, 2, none⟩ (.int .i64 n.reset)).setCell ⟨A, 3, none⟩ (.int .i64 n.ckpt)).setCell ⟨A, 4, none⟩ (.int .i64 n.pages)).setCell ⟨A, 5, none⟩ (.int .i64 n.blocks)).setCell ⟨A, 6, none⟩ (.int .i64 n.frames)) :
    MS A n W ∧ W.heap.size = w.heap.size ∧ ∀ base w0, Below base w0 w → base ≤ A → Below base w0 W := by
  have h0 := setCell_row h 0 (.int .i64 n.epoch)
  have h1 := setCell_row h0 1 (.int .i64 n.base)
  have h2 := setCell_row h1 2 (.int .i64 n.reset)
  have h3 := setCell_row h2 3 (.int .i64 n.ckpt)
  have h4 := setCell_row h3 4 (.int .i64 n.pages)
  have h5 := setCell_row h4 5 (.int .i64 n.blocks)
  have h6 := setCell_row h5 6 (.int .i64 n.frames)
  rw [← hW] at h6
  clear h0 h1 h2 h3 h4 h5 h
  refine ⟨?_, ?_, fun base w0 hb hA => ?_⟩
  · unfold MS; rw [h6]; simp
  · rw [hW, setCell_size, setCell_size, setCell_size, setCell_size, setCell_size, setCell_size, setCell_size]
  · rw [hW]
    have k0 := hb.setCell (p := ⟨A, 0, none⟩) hA (.int .i64 n.epoch)
    have k1 := k0.setCell (p := ⟨A, 1, none⟩) hA (.int .i64 n.base)
    have k2 := k1.setCell (p := ⟨A, 2, none⟩) hA (.int .i64 n.reset)
    have k3 := k2.setCell (p := ⟨A, 3, none⟩) hA (.int .i64 n.ckpt)
    have k4 := k3.setCell (p := ⟨A, 4, none⟩) hA (.int .i64 n.pages)
    have k5 := k4.setCell (p := ⟨A, 5, none⟩) hA (.int .i64 n.blocks)
    exact k5.setCell (p := ⟨A, 6, none⟩) hA (.int .i64 n.frames)
end Go.Proofs.YtabpmpaeakebmaaDoor
