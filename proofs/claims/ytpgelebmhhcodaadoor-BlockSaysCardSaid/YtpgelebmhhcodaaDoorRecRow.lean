/- A record's row of cells. -/
import Derived.Test.YtpgelebmhhcodaaDoorProg
import Derived.Test.YtpgelebmhhcodaaDoorPlain
import Derived.Test.YtpgelebmhhcodaaDoorMasRow
namespace Go.Proofs.YtpgelebmhhcodaaDoor
open Go.RowKit
set_option linter.unusedVariables false

/-- a block that holds a record's cells -/
def RW (A : Nat) (cs : Array Value) (w : World) : Prop := w.heap[A]? = some (.cells cs 24 (0, 0))
def recCs (r : RecD) : Array Value := #[.int .i64 r.kind, .int .i64 r.txn, .int .i64 r.page, .int .i64 r.prev, .int .i64 r.next, .int .i64 r.key, .bool r.had, .bool r.has, .int .i64 r.old, .int .i64 r.new]
theorem RW.below {A : Nat} {cs : Array Value} {w w' : World} (h : RW A cs w) (hb : Below w.heap.size w w') : RW A cs w' := by
  unfold RW; rw [hb.block _ (Array.getElem?_eq_some_iff.1 h).1]; exact h
theorem RW.lt {A : Nat} {cs : Array Value} {w : World} (h : RW A cs w) : A < w.heap.size := (Array.getElem?_eq_some_iff.1 h).1
theorem RW.frozen {A : Nat} {cs : Array Value} {w : World} (h : RW A cs w) (i : Nat) : w.frozen? ⟨A, i, none⟩ = false := rowFrozen h i
theorem RW.new (w : World) (cs : Array Value) : RW w.heap.size cs (w.alloc (.cells cs 24)) := heap_alloc_new w _
theorem RW.cells {A : Nat} {w : World} {c0 c1 c2 c3 c4 c5 c6 c7 c8 c9 : Value} (h : RW A #[c0, c1, c2, c3, c4, c5, c6, c7, c8, c9] w) :
    w.cell? ⟨A, 0, none⟩ = some c0 ∧ w.cell? ⟨A, 1, none⟩ = some c1 ∧ w.cell? ⟨A, 2, none⟩ = some c2 ∧ w.cell? ⟨A, 3, none⟩ = some c3 ∧ w.cell? ⟨A, 4, none⟩ = some c4 ∧ w.cell? ⟨A, 5, none⟩ = some c5 ∧ w.cell? ⟨A, 6, none⟩ = some c6 ∧ w.cell? ⟨A, 7, none⟩ = some c7 ∧ w.cell? ⟨A, 8, none⟩ = some c8 ∧ w.cell? ⟨A, 9, none⟩ = some c9 := by
  refine ⟨?_, ?_, ?_, ?_, ?_, ?_, ?_, ?_, ?_, ?_⟩ <;> rw [cell_of_row w A _ _ _ (0, 0) h] <;> rfl
theorem setCell_rowR {w : World} {A : Nat} {T : TypeId} {cs : Array Value} {r : Nat × Nat} (h : w.heap[A]? = some (.cells cs T r)) (i : Nat) (v : Value) : (w.setCell ⟨A, i, none⟩ v).heap[A]? = some (.cells (cs.setIfInBounds i v) T r) := by
  obtain ⟨hlt, hk⟩ := Array.getElem?_eq_some_iff.1 h
  show (w.heap.modify A _)[A]? = _
  rw [Array.getElem?_eq_getElem (by rw [Array.size_modify]; exact hlt), Array.getElem_modify_self, hk]
  rfl
theorem setCell_sizeR (w : World) (a : Addr) (v : Value) : (w.setCell a v).heap.size = w.heap.size := by
  show (w.heap.modify a.block _).size = _
  rw [Array.size_modify]
theorem setCell_otherR (w : World) {A g : Nat} (i : Nat) (v : Value) (h : g ≠ A) : (w.setCell ⟨A, i, none⟩ v).heap[g]? = w.heap[g]? := by
  show (w.heap.modify A _)[g]? = _
  rw [Array.getElem?_modify, if_neg (Ne.symm h)]
/-- such a block, written anew -/
theorem RW.put {A : Nat} {w W : World} {c0 c1 c2 c3 c4 c5 c6 c7 c8 c9 : Value} (h : RW A #[c0, c1, c2, c3, c4, c5, c6, c7, c8, c9] w) (d0 d1 d2 d3 d4 d5 d6 d7 d8 d9 : Value)
    (hW : W = (((((((((w.setCell ⟨A, 0, none⟩ d0).setCell ⟨A, 1, none⟩ d1).setCell ⟨A, 2, none⟩ d2).setCell ⟨A, 3, none⟩ d3).setCell ⟨A, 4, none⟩ d4).setCell ⟨A, 5, none⟩ d5).setCell ⟨A, 6, none⟩ d6).setCell ⟨A, 7, none⟩ d7).setCell ⟨A, 8, none⟩ d8).setCell ⟨A, 9, none⟩ d9) :
    RW A #[d0, d1, d2, d3, d4, d5, d6, d7, d8, d9] W ∧ W.heap.size = w.heap.size ∧ (∀ base w0, Below base w0 w → base ≤ A → Below base w0 W) ∧ ∀ g, g ≠ A → W.heap[g]? = w.heap[g]? := by
  have h0 := setCell_rowR h 0 d0
  have h1 := setCell_rowR h0 1 d1
  have h2 := setCell_rowR h1 2 d2
  have h3 := setCell_rowR h2 3 d3
  have h4 := setCell_rowR h3 4 d4
  have h5 := setCell_rowR h4 5 d5
  have h6 := setCell_rowR h5 6 d6
  have h7 := setCell_rowR h6 7 d7
  have h8 := setCell_rowR h7 8 d8
  have h9 := setCell_rowR h8 9 d9
  rw [← hW] at h9
  clear h0 h1 h2 h3 h4 h5 h6 h7 h8 h
  refine ⟨?_, ?_, fun base w0 hb hA => ?_, fun g hg => ?_⟩
  · unfold RW; rw [h9]; simp
  · rw [hW]; simp only [setCell_sizeR]
  · rw [hW]
    have k0 := hb.setCell (p := ⟨A, 0, none⟩) hA d0
    have k1 := k0.setCell (p := ⟨A, 1, none⟩) hA d1
    have k2 := k1.setCell (p := ⟨A, 2, none⟩) hA d2
    have k3 := k2.setCell (p := ⟨A, 3, none⟩) hA d3
    have k4 := k3.setCell (p := ⟨A, 4, none⟩) hA d4
    have k5 := k4.setCell (p := ⟨A, 5, none⟩) hA d5
    have k6 := k5.setCell (p := ⟨A, 6, none⟩) hA d6
    have k7 := k6.setCell (p := ⟨A, 7, none⟩) hA d7
    have k8 := k7.setCell (p := ⟨A, 8, none⟩) hA d8
    exact k8.setCell (p := ⟨A, 9, none⟩) hA d9
  · rw [hW]; simp only [setCell_otherR _ _ _ hg]

/-- what a record's reading may be: the record, and an error's number -/
def rec00 : RecD := ⟨0, 0, 0, 0, 0, 0, false, false, 0, 0⟩
def readR (b : List Int) : RecD × Int :=
  if b.length ≠ 40 then (rec00, 103) else if okR (recOf b) && sameB (recB (recOf b)) b then (recOf b, 0) else (rec00, 104)
theorem readR_len (b : List Int) (h : b.length ≠ 40) : readR b = (rec00, 103) := by unfold readR; rw [if_pos h]
end Go.Proofs.YtpgelebmhhcodaaDoor
