/- A table of locks and a row of values beside it. -/
import Derived.Test.YtpgelebmhhcodaaLkM
import Derived.Test.YtpgelebmhhcodaaLkP
namespace Go.Proofs.Ytpgelebmhhcodaa
open Go.RowKit
set_option linter.unusedVariables false

structure TR (w0 w : World) (X : Nat) (v : Value) (T : List HoldD) (B : Nat) (ty : TypeId) (cs : List Value) : Prop where
  tw : TW w0 w X v T
  row : w.heap[B]? = some (.cells cs.toArray ty (0, 0))
  nB : ¬ Tb.F X v B
  lo : w0.heap.size ≤ B
theorem TR.low {w0 w : World} {X B : Nat} {v : Value} {T : List HoldD} {ty : TypeId} {cs : List Value} (h : TR w0 w X v T B ty cs) : B < w.heap.size := (Array.getElem?_eq_some_iff.1 h.row).1
theorem TR.below {w0 w w' : World} {X B : Nat} {v : Value} {T : List HoldD} {ty : TypeId} {cs : List Value} (h : TR w0 w X v T B ty cs) (hb : Below w.heap.size w w') : TR w0 w' X v T B ty cs :=
  ⟨h.tw.below hb, by rw [hb.block B h.low]; exact h.row, h.nB, h.lo⟩
theorem TR.turn {w0 w w' : World} {X B : Nat} {v v' : Value} {T T' : List HoldD} {ty : TypeId} {cs : List Value} (h : TR w0 w X v T B ty cs) (ht : Tb w' X v' T') (hx : Ext (Tb.F X v) w (Tb.F X v') w') : TR w0 w' X v' T' B ty cs := by
  obtain ⟨a1, a2, a3, a4, a5, a6⟩ := hx
  refine ⟨h.tw.turn ht ⟨a1, a2, a3, a4, a5, a6⟩, by rw [a5 B h.low h.nB]; exact h.row, fun hf => ?_, h.lo⟩
  rcases a6 B hf with e | e
  · exact h.nB e
  · have := h.low; omega
theorem TR.cell {w0 w : World} {X B : Nat} {v : Value} {T : List HoldD} {ty : TypeId} {cs : List Value} (h : TR w0 w X v T B ty cs) {i : Nat} {c : Value} (hc : cs[i]? = some c) : w.cell? ⟨B, i, none⟩ = some c ∧ w.frozen? ⟨B, i, none⟩ = false :=
  ⟨by rw [cell_of_row w B i _ _ (0, 0) h.row]; simpa using hc, rowFrozen h.row i⟩
theorem TR.put {w0 w : World} {X B : Nat} {v : Value} {T : List HoldD} {ty : TypeId} {cs : List Value} (h : TR w0 w X v T B ty cs) (i : Nat) (c : Value) : TR w0 (w.setCell ⟨B, i, none⟩ c) X v T B ty (cs.set i c) := by
  have hne : ∀ b, Tb.F X v b → (w.setCell ⟨B, i, none⟩ c).heap[b]? = w.heap[b]? := fun b hf => setCell_otherL w _ _ fun e => h.nB (by rw [show B = b from e.symm]; exact hf)
  have hx : Ext (fun b => b = B) w (fun b => b = B) (w.setCell ⟨B, i, none⟩ c) := ext_setCell (F := fun b => b = B) rfl _ _
  refine ⟨⟨h.tw.tb.same hne, h.tw.bel.trans (hx.below (fun b e => by rw [e]; exact h.lo) h.tw.bel.size), h.tw.low⟩, ?_, h.nB, h.lo⟩
  rw [setCell_rowL h.row]
  simp
theorem TR.new {w0 w : World} {X : Nat} {v : Value} {T : List HoldD} (h : TW w0 w X v T) (ty : TypeId) (cs : List Value) : TR w0 (w.alloc (.cells cs.toArray ty)) X v T w.heap.size ty cs :=
  ⟨h.below ((Below.refl _ _).alloc (Nat.le_refl _) _), heap_alloc_new w _, fun hf => Nat.lt_irrefl _ (h.tb.low hf), h.bel.size⟩
end Go.Proofs.Ytpgelebmhhcodaa
