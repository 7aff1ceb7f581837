/- Where a log lies in memory: the program's, the document's. -/
import Derived.Test.YtccfiohcblecoaaDoorGs
import Derived.Test.YtccfiohcblecoaaDoorChP
namespace Go.Proofs.YtccfiohcblecoaaDoor
open Go.RowKit
set_option linter.unusedVariables false

/-- a log's plain fields -/
structure LogC where
  d : Value
  first : Int
  blocks : Int
  base : Int
  epoch : Int
  done : Int
/-- its fields' bounds -/
structure LogC.Ok (c : LogC) : Prop where
  b0 : 0 ≤ c.base
  b1 : c.base ≤ 2000000000
  k0 : 0 ≤ c.blocks
  k1 : c.blocks ≤ 1000
  f0 : 0 ≤ c.first
  f1 : c.first ≤ 1000
def LogC.F (X : Nat) (v : Value) : Nat → Prop := fun b => b = X ∨ v.ownBlock = some b
def headCs (c : LogC) (v : Value) : Array Value := #[c.d, .int .i64 c.first, .int .i64 c.blocks, .int .i64 c.base, .int .i64 c.epoch, v, .int .i64 c.done]
structure Lg (T : TypeId) (w : World) (X : Nat) (c : LogC) (v : Value) (L : List RecD) : Prop where
  head : w.heap[X]? = some (.cells (headCs c v) T (0, 0))
  own : Og 0 w v L
  vX : v.ownBlock ≠ some X
  ok : c.Ok
  len : L.length ≤ 10000
theorem Lg.low {T : TypeId} {w : World} {X : Nat} {c : LogC} {v : Value} {L : List RecD} (h : Lg T w X c v L) {b : Nat} (hb : LogC.F X v b) : b < w.heap.size := by
  rcases hb with rfl | e
  · exact (Array.getElem?_eq_some_iff.1 h.head).1
  · exact (h.own.lt e).2
theorem Lg.same {T : TypeId} {w w' : World} {X : Nat} {c : LogC} {v : Value} {L : List RecD} (h : Lg T w X c v L) (hb : ∀ b, LogC.F X v b → w'.heap[b]? = w.heap[b]?) : Lg T w' X c v L :=
  ⟨by rw [hb X (.inl rfl)]; exact h.head, h.own.same fun b e => hb b (.inr e), h.vX, h.ok, h.len⟩
theorem Lg.below {T : TypeId} {w w' : World} {X : Nat} {c : LogC} {v : Value} {L : List RecD} (h : Lg T w X c v L) (hb : Below w.heap.size w w') : Lg T w' X c v L := h.same fun b hf => hb.block b (h.low hf)
theorem Lg.apart {T : TypeId} {F F' : Nat → Prop} {w w' : World} {X : Nat} {c : LogC} {v : Value} {L : List RecD} (h : Lg T w X c v L) (he : Ext F w F' w') (hn : ∀ b, LogC.F X v b → ¬ F b) : Lg T w' X c v L := h.same fun b hf => he.block b (h.low hf) (hn b hf)
theorem Lg.cells {T : TypeId} {w : World} {X : Nat} {c : LogC} {v : Value} {L : List RecD} (h : Lg T w X c v L) :
    w.cell? ⟨X, 0, none⟩ = some c.d ∧ w.cell? ⟨X, 1, none⟩ = some (.int .i64 c.first) ∧ w.cell? ⟨X, 2, none⟩ = some (.int .i64 c.blocks) ∧ w.cell? ⟨X, 3, none⟩ = some (.int .i64 c.base) ∧ w.cell? ⟨X, 4, none⟩ = some (.int .i64 c.epoch) ∧ w.cell? ⟨X, 5, none⟩ = some v ∧ w.cell? ⟨X, 6, none⟩ = some (.int .i64 c.done) ∧ (∀ i, w.frozen? ⟨X, i, none⟩ = false) := by
  refine ⟨?_, ?_, ?_, ?_, ?_, ?_, ?_, fun i => rowFrozen h.head i⟩ <;> rw [cell_of_row w X _ _ _ (0, 0) h.head] <;> rfl

/-- a new log -/
theorem Lg.new (T : TypeId) (w : World) (c : LogC) (hc : c.Ok) : Lg T (w.alloc (.cells (headCs c (.slice none 0 0)) T)) w.heap.size c (.slice none 0 0) [] :=
  ⟨heap_alloc_new w _, Og.nil, by simp [Value.ownBlock], hc, by simp⟩

/-- the records stored anew -/
theorem Lg.put {T : TypeId} {w w1 w2 : World} {X : Nat} {c : LogC} {v v' : Value} {L M : List RecD} (h : Lg T w X c v L) (hb : Below w.heap.size w w1) (hg : w1.grownBy w2 v.ownBlock) (ho : Og 0 w2 v' M)
    (hv : ∀ b, v'.ownBlock = some b → v.ownBlock = some b ∨ w1.heap.size ≤ b) (hl : M.length ≤ 10000) :
    (w2.cell? ⟨X, 5, none⟩ = some v ∧ w2.frozen? ⟨X, 5, none⟩ = false ∧ w2.cell? ⟨X, 3, none⟩ = some (.int .i64 c.base)) ∧ Lg T (w2.setCell ⟨X, 5, none⟩ v') X c v' M ∧ Ext (LogC.F X v) w (LogC.F X v') (w2.setCell ⟨X, 5, none⟩ v') := by
  have h1 := h.below hb
  have hX1 : X < w1.heap.size := h1.low (.inl rfl)
  have hX : X < w.heap.size := h.low (.inl rfl)
  have hh2 : w2.heap[X]? = some (.cells (headCs c v) T (0, 0)) := by rw [hg.block X hX1 fun e => h.vX e.symm]; exact h1.head
  have hne : ∀ b, b ≠ X → (w2.setCell ⟨X, 5, none⟩ v').heap[b]? = w2.heap[b]? := fun b hb => setCell_otherR w2 _ _ hb
  have hvX : v'.ownBlock ≠ some X := fun e => by
    rcases hv X e with e1 | e1
    · exact h.vX e1
    · omega
  refine ⟨⟨?_, rowFrozen hh2 5, ?_⟩, ⟨?_, ho.same fun b e => hne b fun e2 => hvX (e2 ▸ e), hvX, h.ok, hl⟩, ?_⟩
  · rw [cell_of_row w2 X _ _ _ (0, 0) hh2]; rfl
  · rw [cell_of_row w2 X _ _ _ (0, 0) hh2]; rfl
  · rw [setCell_rowR hh2]; rfl
  · refine ⟨hg.os.trans hb.os, hg.tape.trans hb.tape, hg.output.trans hb.output, ?_, fun b hbl hn => ?_, fun b hf => ?_⟩
    · rw [setCell_sizeR]; exact Nat.le_trans hb.size hg.size
    · rw [hne b fun e => hn (.inl e), hg.block b (Nat.lt_of_lt_of_le hbl hb.size) (fun e => hn (.inr e.symm)), hb.block b hbl]
    · rcases hf with e | e
      · exact .inl (.inl e)
      · rcases hv b e with e1 | e1
        · exact .inl (.inr e1)
        · exact .inr (Nat.le_trans hb.size e1)

/-- ten stores into one block -/
theorem below10 {base : Nat} {w0 W : World} (h : Below base w0 W) {A : Nat} (hA : base ≤ A) (v0 v1 v2 v3 v4 v5 v6 v7 v8 v9 : Value) :
    Below base w0 ((((((((((W.setCell ⟨A, 0, none⟩ v0).setCell ⟨A, 1, none⟩ v1).setCell ⟨A, 2, none⟩ v2).setCell ⟨A, 3, none⟩ v3).setCell ⟨A, 4, none⟩ v4).setCell ⟨A, 5, none⟩ v5).setCell ⟨A, 6, none⟩ v6).setCell ⟨A, 7, none⟩ v7).setCell ⟨A, 8, none⟩ v8).setCell ⟨A, 9, none⟩ v9) :=
  ((((((((((h.setCell (p := ⟨A, 0, none⟩) hA v0).setCell (p := ⟨A, 1, none⟩) hA v1).setCell (p := ⟨A, 2, none⟩) hA v2).setCell (p := ⟨A, 3, none⟩) hA v3).setCell (p := ⟨A, 4, none⟩) hA v4).setCell (p := ⟨A, 5, none⟩) hA v5).setCell (p := ⟨A, 6, none⟩) hA v6).setCell (p := ⟨A, 7, none⟩) hA v7).setCell (p := ⟨A, 8, none⟩) hA v8).setCell (p := ⟨A, 9, none⟩) hA v9)

/-- how many records more there is room for -/
def roomN (c : LogC) (n : Int) : Int := max (min (c.blocks * 6 - n) (1073741824 - (c.base + n))) 0
end Go.Proofs.YtccfiohcblecoaaDoor
