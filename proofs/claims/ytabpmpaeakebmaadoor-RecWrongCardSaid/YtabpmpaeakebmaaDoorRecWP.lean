/- The walk of RecWrong. -/
import Derived.Test.YtabpmpaeakebmaaDoorProg
import Derived.Test.YtabpmpaeakebmaaDoorRecF
import Derived.Test.YtabpmpaeakebmaaDoorIs
import Derived.Test.YtabpmpaeakebmaaDoorNum
namespace Go.Proofs.YtabpmpaeakebmaaDoor
open Go.RowKit
set_option linter.unusedVariables false

theorem wpList_buildSlice_ex {P : Program} (w : World) {ops : Array Oper} {rest : List Oper} {o : Oper} {a : Act} {Q : Exit → Act → World → Prop} (hgd : o.guard = none) (t : TypeId) (n : Nat) (ps : Array (Nat × Operand))
    (ho : o.op = .buildSlice t n ps) (vs : Array (Nat × Value)) (hv : (ps.map fun (i, x) => (i, a.eval x)) = vs) (v' : Value) (R : World → Prop) (hr : ∃ w', (Instr.buildSlice t n vs).run P w = .ok v' w' ∧ R w') (h : ∀ w', R w' → wpList P ops Q rest (a.put o.dst v') w') : wpList P ops Q (o :: rest) a w := by
  obtain ⟨w', hr, hR⟩ := hr
  exact wpList_plain hgd fun _ hK => by
    unfold Oper.wp execOp
    simp only [ho, hv, Sem.run_bind, Sem.run_pure, Result.andThen_ok, hr]
    exact hK _ _ (h w' hR)

theorem row_set {w : World} {g : Nat} {cs : Array Value} {t : TypeId} {fr : Nat × Nat} (i : Nat) (v : Value) (h : w.heap[g]? = some (.cells cs t fr)) : (w.setCell ⟨g, i, none⟩ v).heap[g]? = some (.cells (cs.setIfInBounds i v) t fr) := by
  obtain ⟨hlt, hk⟩ := Array.getElem?_eq_some_iff.1 h
  show (w.heap.modify g _)[g]? = _
  rw [Array.getElem?_eq_getElem (by rw [Array.size_modify]; exact hlt), Array.getElem_modify_self, hk]
  rfl
theorem frozen_of_row {w : World} {g : Nat} {cs : Array Value} {t : TypeId} (i : Nat) (h : w.heap[g]? = some (.cells cs t (0, 0))) : w.frozen? ⟨g, i, none⟩ = false := by
  simp [World.frozen?, h]

/-- a row of cells -/
def rowIs (w : World) (g : Nat) (cs : Array Value) : Prop := w.heap[g]? = some (.cells cs 50 (0, 0))
/-- the cells of the records, as they are laid, and as they are behind the ten stores -/
def wrongA : Array Value := #[.int .i64 2, .int .i64 1, .int .i64 1, .int .i64 5, .int .i64 0, .int .i64 7, .bool false, .bool true, .int .i64 0, .int .i64 9, .int .i64 2, .int .i64 1, .int .i64 1, .int .i64 5, .int .i64 0, .int .i64 7, .bool false, .bool true, .int .i64 0, .int .i64 9, .int .i64 2, .int .i64 1, .int .i64 1, .int .i64 5, .int .i64 0, .int .i64 7, .bool false, .bool true, .int .i64 0, .int .i64 9, .int .i64 2, .int .i64 1, .int .i64 1, .int .i64 5, .int .i64 0, .int .i64 7, .bool false, .bool true, .int .i64 0, .int .i64 9, .int .i64 2, .int .i64 1, .int .i64 1, .int .i64 5, .int .i64 0, .int .i64 7, .bool false, .bool true, .int .i64 0, .int .i64 9, .int .i64 2, .int .i64 1, .int .i64 1, .int .i64 5, .int .i64 0, .int .i64 7, .bool false, .bool true, .int .i64 0, .int .i64 9, .int .i64 2, .int .i64 1, .int .i64 1, .int .i64 5, .int .i64 0, .int .i64 7, .bool false, .bool true, .int .i64 0, .int .i64 9, .int .i64 3, .int .i64 1, .int .i64 1, .int .i64 5, .int .i64 3, .int .i64 7, .bool true, .bool false, .int .i64 4, .int .i64 0, .int .i64 3, .int .i64 1, .int .i64 1, .int .i64 5, .int .i64 3, .int .i64 7, .bool true, .bool false, .int .i64 4, .int .i64 0, .int .i64 3, .int .i64 1, .int .i64 1, .int .i64 5, .int .i64 3, .int .i64 7, .bool true, .bool false, .int .i64 4, .int .i64 0, .int .i64 0, .int .i64 0, .int .i64 0, .int .i64 0, .int .i64 0, .int .i64 0, .bool false, .bool false, .int .i64 0, .int .i64 0, .int .i64 11, .int .i64 0, .int .i64 0, .int .i64 0, .int .i64 0, .int .i64 0, .bool false, .bool false, .int .i64 0, .int .i64 0, .int .i64 1, .int .i64 0, .int .i64 0, .int .i64 0, .int .i64 0, .int .i64 0, .bool false, .bool false, .int .i64 0, .int .i64 0, .int .i64 1, .int .i64 1, .int .i64 0, .int .i64 1, .int .i64 0, .int .i64 0, .bool false, .bool false, .int .i64 0, .int .i64 0, .int .i64 9, .int .i64 0, .int .i64 1, .int .i64 0, .int .i64 0, .int .i64 0, .bool false, .bool false, .int .i64 0, .int .i64 0, .int .i64 8, .int .i64 1, .int .i64 0, .int .i64 0, .int .i64 0, .int .i64 3, .bool false, .bool false, .int .i64 0, .int .i64 0, .int .i64 10, .int .i64 0, .int .i64 0, .int .i64 0, .int .i64 60001, .int .i64 0, .bool false, .bool false, .int .i64 0, .int .i64 0, .int .i64 7, .int .i64 1, .int .i64 0, .int .i64 0, .int .i64 0, .int .i64 0, .bool false, .bool false, .int .i64 0, .int .i64 0, .int .i64 4, .int .i64 1, .int .i64 0, .int .i64 0, .int .i64 0, .int .i64 1, .bool false, .bool false, .int .i64 0, .int .i64 0, .int .i64 6, .int .i64 60001, .int .i64 0, .int .i64 0, .int .i64 0, .int .i64 0, .bool false, .bool false, .int .i64 0, .int .i64 0]
def wrongB (far : Int) : Array Value := #[.int .i64 2, .int .i64 0, .int .i64 1, .int .i64 5, .int .i64 0, .int .i64 7, .bool false, .bool true, .int .i64 0, .int .i64 9, .int .i64 2, .int .i64 1, .int .i64 33, .int .i64 5, .int .i64 0, .int .i64 7, .bool false, .bool true, .int .i64 0, .int .i64 9, .int .i64 2, .int .i64 1, .int .i64 1, .int .i64 (1073741825 + far), .int .i64 0, .int .i64 7, .bool false, .bool true, .int .i64 0, .int .i64 9, .int .i64 2, .int .i64 1, .int .i64 1, .int .i64 5, .int .i64 1, .int .i64 7, .bool false, .bool true, .int .i64 0, .int .i64 9, .int .i64 2, .int .i64 1, .int .i64 1, .int .i64 5, .int .i64 0, .int .i64 1048576, .bool false, .bool true, .int .i64 0, .int .i64 9, .int .i64 2, .int .i64 1, .int .i64 1, .int .i64 5, .int .i64 0, .int .i64 7, .bool false, .bool true, .int .i64 3, .int .i64 9, .int .i64 2, .int .i64 1, .int .i64 1, .int .i64 5, .int .i64 0, .int .i64 7, .bool false, .bool false, .int .i64 0, .int .i64 9, .int .i64 3, .int .i64 1, .int .i64 1, .int .i64 5, .int .i64 3, .int .i64 7, .bool false, .bool false, .int .i64 4, .int .i64 0, .int .i64 3, .int .i64 1, .int .i64 1, .int .i64 5, .int .i64 3, .int .i64 7, .bool true, .bool false, .int .i64 0, .int .i64 0, .int .i64 3, .int .i64 1, .int .i64 1, .int .i64 5, .int .i64 3, .int .i64 7, .bool true, .bool false, .int .i64 4, .int .i64 4, .int .i64 0, .int .i64 0, .int .i64 0, .int .i64 0, .int .i64 0, .int .i64 0, .bool false, .bool false, .int .i64 0, .int .i64 0, .int .i64 11, .int .i64 0, .int .i64 0, .int .i64 0, .int .i64 0, .int .i64 0, .bool false, .bool false, .int .i64 0, .int .i64 0, .int .i64 1, .int .i64 0, .int .i64 0, .int .i64 0, .int .i64 0, .int .i64 0, .bool false, .bool false, .int .i64 0, .int .i64 0, .int .i64 1, .int .i64 1, .int .i64 0, .int .i64 1, .int .i64 0, .int .i64 0, .bool false, .bool false, .int .i64 0, .int .i64 0, .int .i64 9, .int .i64 0, .int .i64 1, .int .i64 0, .int .i64 0, .int .i64 0, .bool false, .bool false, .int .i64 0, .int .i64 0, .int .i64 8, .int .i64 1, .int .i64 0, .int .i64 0, .int .i64 0, .int .i64 3, .bool false, .bool false, .int .i64 0, .int .i64 0, .int .i64 10, .int .i64 0, .int .i64 0, .int .i64 0, .int .i64 60001, .int .i64 0, .bool false, .bool false, .int .i64 0, .int .i64 0, .int .i64 7, .int .i64 1, .int .i64 0, .int .i64 0, .int .i64 0, .int .i64 0, .bool false, .bool false, .int .i64 0, .int .i64 0, .int .i64 4, .int .i64 1, .int .i64 0, .int .i64 0, .int .i64 0, .int .i64 1, .bool false, .bool false, .int .i64 0, .int .i64 0, .int .i64 6, .int .i64 60001, .int .i64 0, .int .i64 0, .int .i64 0, .int .i64 0, .bool false, .bool false, .int .i64 0, .int .i64 0]
def wrongR (far : Int) : List RecD := [⟨2, 0, 1, 5, 0, 7, false, true, 0, 9⟩, ⟨2, 1, 33, 5, 0, 7, false, true, 0, 9⟩, ⟨2, 1, 1, (1073741825 + far), 0, 7, false, true, 0, 9⟩, ⟨2, 1, 1, 5, 1, 7, false, true, 0, 9⟩, ⟨2, 1, 1, 5, 0, 1048576, false, true, 0, 9⟩, ⟨2, 1, 1, 5, 0, 7, false, true, 3, 9⟩, ⟨2, 1, 1, 5, 0, 7, false, false, 0, 9⟩, ⟨3, 1, 1, 5, 3, 7, false, false, 4, 0⟩, ⟨3, 1, 1, 5, 3, 7, true, false, 0, 0⟩, ⟨3, 1, 1, 5, 3, 7, true, false, 4, 4⟩, ⟨0, 0, 0, 0, 0, 0, false, false, 0, 0⟩, ⟨11, 0, 0, 0, 0, 0, false, false, 0, 0⟩, ⟨1, 0, 0, 0, 0, 0, false, false, 0, 0⟩, ⟨1, 1, 0, 1, 0, 0, false, false, 0, 0⟩, ⟨9, 0, 1, 0, 0, 0, false, false, 0, 0⟩, ⟨8, 1, 0, 0, 0, 3, false, false, 0, 0⟩, ⟨10, 0, 0, 0, 60001, 0, false, false, 0, 0⟩, ⟨7, 1, 0, 0, 0, 0, false, false, 0, 0⟩, ⟨4, 1, 0, 0, 0, 1, false, false, 0, 0⟩, ⟨6, 60001, 0, 0, 0, 0, false, false, 0, 0⟩]

/-- the list of records, as it is laid -/
theorem recWrong_laid (w : World) : ∃ w', (Instr.buildSlice 51 20 #[(0, .agg #[.int .i64 2, .int .i64 1, .int .i64 1, .int .i64 5, .int .i64 0, .int .i64 7, .bool false, .bool true, .int .i64 0, .int .i64 9]), (1, .agg #[.int .i64 2, .int .i64 1, .int .i64 1, .int .i64 5, .int .i64 0, .int .i64 7, .bool false, .bool true, .int .i64 0, .int .i64 9]), (2, .agg #[.int .i64 2, .int .i64 1, .int .i64 1, .int .i64 5, .int .i64 0, .int .i64 7, .bool false, .bool true, .int .i64 0, .int .i64 9]), (3, .agg #[.int .i64 2, .int .i64 1, .int .i64 1, .int .i64 5, .int .i64 0, .int .i64 7, .bool false, .bool true, .int .i64 0, .int .i64 9]), (4, .agg #[.int .i64 2, .int .i64 1, .int .i64 1, .int .i64 5, .int .i64 0, .int .i64 7, .bool false, .bool true, .int .i64 0, .int .i64 9]), (5, .agg #[.int .i64 2, .int .i64 1, .int .i64 1, .int .i64 5, .int .i64 0, .int .i64 7, .bool false, .bool true, .int .i64 0, .int .i64 9]), (6, .agg #[.int .i64 2, .int .i64 1, .int .i64 1, .int .i64 5, .int .i64 0, .int .i64 7, .bool false, .bool true, .int .i64 0, .int .i64 9]), (7, .agg #[.int .i64 3, .int .i64 1, .int .i64 1, .int .i64 5, .int .i64 3, .int .i64 7, .bool true, .bool false, .int .i64 4, .int .i64 0]), (8, .agg #[.int .i64 3, .int .i64 1, .int .i64 1, .int .i64 5, .int .i64 3, .int .i64 7, .bool true, .bool false, .int .i64 4, .int .i64 0]), (9, .agg #[.int .i64 3, .int .i64 1, .int .i64 1, .int .i64 5, .int .i64 3, .int .i64 7, .bool true, .bool false, .int .i64 4, .int .i64 0]), (10, .agg #[.int .i64 0, .int .i64 0, .int .i64 0, .int .i64 0, .int .i64 0, .int .i64 0, .bool false, .bool false, .int .i64 0, .int .i64 0]), (11, .agg #[.int .i64 11, .int .i64 0, .int .i64 0, .int .i64 0, .int .i64 0, .int .i64 0, .bool false, .bool false, .int .i64 0, .int .i64 0]), (12, .agg #[.int .i64 1, .int .i64 0, .int .i64 0, .int .i64 0, .int .i64 0, .int .i64 0, .bool false, .bool false, .int .i64 0, .int .i64 0]), (13, .agg #[.int .i64 1, .int .i64 1, .int .i64 0, .int .i64 1, .int .i64 0, .int .i64 0, .bool false, .bool false, .int .i64 0, .int .i64 0]), (14, .agg #[.int .i64 9, .int .i64 0, .int .i64 1, .int .i64 0, .int .i64 0, .int .i64 0, .bool false, .bool false, .int .i64 0, .int .i64 0]), (15, .agg #[.int .i64 8, .int .i64 1, .int .i64 0, .int .i64 0, .int .i64 0, .int .i64 3, .bool false, .bool false, .int .i64 0, .int .i64 0]), (16, .agg #[.int .i64 10, .int .i64 0, .int .i64 0, .int .i64 0, .int .i64 60001, .int .i64 0, .bool false, .bool false, .int .i64 0, .int .i64 0]), (17, .agg #[.int .i64 7, .int .i64 1, .int .i64 0, .int .i64 0, .int .i64 0, .int .i64 0, .bool false, .bool false, .int .i64 0, .int .i64 0]), (18, .agg #[.int .i64 4, .int .i64 1, .int .i64 0, .int .i64 0, .int .i64 0, .int .i64 1, .bool false, .bool false, .int .i64 0, .int .i64 0]), (19, .agg #[.int .i64 6, .int .i64 60001, .int .i64 0, .int .i64 0, .int .i64 0, .int .i64 0, .bool false, .bool false, .int .i64 0, .int .i64 0])]).run Tryd.prog w = .ok (.slice (some ⟨w.heap.size, 0, none⟩) 20 20) w' ∧
    (rowIs w' w.heap.size wrongA ∧ Below w.heap.size w w' ∧ w.heap.size < w'.heap.size) := by
  refine ⟨w.alloc (.cells wrongA 50), by kernel_rfl, ?_, (Below.refl _ _).alloc (Nat.le_refl _) _, by simp⟩
  unfold rowIs
  exact heap_alloc_new w _

/-- the ten cells that are stored to -/
theorem recWrong_spots {w : World} {g : Nat} (h : rowIs w g wrongA) :
    (w.cell? ⟨g, 1, none⟩ = some (.int .i64 1) ∧ w.cell? ⟨g, 12, none⟩ = some (.int .i64 1) ∧ w.cell? ⟨g, 23, none⟩ = some (.int .i64 5) ∧ w.cell? ⟨g, 34, none⟩ = some (.int .i64 0) ∧ w.cell? ⟨g, 45, none⟩ = some (.int .i64 7) ∧
      w.cell? ⟨g, 58, none⟩ = some (.int .i64 0) ∧ w.cell? ⟨g, 67, none⟩ = some (.bool true) ∧ w.cell? ⟨g, 76, none⟩ = some (.bool true) ∧ w.cell? ⟨g, 88, none⟩ = some (.int .i64 4) ∧ w.cell? ⟨g, 99, none⟩ = some (.int .i64 0)) ∧
    (w.frozen? ⟨g, 1, none⟩ = false ∧ w.frozen? ⟨g, 12, none⟩ = false ∧ w.frozen? ⟨g, 23, none⟩ = false ∧ w.frozen? ⟨g, 34, none⟩ = false ∧ w.frozen? ⟨g, 45, none⟩ = false ∧
      w.frozen? ⟨g, 58, none⟩ = false ∧ w.frozen? ⟨g, 67, none⟩ = false ∧ w.frozen? ⟨g, 76, none⟩ = false ∧ w.frozen? ⟨g, 88, none⟩ = false ∧ w.frozen? ⟨g, 99, none⟩ = false) := by
  have f : ∀ i, w.frozen? ⟨g, i, none⟩ = false := fun i => frozen_of_row i h
  have c : ∀ i, w.cell? ⟨g, i, none⟩ = wrongA[i]? := fun i => cell_of_row w g i _ _ _ h
  exact ⟨⟨(c 1).trans (by kernel_rfl), (c 12).trans (by kernel_rfl), (c 23).trans (by kernel_rfl), (c 34).trans (by kernel_rfl), (c 45).trans (by kernel_rfl), (c 58).trans (by kernel_rfl), (c 67).trans (by kernel_rfl), (c 76).trans (by kernel_rfl), (c 88).trans (by kernel_rfl), (c 99).trans (by kernel_rfl)⟩,
    f 1, f 12, f 23, f 34, f 45, f 58, f 67, f 76, f 88, f 99⟩

/-- .. and behind the stores -/
theorem recWrong_stored {w : World} {g : Nat} (far : Int) (h : rowIs w g wrongA) :
    rowIs ((((((((((w.setCell ⟨g, 1, none⟩ (.int .i64 0)).setCell ⟨g, 12, none⟩ (.int .i64 33)).setCell ⟨g, 23, none⟩ (.int .i64 (1073741825 + far))).setCell ⟨g, 34, none⟩ (.int .i64 1)).setCell ⟨g, 45, none⟩ (.int .i64 1048576)).setCell ⟨g, 58, none⟩ (.int .i64 3)).setCell ⟨g, 67, none⟩ (.bool false)).setCell ⟨g, 76, none⟩ (.bool false)).setCell ⟨g, 88, none⟩ (.int .i64 0)).setCell ⟨g, 99, none⟩ (.int .i64 4)) g (wrongB far) := by
  unfold rowIs at *
  have e : ((((((((((wrongA.setIfInBounds 1 (.int .i64 0)).setIfInBounds 12 (.int .i64 33)).setIfInBounds 23 (.int .i64 (1073741825 + far))).setIfInBounds 34 (.int .i64 1)).setIfInBounds 45 (.int .i64 1048576)).setIfInBounds 58 (.int .i64 3)).setIfInBounds 67 (.bool false)).setIfInBounds 76 (.bool false)).setIfInBounds 88 (.int .i64 0)).setIfInBounds 99 (.int .i64 4)) = wrongB far := by kernel_rfl
  rw [row_set 99 _ (row_set 88 _ (row_set 76 _ (row_set 67 _ (row_set 58 _ (row_set 45 _ (row_set 34 _ (row_set 23 _ (row_set 12 _ (row_set 1 _ h)))))))))]
  rw [e]

/-- a record's cells -/
def recCells (r : RecD) : List Value := [.int .i64 r.kind, .int .i64 r.txn, .int .i64 r.page, .int .i64 r.prev, .int .i64 r.next, .int .i64 r.key, .bool r.had, .bool r.has, .int .i64 r.old, .int .i64 r.new]
theorem flat10 : ∀ (L : List RecD) (n i : Nat) (r : RecD), L[n]? = some r → i < 10 → (L.flatMap recCells)[n * 10 + i]? = (recCells r)[i]?
  | [], n, i, r, h, _ => by simp at h
  | x :: L, 0, i, r, h, hi => by
    simp only [List.getElem?_cons_zero, Option.some.injEq] at h
    subst h
    rw [List.flatMap_cons, List.getElem?_append_left (by simp [recCells]; omega)]
    simp
  | x :: L, n + 1, i, r, h, hi => by
    rw [List.flatMap_cons, List.getElem?_append_right (by simp [recCells]; omega), ← flat10 L n i r (by simpa using h) hi]
    congr 1
    simp [recCells]
    omega
theorem wrongB_flat (far : Int) : wrongB far = ((wrongR far).flatMap recCells).toArray := by kernel_rfl
theorem wrongR_length (far : Int) : (wrongR far).length = 20 := by kernel_rfl

/-- the record at one place -/
theorem recWrong_at (far : Int) (n : Nat) (hn : n < 20) (w : World) (g : Nat) (h : rowIs w g (wrongB far)) :
    ∃ r, (wrongR far)[n]? = some r ∧ w.cell? ⟨g, n * 10, none⟩ = some (.int .i64 r.kind) ∧ w.cell? ⟨g, n * 10 + 1, none⟩ = some (.int .i64 r.txn) ∧ w.cell? ⟨g, n * 10 + 2, none⟩ = some (.int .i64 r.page) ∧ w.cell? ⟨g, n * 10 + 3, none⟩ = some (.int .i64 r.prev) ∧ w.cell? ⟨g, n * 10 + 4, none⟩ = some (.int .i64 r.next) ∧
      w.cell? ⟨g, n * 10 + 5, none⟩ = some (.int .i64 r.key) ∧ w.cell? ⟨g, n * 10 + 6, none⟩ = some (.bool r.had) ∧ w.cell? ⟨g, n * 10 + 7, none⟩ = some (.bool r.has) ∧ w.cell? ⟨g, n * 10 + 8, none⟩ = some (.int .i64 r.old) ∧ w.cell? ⟨g, n * 10 + 9, none⟩ = some (.int .i64 r.new) := by
  have hl := wrongR_length far
  obtain ⟨r, hr⟩ : ∃ r, (wrongR far)[n]? = some r := ⟨_, List.getElem?_eq_getElem (by omega)⟩
  rw [wrongB_flat] at h
  generalize wrongR far = L at *
  have hc : ∀ i, i < 10 → w.cell? ⟨g, n * 10 + i, none⟩ = (recCells r)[i]? := fun i hi => by
    rw [cell_of_row w g _ _ _ _ h]
    simpa using flat10 L n i r hr hi
  exact ⟨r, hr, hc 0 (by decide), hc 1 (by decide), hc 2 (by decide), hc 3 (by decide), hc 4 (by decide), hc 5 (by decide), hc 6 (by decide), hc 7 (by decide), hc 8 (by decide), hc 9 (by decide)⟩

/-- none of them may be -/
theorem recWrong_bad (far : Int) (h0 : 0 ≤ far) (n : Nat) (r : RecD) (h : (wrongR far)[n]? = some r) : okR r = false := by
  have hm : r ∈ wrongR far := List.mem_of_getElem? h
  unfold wrongR at hm
  simp only [List.mem_cons, List.not_mem_nil, or_false] at hm
  rcases hm with rfl | rfl | rfl | rfl | rfl | rfl | rfl | rfl | rfl | rfl | rfl | rfl | rfl | rfl | rfl | rfl | rfl | rfl | rfl | rfl
  · decide
  · decide
  · simp [okR, prevB, inB]
    omega
  all_goals decide
end Go.Proofs.YtabpmpaeakebmaaDoor
