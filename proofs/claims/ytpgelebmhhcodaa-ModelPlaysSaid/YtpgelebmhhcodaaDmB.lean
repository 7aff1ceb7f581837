/- The document's model in memory. -/
import Derived.Test.YtpgelebmhhcodaaDmA
namespace Go.Proofs.Ytpgelebmhhcodaa
open Go.RowKit
set_option linter.unusedVariables false

abbrev Pc := Int × Bool × Int
def upN {α : Type} (f : Nat → α) (k : Nat) (v : α) : Nat → α := fun j => if j = k then v else f j
theorem upN_same {α : Type} (f : Nat → α) (k : Nat) (v : α) : upN f k v k = v := if_pos rfl
theorem upN_other {α : Type} (f : Nat → α) {k j : Nat} (v : α) (h : j ≠ k) : upN f k v j = f j := if_neg h
theorem upN_self {α : Type} (f : Nat → α) (k : Nat) : upN f k (f k) = f := by
  funext j; unfold upN; split
  · rename_i e; rw [e]
  · rfl
def OneOf (P A B C b : Nat) : Prop := b = P ∨ b = A ∨ b = B ∨ b = C
structure Dm (w : World) (P A B C N : Nat) (vL : Value) (vm vs : Nat → Value) (K : Nat → Prop) (L : List (Int × Int)) (on : Nat → Bool) (mine : Nat → List Pc) (saves : Nat → List Int) : Prop where
  head : w.heap[P]? = some (.cells #[vL, .slice (some ⟨A, 0, none⟩) N N, .slice (some ⟨B, 0, none⟩) N N, .slice (some ⟨C, 0, none⟩) N N] 86 (0, 0))
  hA : w.heap[A]? = some (.cells (rowF N fun i => .bool (on i)) 4 (0, 0))
  hB : w.heap[B]? = some (.cells (rowF N vm) 127 (0, 0))
  hC : w.heap[C]? = some (.cells (rowF N vs) 34 (0, 0))
  own : En 0 w vL L
  ms : ∀ i, i < N → Pt 0 w (vm i) (mine i)
  ss : ∀ i, i < N → Oi 0 w (vs i) (saves i)
  k4 : ∀ b, OneOf P A B C b → K b
  kL : ∀ b, vL.ownBlock = some b → K b ∧ ¬ OneOf P A B C b
  km : ∀ i, i < N → ∀ b, (vm i).ownBlock = some b → K b ∧ ¬ OneOf P A B C b
  ks : ∀ i, i < N → ∀ b, (vs i).ownBlock = some b → K b ∧ ¬ OneOf P A B C b
  ne : P ≠ A ∧ P ≠ B ∧ P ≠ C ∧ A ≠ B ∧ A ≠ C ∧ B ≠ C
  low : ∀ b, K b → b < w.heap.size
section
variable {w : World} {P A B C N : Nat} {vL : Value} {vm vs : Nat → Value} {K : Nat → Prop} {L : List (Int × Int)} {on : Nat → Bool} {mine : Nat → List Pc} {saves : Nat → List Int}
theorem Dm.same {w' : World} (h : Dm w P A B C N vL vm vs K L on mine saves) (hb : ∀ b, K b → w'.heap[b]? = w.heap[b]?) (hs : w.heap.size ≤ w'.heap.size) : Dm w' P A B C N vL vm vs K L on mine saves where
  head := (hb P (h.k4 P (.inl rfl))).trans h.head
  hA := (hb A (h.k4 A (.inr (.inl rfl)))).trans h.hA
  hB := (hb B (h.k4 B (.inr (.inr (.inl rfl))))).trans h.hB
  hC := (hb C (h.k4 C (.inr (.inr (.inr rfl))))).trans h.hC
  own := h.own.same fun b e => hb b (h.kL b e).1
  ms := fun i hi => (h.ms i hi).same fun b e => hb b (h.km i hi b e).1
  ss := fun i hi => (h.ss i hi).same fun b e => hb b (h.ks i hi b e).1
  k4 := h.k4
  kL := h.kL
  km := h.km
  ks := h.ks
  ne := h.ne
  low := fun b hk => Nat.lt_of_lt_of_le (h.low b hk) hs
theorem Dm.below {w' : World} (h : Dm w P A B C N vL vm vs K L on mine saves) (hb : Below w.heap.size w w') : Dm w' P A B C N vL vm vs K L on mine saves := h.same (fun b hk => hb.block b (h.low b hk)) hb.size
/-- what is new is its own -/
def nwK (K : Nat → Prop) (w w' : World) : Nat → Prop := fun b => K b ∨ (w.heap.size ≤ b ∧ b < w'.heap.size)
theorem Dm.grow {w' : World} (h : Dm w P A B C N vL vm vs K L on mine saves) (hb : Below w.heap.size w w') : Dm w' P A B C N vL vm vs (nwK K w w') L on mine saves :=
  { h.below hb with
    k4 := fun b e => .inl (h.k4 b e)
    kL := fun b e => ⟨.inl (h.kL b e).1, (h.kL b e).2⟩
    km := fun i hi b e => ⟨.inl (h.km i hi b e).1, (h.km i hi b e).2⟩
    ks := fun i hi b e => ⟨.inl (h.ks i hi b e).1, (h.ks i hi b e).2⟩
    low := fun b e => by
      rcases e with e | e
      · exact Nat.lt_of_lt_of_le (h.low b e) hb.size
      · exact e.2 }
theorem nwK_ext {w' : World} (h : ∀ b, K b → b < w.heap.size) (hb : Below w.heap.size w w') : Ext K w (nwK K w w') w' := ⟨hb.os, hb.tape, hb.output, hb.size, fun b hl _ => hb.block b hl, fun b hf => by
  rcases hf with e | e
  · exact .inl e
  · exact .inr e.1⟩
theorem Dm.fresh {w' : World} (h : Dm w P A B C N vL vm vs K L on mine saves) {b : Nat} (h1 : w.heap.size ≤ b) (h2 : b < w'.heap.size) : nwK K w w' b ∧ ¬ OneOf P A B C b := by
  refine ⟨.inr ⟨h1, h2⟩, fun e => ?_⟩
  have := h.low b (h.k4 b e)
  omega
theorem Dm.cellP (h : Dm w P A B C N vL vm vs K L on mine saves) : w.cell? ⟨P, 0, none⟩ = some vL ∧ w.cell? ⟨P, 1, none⟩ = some (.slice (some ⟨A, 0, none⟩) N N) ∧ w.cell? ⟨P, 2, none⟩ = some (.slice (some ⟨B, 0, none⟩) N N) ∧ w.cell? ⟨P, 3, none⟩ = some (.slice (some ⟨C, 0, none⟩) N N) ∧ w.frozen? ⟨P, 0, none⟩ = false := by
  refine ⟨?_, ?_, ?_, ?_, rowFrozen h.head 0⟩ <;> rw [cell_of_row w P _ _ _ (0, 0) h.head] <;> rfl
theorem Dm.cellA (h : Dm w P A B C N vL vm vs K L on mine saves) {i : Nat} (hi : i < N) : w.cell? ⟨A, i, none⟩ = some (.bool (on i)) ∧ w.frozen? ⟨A, i, none⟩ = false :=
  ⟨by rw [cell_of_row w A _ _ _ (0, 0) h.hA]; exact rowF_get _ hi, rowFrozen h.hA i⟩
theorem Dm.cellB (h : Dm w P A B C N vL vm vs K L on mine saves) {i : Nat} (hi : i < N) : w.cell? ⟨B, i, none⟩ = some (vm i) ∧ w.frozen? ⟨B, i, none⟩ = false :=
  ⟨by rw [cell_of_row w B _ _ _ (0, 0) h.hB]; exact rowF_get _ hi, rowFrozen h.hB i⟩
theorem Dm.cellC (h : Dm w P A B C N vL vm vs K L on mine saves) {i : Nat} (hi : i < N) : w.cell? ⟨C, i, none⟩ = some (vs i) ∧ w.frozen? ⟨C, i, none⟩ = false :=
  ⟨by rw [cell_of_row w C _ _ _ (0, 0) h.hC]; exact rowF_get _ hi, rowFrozen h.hC i⟩
theorem setCell_size (w : World) (a : Addr) (v : Value) : (w.setCell a v).heap.size = w.heap.size := by
  show (w.heap.modify a.block _).size = _; simp
theorem ext_set {K : Nat → Prop} {w : World} {g : Nat} (hg : K g) (i : Nat) (v : Value) : Ext K w K (w.setCell ⟨g, i, none⟩ v) :=
  ⟨rfl, rfl, rfl, by rw [setCell_size]; exact Nat.le_refl _, fun b _ hn => setCell_otherL w _ _ (fun e => hn (by have : b = g := e; rw [this]; exact hg)), fun b hf => .inl hf⟩
theorem rowF_on (N : Nat) (on : Nat → Bool) (i : Nat) (b : Bool) : (rowF N fun i => Value.bool (on i)).setIfInBounds i (.bool b) = rowF N fun j => .bool (upN on i b j) := by
  rw [rowF_set]
  congr 1
  funext j
  unfold updN upN
  split <;> rfl
theorem rowF_up (N : Nat) (f : Nat → Value) (i : Nat) (v : Value) : (rowF N f).setIfInBounds i v = rowF N (upN f i v) := rowF_set N f i v
theorem Dm.setA (h : Dm w P A B C N vL vm vs K L on mine saves) (i : Nat) (b : Bool) : Dm (w.setCell ⟨A, i, none⟩ (.bool b)) P A B C N vL vm vs K L (upN on i b) mine saves := by
  have ho : ∀ c, c ≠ A → (w.setCell ⟨A, i, none⟩ (.bool b)).heap[c]? = w.heap[c]? := fun c hc => setCell_otherL w _ _ hc
  obtain ⟨n1, n2, n3, n4, n5, n6⟩ := h.ne
  exact ⟨(ho P n1).trans h.head, by rw [setCell_rowL h.hA, rowF_on], (ho B n4.symm).trans h.hB, (ho C n5.symm).trans h.hC, h.own.same fun c e => ho c fun e2 => (h.kL c e).2 (e2 ▸ .inr (.inl rfl)), fun j hj => (h.ms j hj).same fun c e => ho c fun e2 => (h.km j hj c e).2 (e2 ▸ .inr (.inl rfl)), fun j hj => (h.ss j hj).same fun c e => ho c fun e2 => (h.ks j hj c e).2 (e2 ▸ .inr (.inl rfl)), h.k4, h.kL, h.km, h.ks, h.ne, fun c e => by rw [setCell_size]; exact h.low c e⟩
theorem Dm.setB (h : Dm w P A B C N vL vm vs K L on mine saves) (i : Nat) {v : Value} {M : List Pc} (hv : Pt 0 w v M) (hk : ∀ b, v.ownBlock = some b → K b ∧ ¬ OneOf P A B C b) : Dm (w.setCell ⟨B, i, none⟩ v) P A B C N vL (upN vm i v) vs K L on (upN mine i M) saves := by
  have ho : ∀ c, c ≠ B → (w.setCell ⟨B, i, none⟩ v).heap[c]? = w.heap[c]? := fun c hc => setCell_otherL w _ _ hc
  obtain ⟨n1, n2, n3, n4, n5, n6⟩ := h.ne
  refine ⟨(ho P n2).trans h.head, (ho A n4).trans h.hA, by rw [setCell_rowL h.hB, rowF_up], (ho C n6.symm).trans h.hC, h.own.same fun c e => ho c fun e2 => (h.kL c e).2 (e2 ▸ .inr (.inr (.inl rfl))), fun j hj => ?_, fun j hj => (h.ss j hj).same fun c e => ho c fun e2 => (h.ks j hj c e).2 (e2 ▸ .inr (.inr (.inl rfl))), h.k4, h.kL, fun j hj => ?_, h.ks, h.ne, fun c e => by rw [setCell_size]; exact h.low c e⟩
  · by_cases e : j = i
    · rw [e, upN_same, upN_same]
      exact hv.same fun c e => ho c fun e2 => (hk c e).2 (e2 ▸ .inr (.inr (.inl rfl)))
    · rw [upN_other _ _ e, upN_other _ _ e]
      exact (h.ms j hj).same fun c e => ho c fun e2 => (h.km j hj c e).2 (e2 ▸ .inr (.inr (.inl rfl)))
  · by_cases e : j = i
    · rw [e, upN_same]; exact hk
    · rw [upN_other _ _ e]; exact h.km j hj
theorem Dm.setC (h : Dm w P A B C N vL vm vs K L on mine saves) (i : Nat) {v : Value} {M : List Int} (hv : Oi 0 w v M) (hk : ∀ b, v.ownBlock = some b → K b ∧ ¬ OneOf P A B C b) : Dm (w.setCell ⟨C, i, none⟩ v) P A B C N vL vm (upN vs i v) K L on mine (upN saves i M) := by
  have ho : ∀ c, c ≠ C → (w.setCell ⟨C, i, none⟩ v).heap[c]? = w.heap[c]? := fun c hc => setCell_otherL w _ _ hc
  obtain ⟨n1, n2, n3, n4, n5, n6⟩ := h.ne
  refine ⟨(ho P n3).trans h.head, (ho A n5).trans h.hA, (ho B n6).trans h.hB, by rw [setCell_rowL h.hC, rowF_up], h.own.same fun c e => ho c fun e2 => (h.kL c e).2 (e2 ▸ .inr (.inr (.inr rfl))), fun j hj => (h.ms j hj).same fun c e => ho c fun e2 => (h.km j hj c e).2 (e2 ▸ .inr (.inr (.inr rfl))), fun j hj => ?_, h.k4, h.kL, h.km, fun j hj => ?_, h.ne, fun c e => by rw [setCell_size]; exact h.low c e⟩
  · by_cases e : j = i
    · rw [e, upN_same, upN_same]
      exact hv.same fun c e => ho c fun e2 => (hk c e).2 (e2 ▸ .inr (.inr (.inr rfl)))
    · rw [upN_other _ _ e, upN_other _ _ e]
      exact (h.ss j hj).same fun c e => ho c fun e2 => (h.ks j hj c e).2 (e2 ▸ .inr (.inr (.inr rfl)))
  · by_cases e : j = i
    · rw [e, upN_same]; exact hk
    · rw [upN_other _ _ e]; exact h.ks j hj
theorem Dm.setL (h : Dm w P A B C N vL vm vs K L on mine saves) {v : Value} {M : List (Int × Int)} (hv : En 0 w v M) (hk : ∀ b, v.ownBlock = some b → K b ∧ ¬ OneOf P A B C b) : Dm (w.setCell ⟨P, 0, none⟩ v) P A B C N v vm vs K M on mine saves := by
  have ho : ∀ c, c ≠ P → (w.setCell ⟨P, 0, none⟩ v).heap[c]? = w.heap[c]? := fun c hc => setCell_otherL w _ _ hc
  obtain ⟨n1, n2, n3, n4, n5, n6⟩ := h.ne
  exact ⟨by rw [setCell_rowL h.head]; rfl, (ho A n1.symm).trans h.hA, (ho B n2.symm).trans h.hB, (ho C n3.symm).trans h.hC, hv.same fun c e => ho c fun e2 => (hk c e).2 (e2 ▸ .inl rfl), fun j hj => (h.ms j hj).same fun c e => ho c fun e2 => (h.km j hj c e).2 (e2 ▸ .inl rfl), fun j hj => (h.ss j hj).same fun c e => ho c fun e2 => (h.ks j hj c e).2 (e2 ▸ .inl rfl), h.k4, hk, h.km, h.ks, h.ne, fun c e => by rw [setCell_size]; exact h.low c e⟩
end
/-- .. its insides put away -/
def Dx (w : World) (P N : Nat) (K : Nat → Prop) (L : List (Int × Int)) (on : Nat → Bool) (mine : Nat → List Pc) (saves : Nat → List Int) : Prop := ∃ A B C vL vm vs, Dm w P A B C N vL vm vs K L on mine saves
theorem Dx.below {w w' : World} {P N : Nat} {K : Nat → Prop} {L : List (Int × Int)} {on : Nat → Bool} {mine : Nat → List Pc} {saves : Nat → List Int} (h : Dx w P N K L on mine saves) (hb : Below w.heap.size w w') : Dx w' P N K L on mine saves := by
  obtain ⟨A, B, C, vL, vm, vs, h⟩ := h
  exact ⟨A, B, C, vL, vm, vs, h.below hb⟩
end Go.Proofs.Ytpgelebmhhcodaa
