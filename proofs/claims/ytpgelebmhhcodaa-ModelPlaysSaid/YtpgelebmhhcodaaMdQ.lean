/- A model beside two arrays; entries found by their keys. -/
import Derived.Test.YtpgelebmhhcodaaMdL
namespace Go.Proofs.Ytpgelebmhhcodaa
open Go.RowKit
set_option linter.unusedVariables false

def rowF (m : Nat) (f : Nat → Value) : Array Value := ((List.range m).map f).toArray
def updN (f : Nat → Value) (k : Nat) (v : Value) : Nat → Value := fun j => if j = k then v else f j
theorem updN_same (f : Nat → Value) (k : Nat) (v : Value) : updN f k v k = v := if_pos rfl
theorem updN_other (f : Nat → Value) {k j : Nat} (v : Value) (h : j ≠ k) : updN f k v j = f j := if_neg h
theorem rowF_set (m : Nat) (f : Nat → Value) (k : Nat) (v : Value) : (rowF m f).setIfInBounds k v = rowF m (updN f k v) := by
  unfold rowF updN
  refine Array.ext_getElem? fun i => ?_
  rw [Array.getElem?_setIfInBounds]
  simp only [List.getElem?_toArray, List.getElem?_map, List.size_toArray, List.length_map, List.length_range]
  by_cases hi : i < m
  · rw [List.getElem?_range hi]
    by_cases e : k = i
    · subst e; simp [hi]
    · have e2 : ¬ i = k := fun h => e h.symm
      simp [e, e2]
  · rw [List.getElem?_eq_none (by simp; omega)]
    by_cases e : k = i
    · subst e; simp [hi]
    · simp [e]
theorem rowF_get {m : Nat} (f : Nat → Value) {k : Nat} (h : k < m) : (rowF m f)[k]? = some (f k) := by
  unfold rowF
  simp [h]
theorem rowF_two {m : Nat} {f g : Nat → Value} (h : ∀ k, k < m → f k = g k) : rowF m f = rowF m g := by
  unfold rowF
  congr 1
  refine List.map_congr_left fun k hk => h k (List.mem_range.1 hk)
/-- what is kept while the model works: what is old, the two arrays -/
def KQ (w0 : World) (A B : Nat) : Nat → Prop := fun b => b < w0.heap.size ∨ b = A ∨ b = B
structure TQ (w0 w : World) (A B : Nat) (TA TB : TypeId) (m : Nat) (f g : Nat → Value) (X nl n no : Nat) (many : Int) (l : FM) (op : Int → Option Ses) : Prop where
  mo : Mo (KQ w0 A B) w w X nl n no many l op
  bel : Below w0.heap.size w0 w
  ha : w.heap[A]? = some (.cells (rowF m f) TA (0, 0))
  hb : w.heap[B]? = some (.cells (rowF m g) TB (0, 0))
  ne : A ≠ B
  la : w0.heap.size ≤ A
  lb : w0.heap.size ≤ B
section
variable {w0 w : World} {A B : Nat} {TA TB : TypeId} {m : Nat} {f g : Nat → Value} {X nl n no : Nat} {many : Int} {l : FM} {op : Int → Option Ses}
theorem TQ.turn {w' : World} {nl' n' no' : Nat} {l' : FM} {op' : Int → Option Ses} (h : TQ w0 w A B TA TB m f g X nl n no many l op) (hm : Mo (KQ w0 A B) w w' X nl' n' no' many l' op') : TQ w0 w' A B TA TB m f g X nl' n' no' many l' op' := by
  have hf := hm.1
  obtain ⟨h1, bl, bo, fo, ρ, h2, h3⟩ := hm
  have hs := h.bel.size
  have ka := hf.keep A (.inr (.inl rfl))
  have kb := hf.keep B (.inr (.inr rfl))
  refine ⟨⟨Fz.refl fun b hk => ?_, bl, bo, fo, ρ, h2, h3⟩, ⟨hf.os.trans h.bel.os, hf.tape.trans h.bel.tape, hf.output.trans h.bel.output, Nat.le_trans hs hf.size, fun b hb => (hf.keep b (.inl hb)).2.trans (h.bel.block b hb)⟩, ka.2.trans h.ha, kb.2.trans h.hb, h.ne, h.la, h.lb⟩
  exact Nat.lt_of_lt_of_le (hf.keep b hk).1 hf.size
theorem TQ.below {w' : World} (h : TQ w0 w A B TA TB m f g X nl n no many l op) (hb : Below w.heap.size w w') : TQ w0 w' A B TA TB m f g X nl n no many l op := h.turn (h.mo.below hb)
theorem TQ.cellA (h : TQ w0 w A B TA TB m f g X nl n no many l op) {k : Nat} (hk : k < m) : w.cell? ⟨A, k, none⟩ = some (f k) ∧ w.frozen? ⟨A, k, none⟩ = false :=
  ⟨by rw [cell_of_row w A _ _ _ (0, 0) h.ha]; exact rowF_get f hk, rowFrozen h.ha k⟩
theorem TQ.cellB (h : TQ w0 w A B TA TB m f g X nl n no many l op) {k : Nat} (hk : k < m) : w.cell? ⟨B, k, none⟩ = some (g k) ∧ w.frozen? ⟨B, k, none⟩ = false :=
  ⟨by rw [cell_of_row w B _ _ _ (0, 0) h.hb]; exact rowF_get g hk, rowFrozen h.hb k⟩
theorem Mo.poke {Kp : Nat → Prop} (h : Mo Kp w w X nl n no many l op) {C : Nat} (hC : Kp C) (i : Nat) (v : Value) : Mo Kp (w.setCell ⟨C, i, none⟩ v) (w.setCell ⟨C, i, none⟩ v) X nl n no many l op := by
  obtain ⟨h1, bl, bo, fo, ρ, h2, h3⟩ := h
  have hs : (w.setCell ⟨C, i, none⟩ v).heap.size = w.heap.size := by show (w.heap.modify C _).size = _; simp
  exact ⟨Fz.refl fun b hb => by rw [hs]; exact (h1.keep b hb).1, bl, bo, fo, ρ, h2.same fun b hf => setCell_otherL w _ _ (fun e => h3 b hf (by rw [e]; exact hC)), h3⟩
theorem TQ.setA (h : TQ w0 w A B TA TB m f g X nl n no many l op) (k : Nat) (v : Value) : TQ w0 (w.setCell ⟨A, k, none⟩ v) A B TA TB m (updN f k v) g X nl n no many l op := by
  refine ⟨h.mo.poke (.inr (.inl rfl)) k v, ?_, by rw [setCell_rowL h.ha, rowF_set], (setCell_otherL w _ _ (Ne.symm h.ne)).trans h.hb, h.ne, h.la, h.lb⟩
  exact h.bel.setCell h.la v
theorem TQ.setB (h : TQ w0 w A B TA TB m f g X nl n no many l op) (k : Nat) (v : Value) : TQ w0 (w.setCell ⟨B, k, none⟩ v) A B TA TB m f (updN g k v) X nl n no many l op := by
  refine ⟨h.mo.poke (.inr (.inr rfl)) k v, ?_, (setCell_otherL w _ _ h.ne).trans h.ha, by rw [setCell_rowL h.hb, rowF_set], h.ne, h.la, h.lb⟩
  exact h.bel.setCell h.lb v
theorem TQ.new (hm : Mo (fun b => b < w0.heap.size) w0 w X nl n no many l op) (TA TB : TypeId) (m : Nat) (f g : Nat → Value) : TQ w0 ((w.alloc (.cells (rowF m f) TA)).alloc (.cells (rowF m g) TB)) w.heap.size (w.heap.size + 1) TA TB m f g X nl n no many l op := by
  have hs1 : (w.alloc (.cells (rowF m f) TA)).heap.size = w.heap.size + 1 := by simp
  have hs2 : ((w.alloc (.cells (rowF m f) TA)).alloc (.cells (rowF m g) TB)).heap.size = w.heap.size + 2 := by simp
  have hb : Below w.heap.size w ((w.alloc (.cells (rowF m f) TA)).alloc (.cells (rowF m g) TB)) := ((Below.refl _ _).alloc (Nat.le_refl _) _).alloc (by rw [hs1]; omega) _
  have h5 := hm.1.to_below.size
  have h2 := heap_alloc_new (w.alloc (.cells (rowF m f) TA)) (.cells (rowF m g) TB)
  rw [hs1] at h2
  have hbs := hm.beside hb
  have h1 : ((w.alloc (.cells (rowF m f) TA)).alloc (.cells (rowF m g) TB)).heap[w.heap.size]? = some (.cells (rowF m f) TA (0, 0)) := (Below.heap_alloc _ _ _ (by rw [hs1]; omega)).trans (heap_alloc_new w _)
  refine ⟨?_, (hm.below hb).1.to_below, h1, h2, by omega, h5, by omega⟩
  obtain ⟨q1, bl, bo, fo, ρ, q2, q3⟩ := hbs
  refine ⟨Fz.refl fun b hk => ?_, bl, bo, fo, ρ, q2, fun b hf hk => q3 b hf ?_⟩
  · rcases hk with e | e | e <;> omega
  · rcases hk with e | e | e
    · exact .inl e
    · right; omega
    · right; omega
end
/-- entries, by their keys -/
def cntE (T : List (Int × Int)) (k : Int) : Nat := T.countP fun p => decide (p.1 < k)
theorem cntE_at : ∀ {T : List (Int × Int)}, T.Pairwise (fun p q => p.1 < q.1) → ∀ {k v : Int}, (k, v) ∈ T → T[cntE T k]? = some (k, v)
  | [], _, k, v, h => by simp at h
  | p :: T, hT, k, v, h => by
    rw [List.pairwise_cons] at hT
    rcases List.mem_cons.1 h with e | e
    · subst e
      have h0 : cntE ((k, v) :: T) k = 0 := by
        unfold cntE
        rw [List.countP_cons_of_neg (by simp)]
        refine List.countP_eq_zero.2 fun q hq => ?_
        have := hT.1 q hq
        simp; omega
      rw [h0]; rfl
    · have hlt := hT.1 _ e
      have h1 : cntE (p :: T) k = cntE T k + 1 := by
        unfold cntE
        rw [List.countP_cons_of_pos (by simpa using hlt)]
      rw [h1, List.getElem?_cons_succ]
      exact cntE_at hT.2 e
theorem cntE_next : ∀ {T : List (Int × Int)}, T.Pairwise (fun p q => p.1 < q.1) → ∀ (k : Int), ((∃ v, (k, v) ∈ T) → cntE T (k + 1) = cntE T k + 1) ∧ ((∀ v, (k, v) ∉ T) → cntE T (k + 1) = cntE T k)
  | [], _, k => ⟨fun ⟨v, h⟩ => by simp at h, fun _ => rfl⟩
  | p :: T, hT, k => by
    rw [List.pairwise_cons] at hT
    obtain ⟨i1, i2⟩ := cntE_next hT.2 k
    have hcons : ∀ j, cntE (p :: T) j = cntE T j + (if p.1 < j then 1 else 0) := fun j => by
      unfold cntE
      rw [List.countP_cons]
      simp
    refine ⟨fun ⟨v, h⟩ => ?_, fun h => ?_⟩
    · rw [hcons, hcons]
      rcases List.mem_cons.1 h with e | e
      · subst e
        have : ∀ v, (k, v) ∉ T := fun v hv => by have := hT.1 _ hv; simp at this
        rw [i2 this, if_pos (by dsimp only; omega), if_neg (by dsimp only; omega)]
      · have := hT.1 _ e
        dsimp only at this
        rw [i1 ⟨v, e⟩, if_pos (by omega), if_pos this]
    · rw [hcons, hcons, i2 fun v hv => h v (List.mem_cons_of_mem _ hv)]
      have hp : p.1 ≠ k := fun e => h p.2 (by rw [← e]; simp)
      congr 1
      by_cases e : p.1 < k
      · rw [if_pos e, if_pos (by omega)]
      · rw [if_neg e, if_neg (by omega)]
theorem cntE_zero {T : List (Int × Int)} {k : Int} (h : ∀ p ∈ T, k ≤ p.1) : cntE T k = 0 := List.countP_eq_zero.2 fun q hq => by have := h q hq; simp; omega
theorem cntE_all {T : List (Int × Int)} {k : Int} (h : ∀ p ∈ T, p.1 < k) : cntE T k = T.length := List.countP_eq_length.2 fun q hq => by simpa using h q hq
end Go.Proofs.Ytpgelebmhhcodaa
