/- A model beside one array. -/
import Derived.Test.YtpgelebmhhcodaaMdQ
namespace Go.Proofs.Ytpgelebmhhcodaa
open Go.RowKit
set_option linter.unusedVariables false

theorem Mo.weak {Kp Kq : Nat → Prop} {w : World} {X nl n no : Nat} {many : Int} {l : FM} {op : Int → Option Ses} (h : Mo Kp w w X nl n no many l op) (hk : ∀ b, Kq b → Kp b) : Mo Kq w w X nl n no many l op := by
  obtain ⟨h1, bl, bo, fo, ρ, h2, h3⟩ := h
  exact ⟨Fz.refl fun b hb => (h1.keep b (hk b hb)).1, bl, bo, fo, ρ, h2, fun b hf hb => h3 b hf (hk b hb)⟩
def KT (w0 : World) (A : Nat) : Nat → Prop := fun b => b < w0.heap.size ∨ b = A
structure T1 (w0 w : World) (A : Nat) (TA : TypeId) (m : Nat) (f : Nat → Value) (X nl n no : Nat) (many : Int) (l : FM) (op : Int → Option Ses) : Prop where
  mo : Mo (KT w0 A) w w X nl n no many l op
  bel : Below w0.heap.size w0 w
  ha : w.heap[A]? = some (.cells (rowF m f) TA (0, 0))
  la : w0.heap.size ≤ A
section
variable {w0 w : World} {A : Nat} {TA : TypeId} {m : Nat} {f : Nat → Value} {X nl n no : Nat} {many : Int} {l : FM} {op : Int → Option Ses}
theorem T1.turn {w' : World} {nl' n' no' : Nat} {l' : FM} {op' : Int → Option Ses} (h : T1 w0 w A TA m f X nl n no many l op) (hm : Mo (KT w0 A) w w' X nl' n' no' many l' op') : T1 w0 w' A TA m f X nl' n' no' many l' op' := by
  have hf := hm.1
  obtain ⟨h1, bl, bo, fo, ρ, h2, h3⟩ := hm
  have hs := h.bel.size
  have ka := hf.keep A (.inr rfl)
  refine ⟨⟨Fz.refl fun b hk => ?_, bl, bo, fo, ρ, h2, h3⟩, ⟨hf.os.trans h.bel.os, hf.tape.trans h.bel.tape, hf.output.trans h.bel.output, Nat.le_trans hs hf.size, fun b hb => (hf.keep b (.inl hb)).2.trans (h.bel.block b hb)⟩, ka.2.trans h.ha, h.la⟩
  exact Nat.lt_of_lt_of_le (hf.keep b hk).1 hf.size
theorem T1.below {w' : World} (h : T1 w0 w A TA m f X nl n no many l op) (hb : Below w.heap.size w w') : T1 w0 w' A TA m f X nl n no many l op := h.turn (h.mo.below hb)
theorem T1.cell (h : T1 w0 w A TA m f X nl n no many l op) {k : Nat} (hk : k < m) : w.cell? ⟨A, k, none⟩ = some (f k) ∧ w.frozen? ⟨A, k, none⟩ = false :=
  ⟨by rw [cell_of_row w A _ _ _ (0, 0) h.ha]; exact rowF_get f hk, rowFrozen h.ha k⟩
theorem T1.set (h : T1 w0 w A TA m f X nl n no many l op) (k : Nat) (v : Value) : T1 w0 (w.setCell ⟨A, k, none⟩ v) A TA m (updN f k v) X nl n no many l op :=
  ⟨h.mo.poke (.inr rfl) k v, h.bel.setCell h.la v, by rw [setCell_rowL h.ha, rowF_set], h.la⟩
theorem T1.mo0 (h : T1 w0 w A TA m f X nl n no many l op) : Mo (fun b => b < w0.heap.size) w0 w X nl n no many l op := by
  obtain ⟨h1, bl, bo, fo, ρ, h2, h3⟩ := h.mo
  exact ⟨Fz.of_below h.bel, bl, bo, fo, ρ, h2, fun b hf hb => h3 b hf (.inl hb)⟩
theorem T1.new (hm : Mo (fun b => b < w0.heap.size) w0 w X nl n no many l op) (TA : TypeId) (m : Nat) (f : Nat → Value) : T1 w0 (w.alloc (.cells (rowF m f) TA)) w.heap.size TA m f X nl n no many l op := by
  have hs1 : (w.alloc (.cells (rowF m f) TA)).heap.size = w.heap.size + 1 := by simp
  have hb : Below w.heap.size w (w.alloc (.cells (rowF m f) TA)) := (Below.refl _ _).alloc (Nat.le_refl _) _
  have h5 := hm.1.to_below.size
  obtain ⟨q1, bl, bo, fo, ρ, q2, q3⟩ := hm.beside hb
  refine ⟨⟨Fz.refl fun b hk => ?_, bl, bo, fo, ρ, q2, fun b hf hk => q3 b hf ?_⟩, (hm.below hb).1.to_below, heap_alloc_new w _, h5⟩
  · rcases hk with e | e <;> omega
  · rcases hk with e | e
    · exact .inl e
    · right; omega
end
/-- the keys that have come, by eights -/
def kk (ls : List Int) (j : Nat) : List Int := (ls.take j).map (· % 8)
theorem kk_succ {ls : List Int} {j : Nat} {x : Int} (h : ls[j]? = some x) : kk ls (j + 1) = kk ls j ++ [x % 8] := by
  unfold kk
  rw [List.take_add_one, h]
  simp
/-- what a session has put -/
def putF (v : Int) (ks : List Int) : FM := fun k => if k ∈ ks then some (wrap64 (v + k), true) else none
theorem putF_nil (v : Int) : putF v [] = fun _ => none := by funext k; simp [putF]
theorem putF_snoc (v : Int) (ks : List Int) (k : Int) : updM (putF v ks) k (some (wrap64 (v + k), true)) = putF v (ks ++ [k]) := by
  funext j
  unfold updM putF
  by_cases e : j = k
  · subst e; simp
  · simp [e]
theorem putF_commit (v : Int) (ks : List Int) : pruneM (mergeM (fun _ => none) (putF v ks)) = putF v ks := by
  funext k
  unfold pruneM mergeM putF
  by_cases e : k ∈ ks <;> simp [e]
def hasF (ks : List Int) : Nat → Value := fun k => .bool (decide ((k : Int) ∈ ks))
theorem hasF_snoc (ks : List Int) (k : Nat) : updN (hasF ks) k (.bool true) = hasF (ks ++ [(k : Int)]) := by
  funext j
  unfold updN hasF
  by_cases e : j = k
  · subst e; simp
  · have e2 : ¬ (j : Int) = (k : Int) := by omega
    simp [e, e2]
end Go.Proofs.Ytpgelebmhhcodaa
