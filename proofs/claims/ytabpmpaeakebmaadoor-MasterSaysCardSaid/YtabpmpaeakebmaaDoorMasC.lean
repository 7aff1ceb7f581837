/- Contracts: master.Check and what it asks. -/
import Derived.Test.YtabpmpaeakebmaaDoorProg
import Derived.Test.YtabpmpaeakebmaaDoorMasP
namespace Go.Proofs.YtabpmpaeakebmaaDoor
open Go.RowKit
set_option linter.unusedVariables false

/-- a block of seven cells that the caller laid, behind a call that leaves old memory alone -/
theorem after7 {w w1 : World} {T : TypeId} {c0 c1 c2 c3 c4 c5 c6 : Value} (h : Below (w.alloc (.cells #[c0, c1, c2, c3, c4, c5, c6] T)).heap.size (w.alloc (.cells #[c0, c1, c2, c3, c4, c5, c6] T)) w1) :
    w1.cell? ⟨w.heap.size, 0, none⟩ = some c0 ∧ w1.cell? ⟨w.heap.size, 1, none⟩ = some c1 ∧ w1.cell? ⟨w.heap.size, 2, none⟩ = some c2 ∧ w1.cell? ⟨w.heap.size, 3, none⟩ = some c3 ∧ w1.cell? ⟨w.heap.size, 4, none⟩ = some c4 ∧ w1.cell? ⟨w.heap.size, 5, none⟩ = some c5 ∧ w1.cell? ⟨w.heap.size, 6, none⟩ = some c6 ∧ w.heap.size < w1.heap.size := by
  have hs := h.size
  simp at hs
  refine ⟨?_, ?_, ?_, ?_, ?_, ?_, ?_, by omega⟩
  all_goals
    rw [h.cell (by simp)]; simp [go_sem]

theorem masIn (n lo hi : Int) (w : World) : Calls Tryd.prog 42 #[.int .i64 n, .int .i64 lo, .int .i64 hi] w fun e w' => e = .returned (.bool (inM n lo hi)) ∧ w = w' := by
  unfold inM
  by_cases h : lo ≤ n
  · have d : decide (lo ≤ n) = true := by simpa using h
    go_enter Tryd.func42, Tryd.ntmps42
    go_wp2_with fail
    go_ret
    exact ⟨by simp [h], rfl⟩
  · have d : decide (lo ≤ n) = false := by simpa using h
    go_enter Tryd.func42, Tryd.ntmps42
    go_wp2_with fail
    go_ret
    exact ⟨by simp [h], rfl⟩

/-- nil, or an error -/
def errM (b : Bool) (e : Value) : Value := if b then .nilIface else e

/-- what is amiss with a master -/
theorem masCheck (m : MasD) (w : World) (eR : Value) (hE : w.cell? ⟨0, 0, none⟩ = some eR) :
    Calls Tryd.prog 17 #[masV m] w fun e w' => e = .returned (errM (okM m) eR) ∧ Below w.heap.size w w' := by
  obtain ⟨epoch, base, reset, ckpt, pages, blocks, frames⟩ := m
  have hb : ∀ o, Below w.heap.size w (w.alloc o) := fun o => (Below.refl _ _).alloc (Nat.le_refl _) o
  have hlt := Below.lt hE
  have HI := Lib.hid masIn
  have HB := Lib.hid hb
  clear hb
  have hok : okM ⟨epoch, base, reset, ckpt, pages, blocks, frames⟩ = (inM epoch 1 1073741824 && (inM base 0 1073741824 && (inM reset 1 epoch && ((ckpt == 0 || inM ckpt (base + 1) 1073741824) && (inM pages 1 32 && (inM blocks 1 64 && inM frames 1 8)))))) := rfl
  rw [hok]
  unfold masV
  dsimp only
  by_cases hba : inM base 0 1073741824 = true
  · have hbb : 0 ≤ base ∧ base ≤ 1073741824 := by unfold inM at hba; simpa using hba
    go_enter Tryd.func17, Tryd.ntmps17
    go_wp2_with (first | (go_at_call 42; refine (HI.out _ _ _ _).mono ?_; rintro e w1 ⟨rfl, rfl⟩))
    all_goals go_ret
    all_goals refine ⟨?_, HB.out _⟩
    all_goals simp only [Bool.not_eq_true', Bool.not_eq_false'] at *
    all_goals simp [errM, *]
  · have hba2 : inM base 0 1073741824 = false := by simpa using hba
    clear hba
    go_enter Tryd.func17, Tryd.ntmps17
    go_wp2_with (first | (go_at_call 42; refine (HI.out _ _ _ _).mono ?_; rintro e w1 ⟨rfl, rfl⟩))
    all_goals go_ret
    all_goals refine ⟨?_, HB.out _⟩
    all_goals simp only [Bool.not_eq_true', Bool.not_eq_false'] at *
    all_goals simp [errM, *]
end Go.Proofs.YtabpmpaeakebmaaDoor
