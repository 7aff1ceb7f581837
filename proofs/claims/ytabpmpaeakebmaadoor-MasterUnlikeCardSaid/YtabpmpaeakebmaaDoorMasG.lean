/- Contracts: the document's from, GoodMaster. -/
import Derived.Test.YtabpmpaeakebmaaDoorMasC
namespace Go.Proofs.YtabpmpaeakebmaaDoor
open Go.RowKit
set_option linter.unusedVariables false

theorem fromRef (n lo hi : Int) (w : World) : Calls Tryd.prog 37 #[.int .i64 n, .int .i64 lo, .int .i64 hi] w fun e w' => e = .returned (.bool (inM n lo hi)) ∧ w = w' := by
  unfold inM
  by_cases h : lo ≤ n
  · have d : decide (lo ≤ n) = true := by simpa using h
    go_enter Tryd.func37, Tryd.ntmps37
    go_wp2_with fail
    go_ret
    exact ⟨by simp [h], rfl⟩
  · have d : decide (lo ≤ n) = false := by simpa using h
    go_enter Tryd.func37, Tryd.ntmps37
    go_wp2_with fail
    go_ret
    exact ⟨by simp [h], rfl⟩

/-- whether a master may be, as the document says it -/
theorem goodMaster (m : MasD) (w : World) :
    Calls Tryd.prog 14 #[masV m] w fun e w' => e = .returned (.bool (okM m)) ∧ Below w.heap.size w w' := by
  obtain ⟨epoch, base, reset, ckpt, pages, blocks, frames⟩ := m
  have hb : ∀ o, Below w.heap.size w (w.alloc o) := fun o => (Below.refl _ _).alloc (Nat.le_refl _) o
  have HI := Lib.hid fromRef
  have HB := Lib.hid hb
  clear hb
  have hok : okM ⟨epoch, base, reset, ckpt, pages, blocks, frames⟩ = (inM epoch 1 1073741824 && (inM base 0 1073741824 && (inM reset 1 epoch && ((ckpt == 0 || inM ckpt (base + 1) 1073741824) && (inM pages 1 32 && (inM blocks 1 64 && inM frames 1 8)))))) := rfl
  rw [hok]
  unfold masV
  dsimp only
  by_cases hba : inM base 0 1073741824 = true
  · have hbb : 0 ≤ base ∧ base ≤ 1073741824 := by unfold inM at hba; simpa using hba
    go_enter Tryd.func14, Tryd.ntmps14
    go_wp2_with (first | (go_at_call 37; refine (HI.out _ _ _ _).mono ?_; rintro e w1 ⟨rfl, rfl⟩))
    all_goals go_ret
    all_goals refine ⟨?_, HB.out _⟩
    all_goals simp only [Bool.not_eq_true', Bool.not_eq_false'] at *
    all_goals simp [*]
  · have hba2 : inM base 0 1073741824 = false := by simpa using hba
    clear hba
    go_enter Tryd.func14, Tryd.ntmps14
    go_wp2_with (first | (go_at_call 37; refine (HI.out _ _ _ _).mono ?_; rintro e w1 ⟨rfl, rfl⟩))
    all_goals go_ret
    all_goals refine ⟨?_, HB.out _⟩
    all_goals simp only [Bool.not_eq_true', Bool.not_eq_false'] at *
    all_goals simp [*]
end Go.Proofs.YtabpmpaeakebmaaDoor
