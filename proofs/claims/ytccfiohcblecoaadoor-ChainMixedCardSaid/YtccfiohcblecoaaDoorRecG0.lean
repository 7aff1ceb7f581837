/- Contract: the document's GoodRec. -/
import Derived.Test.YtccfiohcblecoaaDoorProg
import Derived.Test.YtccfiohcblecoaaDoorRecP
import Derived.Deep.Light
namespace Go.Proofs.YtccfiohcblecoaaDoor
open Go.RowKit
set_option linter.unusedVariables false
set_option linter.unusedSimpArgs false

theorem fromRefB (n lo hi : Int) (w : World) : Calls Tryd.prog 83 #[.int .i64 n, .int .i64 lo, .int .i64 hi] w fun e w' => e = .returned (.bool (inB n lo hi)) ∧ w = w' := by
  unfold inB
  by_cases h : lo ≤ n
  · have d : decide (lo ≤ n) = true := by simpa using h
    go_enter Tryd.func83, Tryd.ntmps83
    go_wp2_with fail
    go_ret
    exact ⟨by simp [h], rfl⟩
  · have d : decide (lo ≤ n) = false := by simpa using h
    go_enter Tryd.func83, Tryd.ntmps83
    go_wp2_with fail
    go_ret
    exact ⟨by simp [h], rfl⟩
theorem inB_zero (n : Int) : inB n 0 0 = (n == 0) := by
  unfold inB; by_cases h : n = 0
  · subst h; rfl
  · have : (n == 0) = false := by simpa using h
    rw [this]; simp; omega
theorem inB_t (n : Int) : inB n (min 60000 1) 60000 = inB n 1 60000 := rfl
theorem inB_p (n : Int) : inB n (min 32 1) 32 = inB n 1 32 := rfl
theorem inB_one (n : Int) : inB n (min 0 1) 0 = (n == 0) := inB_zero n

end Go.Proofs.YtccfiohcblecoaaDoor
