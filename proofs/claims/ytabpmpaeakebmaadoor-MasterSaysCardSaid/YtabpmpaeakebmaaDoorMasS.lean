/- Contract: the document's SameMaster. -/
import Derived.Test.YtabpmpaeakebmaaDoorMasC
namespace Go.Proofs.YtabpmpaeakebmaaDoor
open Go.RowKit
set_option linter.unusedVariables false

theorem sameMaster (a b : MasD) (w : World) :
    Calls Tryd.prog 26 #[masV a, masV b] w fun e w' => e = .returned (.bool (sameMB a b)) ∧ Below w.heap.size w w' := by
  obtain ⟨a0, a1, a2, a3, a4, a5, a6⟩ := a
  obtain ⟨b0, b1, b2, b3, b4, b5, b6⟩ := b
  have hb : ∀ o1 o2, Below w.heap.size w ((w.alloc o1).alloc o2) := fun o1 o2 => ((Below.refl _ _).alloc (Nat.le_refl _) o1).alloc (by simp) o2
  have HB := Lib.hid hb
  clear hb
  unfold masV
  dsimp only
  go_enter Tryd.func26, Tryd.ntmps26
  go_wp2_with fail
  all_goals go_ret
  all_goals refine ⟨?_, HB.out _ _⟩
  all_goals simp only [beq_iff_eq, beq_eq_false_iff_ne] at *
  all_goals first | (simp [sameMB, *]; done) | (simp [sameMB, *]; rfl)
end Go.Proofs.YtabpmpaeakebmaaDoor
