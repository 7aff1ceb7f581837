/- Contract: the document's GoodRec. -/
import Derived.Test.YtccfiohcblecoaaDoorRecGA
import Derived.Test.YtccfiohcblecoaaDoorRecGB
import Derived.Test.YtccfiohcblecoaaDoorRecGC
import Derived.Test.YtccfiohcblecoaaDoorRecGD
namespace Go.Proofs.YtccfiohcblecoaaDoor
open Go.RowKit
set_option linter.unusedVariables false

/-- GoodRec -/
theorem goodRec (r : RecD) (w : World) :
    Calls Tryd.prog 85 #[recV r] w fun e w' => e = .returned (.bool (okR r)) ∧ Below w.heap.size w w' := by
  obtain ⟨kind, txn, page, prev, next, key, had, has, old, new⟩ := r
  by_cases hk : inB kind 1 10 = true
  · have h : kind = 1 ∨ kind = 2 ∨ kind = 3 ∨ kind = 4 ∨ kind = 5 ∨ kind = 6 ∨ kind = 7 ∨ kind = 8 ∨ kind = 9 ∨ kind = 10 := by unfold inB at hk; simp at hk; omega
    rcases h with rfl | rfl | rfl | rfl | rfl | rfl | rfl | rfl | rfl | rfl
    · exact goodRec1 _ _ _ _ _ _ _ _ _ w
    · exact goodRec2 _ _ _ _ _ _ _ _ _ w
    · exact goodRec3 _ _ _ _ _ _ _ _ _ w
    · exact goodRec4 _ _ _ _ _ _ _ _ _ w
    · exact goodRec5 _ _ _ _ _ _ _ _ _ w
    · exact goodRec6 _ _ _ _ _ _ _ _ _ w
    · exact goodRec7 _ _ _ _ _ _ _ _ _ w
    · exact goodRec8 _ _ _ _ _ _ _ _ _ w
    · exact goodRec9 _ _ _ _ _ _ _ _ _ w
    · exact goodRec10 _ _ _ _ _ _ _ _ _ w
  · exact goodRecX _ _ _ _ _ _ _ _ _ _ (by simpa using hk) w
end Go.Proofs.YtccfiohcblecoaaDoor
