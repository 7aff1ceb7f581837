/- Contract: the document's RecBytes. -/
import Derived.Test.YtabpmpaeakebmaaDoorRecXFF
import Derived.Test.YtabpmpaeakebmaaDoorRecXFT
import Derived.Test.YtabpmpaeakebmaaDoorRecXTF
import Derived.Test.YtabpmpaeakebmaaDoorRecXTT
namespace Go.Proofs.YtabpmpaeakebmaaDoor
open Go.RowKit
set_option linter.unusedVariables false

/-- RecBytes, whatever the record -/
theorem recBytesRef (r : RecD) (w : World) :
    Calls Tryd.prog 34 #[recV r] w fun e w' => (∃ v, e = .returned v ∧ Ob 5 w.heap.size w' v (recB r)) ∧ Below w.heap.size w w' := by
  obtain ⟨kind, txn, page, prev, next, key, had, has, old, new⟩ := r
  cases had <;> cases has
  · exact recBytesRefFF _ _ _ _ _ _ _ _ w
  · exact recBytesRefFT _ _ _ _ _ _ _ _ w
  · exact recBytesRefTF _ _ _ _ _ _ _ _ w
  · exact recBytesRefTT _ _ _ _ _ _ _ _ w
end Go.Proofs.YtabpmpaeakebmaaDoor
