/- A record made out of numbers, as the laws call for it. -/
import Derived.Test.YtabpmpaeakebmaaDoorMakeR
import Derived.Test.YtabpmpaeakebmaaDoorRecRow
namespace Go.Proofs.YtabpmpaeakebmaaDoor
open Go.RowKit
set_option linter.unusedVariables false

/-- phoenixmake.Rec over a Seq laid just ahead -/
theorem makeRec' (v : Value) (l : List Int) (w : World) (hn : Ns .i64 w v l) (hl : l.length ≤ 1000) :
    Calls Tryd.prog 30 #[.pointer (some ⟨w.heap.size, 0, none⟩)] (w.alloc (.cells #[v, .int .i64 0] 58)) fun e w' => (∃ r : RecD, e = .returned (recV r) ∧ r.W ∧ okR r = true) ∧ Below w.heap.size w w' :=
  makeRec w.heap.size w.heap.size v l w _ (heap_alloc_new w _) hn ((Below.refl _ _).alloc (Nat.le_refl _) _) (Nat.le_refl _) hl (Nat.le_refl _) (by simp)
end Go.Proofs.YtabpmpaeakebmaaDoor
