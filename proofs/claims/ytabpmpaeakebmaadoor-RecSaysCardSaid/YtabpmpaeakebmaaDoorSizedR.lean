/- Contract of phoenixref1.sized. -/
import Derived.Test.YtabpmpaeakebmaaDoorProg
import Derived.Test.YtabpmpaeakebmaaDoorPlain
namespace Go.Proofs.YtabpmpaeakebmaaDoor
open Go.RowKit
set_option linter.unusedVariables false

theorem sizedRef (n : Int) (w : World) (h3 : -9223372036854775808 ≤ n) (h4 : n ≤ 9223372036854775807) :
    Calls Tryd.prog 59 #[.int .i64 n] w fun e w' => e = .returned (.int .i64 (sz n)) ∧ w = w' := by
  unfold sz
  go_enter Tryd.func59, Tryd.ntmps59
  go_wp2
  all_goals
    go_ret
    refine ⟨?_, rfl⟩
    simp only [Array.getD_eq_getD_getElem?]
    simp
    omega
end Go.Proofs.YtabpmpaeakebmaaDoor
