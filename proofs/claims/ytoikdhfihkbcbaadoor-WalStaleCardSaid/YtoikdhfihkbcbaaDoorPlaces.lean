/- Contract of cell.places. -/
import Derived.Test.YtoikdhfihkbcbaaDoorProg
import Derived.Test.YtoikdhfihkbcbaaDoorPlain
namespace Go.Proofs.YtoikdhfihkbcbaaDoor
open Go.RowKit
set_option linter.unusedVariables false

theorem places (o : Option Addr) (n c : Nat) (hn : n ≤ 1000000000000) (at_ size : Int) (w : World) (h1 : -8 ≤ at_) (h2 : at_ < n) (h3 : -9223372036854775808 ≤ size) (h4 : size ≤ 9223372036854775807) :
    Calls Tryd.prog 68 #[.slice o n c, .int .i64 at_, .int .i64 size] w fun e w' => e = .returned (.tuple #[.int .i64 (max at_ 0), .int .i64 (min (at_ + sz size) n)]) ∧ w = w' := by
  unfold sz
  go_enter Tryd.func68, Tryd.ntmps68
  go_wp2
  all_goals
    go_ret2
    refine ⟨?_, rfl⟩
    simp only [Array.getD_eq_getD_getElem?]
    simp
    omega
end Go.Proofs.YtoikdhfihkbcbaaDoor
