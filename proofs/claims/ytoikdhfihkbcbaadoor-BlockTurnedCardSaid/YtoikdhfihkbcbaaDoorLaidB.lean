/- The errors of the rows that list four: ErrRange, ErrShort, ErrRec, ErrBlock. -/
import Derived.Test.YtoikdhfihkbcbaaDoorLaidS
namespace Go.Proofs.YtoikdhfihkbcbaaDoor
open Go.RowKit Go.ChangeShapes
set_option linter.unusedVariables false

theorem four_ok : ∀ x ∈ ([("phoenix/api.ErrRange", 0, Rows.laid_phoenix_api_ErrRange), ("phoenix/api.ErrShort", 1, Rows.laid_phoenix_api_ErrShort), ("phoenix/api.ErrRec", 6, Rows.laid_phoenix_api_ErrRec), ("phoenix/api.ErrBlock", 2, Rows.laid_phoenix_api_ErrBlock)] : List (String × Nat × DataW Unit)), Tryd.prog.globalNamed x.1 = some x.2.1 ∧ (Tryd.prog.globals[x.2.1]?).map (·.type) = some 35 ∧ ∃ text, x.2.2 = errD text :=
  ok_append (L := [_, _, _]) three_ok (errOne "phoenix/api.ErrBlock" 2 Rows.laid_phoenix_api_ErrBlock (by kernel_rfl) (by kernel_rfl) ⟨_, rfl⟩)

/-- ErrRange, ErrShort, ErrRec, ErrBlock -/
theorem b4_of_laid {W : World} (h : laidMetH Tryd.prog [("phoenix/api.ErrRange", Rows.laid_phoenix_api_ErrRange), ("phoenix/api.ErrShort", Rows.laid_phoenix_api_ErrShort), ("phoenix/api.ErrRec", Rows.laid_phoenix_api_ErrRec), ("phoenix/api.ErrBlock", Rows.laid_phoenix_api_ErrBlock)] W) :
    ∃ a : Nat → Addr, W.cell? ⟨0, 0, none⟩ = some (.iface 124 (.pointer (some (a 0)))) ∧ W.cell? ⟨1, 0, none⟩ = some (.iface 124 (.pointer (some (a 1)))) ∧
      W.cell? ⟨6, 0, none⟩ = some (.iface 124 (.pointer (some (a 2)))) ∧ W.cell? ⟨2, 0, none⟩ = some (.iface 124 (.pointer (some (a 3)))) := by
  obtain ⟨A, _, _, _, hc⟩ := laid_rows [("phoenix/api.ErrRange", 0, Rows.laid_phoenix_api_ErrRange), ("phoenix/api.ErrShort", 1, Rows.laid_phoenix_api_ErrShort), ("phoenix/api.ErrRec", 6, Rows.laid_phoenix_api_ErrRec), ("phoenix/api.ErrBlock", 2, Rows.laid_phoenix_api_ErrBlock)] h four_ok
  exact ⟨fun i => A.getD i ⟨0, 0, none⟩, hc 0 (by decide), hc 1 (by decide), hc 2 (by decide), hc 3 (by decide)⟩
end Go.Proofs.YtoikdhfihkbcbaaDoor
