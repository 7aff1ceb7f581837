/- The errors that a disk tells, where a row lists no others. -/
import Derived.Test.YtccfiohcblecoaaDoorLaidS
import Derived.Test.YtccfiohcblecoaaDoorDskA
namespace Go.Proofs.YtccfiohcblecoaaDoor
open Go.RowKit Go.ChangeShapes
set_option linter.unusedVariables false

theorem disk_ok : ∀ x ∈ ([("phoenix/api.ErrOff", 1, Rows.laid_phoenix_api_ErrOff), ("phoenix/api.ErrRange", 2, Rows.laid_phoenix_api_ErrRange), ("phoenix/api.ErrShort", 3, Rows.laid_phoenix_api_ErrShort)] : List (String × Nat × DataW Unit)), Tryd.prog.globalNamed x.1 = some x.2.1 ∧ (Tryd.prog.globals[x.2.1]?).map (·.type) = some 37 ∧ ∃ text, x.2.2 = errD text :=
  ok_append (L := [_]) (errOne "phoenix/api.ErrOff" 1 Rows.laid_phoenix_api_ErrOff (by kernel_rfl) (by kernel_rfl) ⟨_, rfl⟩) (ok_append (L := [_]) range_ok (errOne "phoenix/api.ErrShort" 3 Rows.laid_phoenix_api_ErrShort (by kernel_rfl) (by kernel_rfl) ⟨_, rfl⟩))

/-- ErrOff, ErrRange, ErrShort -/
theorem d3_of_laid {W : World} (h : laidMetH Tryd.prog [("phoenix/api.ErrOff", Rows.laid_phoenix_api_ErrOff), ("phoenix/api.ErrRange", Rows.laid_phoenix_api_ErrRange), ("phoenix/api.ErrShort", Rows.laid_phoenix_api_ErrShort)] W) : ∃ ea, D3 ea W := by
  obtain ⟨A, _, _, _, hc⟩ := laid_rows [("phoenix/api.ErrOff", 1, Rows.laid_phoenix_api_ErrOff), ("phoenix/api.ErrRange", 2, Rows.laid_phoenix_api_ErrRange), ("phoenix/api.ErrShort", 3, Rows.laid_phoenix_api_ErrShort)] h disk_ok
  exact ⟨fun i => A.getD i ⟨0, 0, none⟩, ⟨hc 0 (by decide), hc 1 (by decide), hc 2 (by decide)⟩⟩
end Go.Proofs.YtccfiohcblecoaaDoor
