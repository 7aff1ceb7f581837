/- What a row that lists few errors gives. -/
import Derived.Test.YtoikdhfihkbcbaaDoorLaid
import Derived.Test.YtoikdhfihkbcbaaDoorE3
namespace Go.Proofs.YtoikdhfihkbcbaaDoor
open Go.RowKit Go.ChangeShapes
set_option linter.unusedVariables false

theorem errOne (n : String) (g : Nat) (d : DataW Unit) (h1 : Tryd.prog.globalNamed n = some g) (h2 : (Tryd.prog.globals[g]?).map (·.type) = some 35) (h3 : ∃ text, d = errD text) : ∀ x ∈ [(n, g, d)], Tryd.prog.globalNamed x.1 = some x.2.1 ∧ (Tryd.prog.globals[x.2.1]?).map (·.type) = some 35 ∧ ∃ text, x.2.2 = errD text := by
  intro x hx
  obtain rfl : x = (n, g, d) := by simpa using hx
  exact ⟨h1, h2, h3⟩
theorem ok_append {L M : List (String × Nat × DataW Unit)} (hL : ∀ x ∈ L, Tryd.prog.globalNamed x.1 = some x.2.1 ∧ (Tryd.prog.globals[x.2.1]?).map (·.type) = some 35 ∧ ∃ text, x.2.2 = errD text) (hM : ∀ x ∈ M, Tryd.prog.globalNamed x.1 = some x.2.1 ∧ (Tryd.prog.globals[x.2.1]?).map (·.type) = some 35 ∧ ∃ text, x.2.2 = errD text) :
    ∀ x ∈ L ++ M, Tryd.prog.globalNamed x.1 = some x.2.1 ∧ (Tryd.prog.globals[x.2.1]?).map (·.type) = some 35 ∧ ∃ text, x.2.2 = errD text := fun x hx => (List.mem_append.1 hx).elim (hL x) (hM x)

theorem range_ok : ∀ x ∈ ([("phoenix/api.ErrRange", 0, Rows.laid_phoenix_api_ErrRange)] : List (String × Nat × DataW Unit)), Tryd.prog.globalNamed x.1 = some x.2.1 ∧ (Tryd.prog.globals[x.2.1]?).map (·.type) = some 35 ∧ ∃ text, x.2.2 = errD text :=
  errOne "phoenix/api.ErrRange" 0 Rows.laid_phoenix_api_ErrRange (by kernel_rfl) (by kernel_rfl) ⟨_, rfl⟩

/-- ErrRange alone -/
theorem range_of_laid {W : World} (h : laidMetH Tryd.prog [("phoenix/api.ErrRange", Rows.laid_phoenix_api_ErrRange)] W) : ∃ p, W.cell? ⟨0, 0, none⟩ = some (.iface 124 (.pointer (some p))) := by
  obtain ⟨A, _, _, _, hc⟩ := laid_rows [("phoenix/api.ErrRange", 0, Rows.laid_phoenix_api_ErrRange)] h range_ok
  exact ⟨_, hc 0 (by decide)⟩

theorem three_ok : ∀ x ∈ ([("phoenix/api.ErrRange", 0, Rows.laid_phoenix_api_ErrRange), ("phoenix/api.ErrShort", 1, Rows.laid_phoenix_api_ErrShort), ("phoenix/api.ErrRec", 6, Rows.laid_phoenix_api_ErrRec)] : List (String × Nat × DataW Unit)), Tryd.prog.globalNamed x.1 = some x.2.1 ∧ (Tryd.prog.globals[x.2.1]?).map (·.type) = some 35 ∧ ∃ text, x.2.2 = errD text :=
  ok_append (L := [_]) range_ok (ok_append (L := [_]) (errOne "phoenix/api.ErrShort" 1 Rows.laid_phoenix_api_ErrShort (by kernel_rfl) (by kernel_rfl) ⟨_, rfl⟩) (errOne "phoenix/api.ErrRec" 6 Rows.laid_phoenix_api_ErrRec (by kernel_rfl) (by kernel_rfl) ⟨_, rfl⟩))

/-- ErrRange, ErrShort, ErrRec -/
theorem e3_of_laid {W : World} (h : laidMetH Tryd.prog [("phoenix/api.ErrRange", Rows.laid_phoenix_api_ErrRange), ("phoenix/api.ErrShort", Rows.laid_phoenix_api_ErrShort), ("phoenix/api.ErrRec", Rows.laid_phoenix_api_ErrRec)] W) : ∃ ea, E3 ea W := by
  obtain ⟨A, _, _, _, hc⟩ := laid_rows [("phoenix/api.ErrRange", 0, Rows.laid_phoenix_api_ErrRange), ("phoenix/api.ErrShort", 1, Rows.laid_phoenix_api_ErrShort), ("phoenix/api.ErrRec", 6, Rows.laid_phoenix_api_ErrRec)] h three_ok
  exact ⟨fun i => A.getD (i - 1) ⟨0, 0, none⟩, ⟨hc 0 (by decide), hc 1 (by decide), hc 2 (by decide)⟩⟩
open Go.RowKit Go.ChangeShapes

theorem four_ok : ∀ x ∈ ([("phoenix/api.ErrRange", 0, Rows.laid_phoenix_api_ErrRange), ("phoenix/api.ErrShort", 1, Rows.laid_phoenix_api_ErrShort), ("phoenix/api.ErrRec", 6, Rows.laid_phoenix_api_ErrRec), ("phoenix/api.ErrBlock", 2, Rows.laid_phoenix_api_ErrBlock)] : List (String × Nat × DataW Unit)), Tryd.prog.globalNamed x.1 = some x.2.1 ∧ (Tryd.prog.globals[x.2.1]?).map (·.type) = some 35 ∧ ∃ text, x.2.2 = errD text :=
  ok_append (L := [_, _, _]) three_ok (errOne "phoenix/api.ErrBlock" 2 Rows.laid_phoenix_api_ErrBlock (by kernel_rfl) (by kernel_rfl) ⟨_, rfl⟩)

/-- ErrRange, ErrShort, ErrRec, ErrBlock -/
theorem b4_of_laid {W : World} (h : laidMetH Tryd.prog [("phoenix/api.ErrRange", Rows.laid_phoenix_api_ErrRange), ("phoenix/api.ErrShort", Rows.laid_phoenix_api_ErrShort), ("phoenix/api.ErrRec", Rows.laid_phoenix_api_ErrRec), ("phoenix/api.ErrBlock", Rows.laid_phoenix_api_ErrBlock)] W) :
    ∃ a : Nat → Addr, W.cell? ⟨0, 0, none⟩ = some (.iface 124 (.pointer (some (a 0)))) ∧ W.cell? ⟨1, 0, none⟩ = some (.iface 124 (.pointer (some (a 1)))) ∧
      W.cell? ⟨6, 0, none⟩ = some (.iface 124 (.pointer (some (a 2)))) ∧ W.cell? ⟨2, 0, none⟩ = some (.iface 124 (.pointer (some (a 3)))) := by
  obtain ⟨A, _, _, _, hc⟩ := laid_rows [("phoenix/api.ErrRange", 0, Rows.laid_phoenix_api_ErrRange), ("phoenix/api.ErrShort", 1, Rows.laid_phoenix_api_ErrShort), ("phoenix/api.ErrRec", 6, Rows.laid_phoenix_api_ErrRec), ("phoenix/api.ErrBlock", 2, Rows.laid_phoenix_api_ErrBlock)] h four_ok
  exact ⟨fun i => A.getD i ⟨0, 0, none⟩, hc 0 (by decide), hc 1 (by decide), hc 2 (by decide), hc 3 (by decide)⟩
end Go.Proofs.YtoikdhfihkbcbaaDoor
