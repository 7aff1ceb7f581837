/- Contract: chapter 3's first. -/
import Derived.Test.YtabpmpaeakebmaaDoorProg
import Derived.Test.YtabpmpaeakebmaaDoorRecB
namespace Go.Proofs.YtabpmpaeakebmaaDoor
open Go.RowKit
set_option linter.unusedVariables false

def recCk : RecD := ⟨7, 0, 0, 0, 0, 0, false, false, 0, 0⟩
def rec0 : RecD := ⟨0, 0, 0, 0, 0, 0, false, false, 0, 0⟩
theorem recCk_ok : okR recCk = true := by decide
theorem rec0_ok : okR rec0 = false := by decide
theorem recCk_w : recCk.W := by constructor <;> simp [recCk, I64]
theorem recCk_first : (recB recCk).getD 0 0 = 7 := by decide

/-- first: true -/
theorem recFirst (w : World) (p : Option Addr) (T : TypeId) (hE : w.cell? ⟨0, 0, none⟩ = some (.iface T (.pointer p))) :
    Calls Tryd.prog 27 #[] w fun e w' => e = .returned (.bool true) ∧ Below w.heap.size w w' := by
  have hlt := Below.lt hE
  have hc := fun w' (h : Below w.heap.size w w') => recCheck rec0 w' _ (by rw [h.cell hlt]; exact hE)
  rw [rec0_ok] at hc
  dsimp only [recV, errIf, rec0] at hc
  simp only [Bool.false_eq_true, if_false] at hc
  have HC := Lib.hid hc
  have hby := recBytes recCk w recCk_w _ hE recCk_ok
  have hlen := recB_length recCk
  have h7 := recCk_first
  generalize recB recCk = l at hby hlen h7
  dsimp only [recV, recCk] at hby
  have HBY := Lib.hid hby
  clear hc hby
  go_enter Tryd.func27, Tryd.ntmps27
  go_wp2_with fail
  refine HBY.out.mono ?_
  rintro e w1 ⟨⟨v, rfl, hv⟩, hb1⟩
  obtain ⟨hB, o, cap, rfl, hc1, hc2, hc3, hc4⟩ := hv.bs
  obtain ⟨a, rfl, hcell⟩ := hc4 (ne_nil_of_lt (k := 0) (by omega))
  have c0 := hcell 0 (by omega)
  rw [h7, show a.add 0 = a by cases a; rfl] at c0
  rw [hlen] at *
  clear hcell hc4 hc3 hB hv
  go_wp2_with fail
  refine (HC.out _ hb1).mono ?_
  rintro e w2 ⟨rfl, hb2⟩
  have c1 : w2.cell? a = some (.int .u8 7) := by rw [hb2.cell (Below.lt c0)]; exact c0
  clear c0
  go_wp2_with fail
  go_ret
  exact ⟨rfl, hb1.trans (hb2.mono hb1.size)⟩
end Go.Proofs.YtabpmpaeakebmaaDoor
