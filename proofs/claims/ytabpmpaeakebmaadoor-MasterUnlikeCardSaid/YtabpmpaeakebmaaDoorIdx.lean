/- Indexing an array by value, within its bounds. No program. -/
import Derived.Test.YtabpmpaeakebmaaDoorBase
import Derived.ChangeKeysEq
namespace Go.Proofs.YtabpmpaeakebmaaDoor
open Go.RowKit

theorem run_index_in {P : Program} (w : World) (t e : TypeId) (n : Nat) (cs : Array Value) (k : IntKind) (i : Int) (v : Value) (h : P.underlying t = some (.array n e)) (h0 : 0 ≤ i) (h1 : i < n) (he : P.plainKey e = true) (hz : P.cellsOf e = 1) (hx : cs[i.toNat]? = some v) :
    (Instr.index t (.agg cs) (.int k i)).run P w = .ok v w := by
  have hn : 0 ≤ i ∧ i < (n : Int) := ⟨h0, h1⟩
  unfold Program.plainKey at he
  cases hu : P.underlying e with
  | none => simp [hu] at he
  | some d =>
    obtain ⟨inf, hi⟩ := info_of_underlying hu
    have hs := run_sizeOf w hi
    rw [hz] at hs
    cases d <;> simp [hu] at he <;> simp [Instr.index, run_underlying h, asIntOf, hn, hs, part, isAgg, run_underlying hu, hx, go_sem]
end Go.Proofs.YtabpmpaeakebmaaDoor
