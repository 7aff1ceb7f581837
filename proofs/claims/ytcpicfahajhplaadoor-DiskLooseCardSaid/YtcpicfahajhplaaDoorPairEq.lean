/- '!=' of two pairs of numbers. -/
import Derived.Test.YtcpicfahajhplaaDoorProg
import Derived.Laws.StructEq
import Derived.DeepKeys
import Derived.KernelRfl
namespace Go.Proofs.YtcpicfahajhplaaDoor

theorem neq_pair {P : Program} {t e : TypeId} (hu : P.underlying t = some (.array 2 e)) (he : P.underlying e = some (.int .i64))
    (p0 : ∀ (c0 c1 : Value) (w : World), (part e #[c0, c1] (0 * P.cellsOf e)).run P w = .ok c0 w) (p1 : ∀ (c0 c1 : Value) (w : World), (part e #[c0, c1] (1 * P.cellsOf e)).run P w = .ok c1 w) (a b : Int) (w : World) :
    (binOp .neq t (.agg #[.int .i64 a, .int .i64 b]) (.agg #[.int .i64 a, .int .i64 b])).run P w = .ok (.bool false) w := by
  obtain ⟨i, hi⟩ := info_of_underlying he
  rw [run_neq_struct, run_equalIn_array w 9999 _ _ hu hi]
  have q : ∀ n : Int, (Op.equalIn 9999 e (.int .i64 n) (.int .i64 n)).run P w = .ok true w := fun n => by
    rw [run_equalIn_int _ 9998 _ _ _ _ _ he]; simp
  simp only [List.range, List.range.loop, Op.eqItems, Sem.run_bind, p0, p1, q, Result.andThen_ok, Bool.not_true, Bool.false_eq_true, if_false]
  rfl
theorem neqPair (a b : Int) (w : World) : (binOp .neq 41 (.agg #[.int .i64 a, .int .i64 b]) (.agg #[.int .i64 a, .int .i64 b])).run Tryd.prog w = .ok (.bool false) w :=
  neq_pair (e := 3) Tryd.underlying41 Tryd.underlying3 (fun _ _ _ => by kernel_rfl) (fun _ _ _ => by kernel_rfl) a b w
end Go.Proofs.YtcpicfahajhplaaDoor
