/- Contract of the disk's Write. -/
import Derived.Test.YtpgelebmhhcodaaDoorDskB
import Derived.Lib.AppendZeros
import Derived.Deep.RegionLaw
namespace Go.Proofs.YtpgelebmhhcodaaDoor
open Go.RowKit
set_option linter.unusedVariables false

/-- an append whose run is known, at a step of a region that draws -/
theorem step_append_run {P : Program} (w : World) {ops : Array Oper} {o : Oper} {a : Act} {K : Act → World → Prop} {Q : Exit → Act → World → Prop} {E : Prop} (hgd : o.guard = none) (s x : Operand) (t tn : TypeId)
    (ho : o.op = .call { callee := .builtin .append, args := #[s, x], argTypes := #[t, tn] }) (vs vx : Value) (hs : a.eval s = vs) (hx : a.eval x = vx)
    (v' : Value) (w' : World) (hr : (Builtin.append_ #[t, tn] o.type #[vs, vx]).run P w = .ok v' w') (h : K (a.put o.dst v') w') : if Region.wanted o (yielded ops a.tmps) = true then Oper.wp P o a w K Q else E := by
  have hw : Region.wanted o (yielded ops a.tmps) = true := by simp [Region.wanted, hgd]
  rw [if_pos hw]
  exact Lib.wp_append_run w s x t tn ho vs vx hs hx v' w' hr h

theorem addL_len (d : DiskD) (k : Nat) (b : List Int) : (addL d k b).l.length = d.l.length := by simp [addL]
theorem spendD_len (d : DiskD) : (spendD d).l.length = d.l.length := by
  unfold spendD
  split
  · rfl
  · split <;> rfl
theorem writeD_len (d : DiskD) (i : Int) (b : List Int) : (writeD d i b).l.length = d.l.length := by
  unfold writeD
  split; · rfl
  split
  · split
    · rw [spendD_len, addL_len]
    · rfl
  · rfl

end Go.Proofs.YtpgelebmhhcodaaDoor
