/- Contract of cell.Fill. -/
import Derived.Test.YtoikdhfihkbcbaaDoorClone
namespace Go.Proofs.YtoikdhfihkbcbaaDoor
open Go.RowKit
set_option linter.unusedVariables false

theorem fill (v : Value) (l : List Int) (size : Int) (w : World) (hv : Bs w v l) (hl : l.length ≤ 500000000000) (h3 : -9223372036854775808 ≤ size) (h4 : size ≤ 500000000000) :
    Calls Tryd.prog 41 #[v, .int .i64 size] w fun e w' => ∃ v', e = .returned v' ∧ Below w.heap.size w w' ∧ Ob 5 w.heap.size w' v' (fillL l size) := by
  have hv' := hv
  obtain ⟨hl1, o, c, rfl, hlc, hcm, hon, hcell⟩ := hv
  unfold maxLen at hcm
  by_cases hsz : size ≤ l.length
  · have e : fillL l size = l := by unfold fillL; rw [show (size - l.length).toNat = 0 from by omega]; simp
    rw [e]
    go_enter Tryd.func41, Tryd.ntmps41
    go_wp2_with fail
    refine (clone _ l _ hv' (by omega)).mono ?_
    rintro e w1 ⟨v', rfl, hb, hob⟩
    go_wp2_with fail
    go_ret
    exact ⟨_, rfl, hb, hob⟩
  · have hsz2 : (l.length : Int) < size := by omega
    go_enter Tryd.func41, Tryd.ntmps41
    go_wp2_with fail
    refine (clone _ l _ hv' (by omega)).mono ?_
    rintro e w1 ⟨v', rfl, hb, hob⟩
    obtain ⟨n, rfl⟩ : ∃ n : Nat, size = l.length + n := ⟨(size - l.length).toNat, by omega⟩
    obtain ⟨v2, w2, hr, h1, h2⟩ := byteT.appendZ 3 .i64 Tryd.underlying3 33 w1 w.heap.size v' l hob n (by omega) (by omega) hb.size
    have hb2 : Below w.heap.size w w2 := hob.grown h2 hb (Nat.le_refl _) hb.size
    have e2 : fillL l (l.length + n) = l ++ List.replicate n 0 := by unfold fillL; rw [show ((l.length : Int) + n - l.length).toNat = n from by omega]
    rw [← e2] at h1
    have e3 : (l.length : Int) + n - l.length = (n : Int) := by omega
    have E3 := Lib.hid e3
    clear e3 e2 h2
    rw [← E3.out] at hr
    go_wp2_with (at_builtin; refine Lib.wpList_append_run _ rfl _ _ _ _ rfl _ _ rfl rfl _ _ hr ?_)
    go_ret
    exact ⟨_, rfl, hb2, h1⟩
end Go.Proofs.YtoikdhfihkbcbaaDoor
