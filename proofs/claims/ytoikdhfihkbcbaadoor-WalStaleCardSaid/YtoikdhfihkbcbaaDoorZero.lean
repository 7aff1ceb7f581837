/- Contract of cell.Zero, with the library's search behind it. -/
import Derived.Test.YtoikdhfihkbcbaaDoorProg
import Derived.Test.YtoikdhfihkbcbaaDoorPlain
namespace Go.Proofs.YtoikdhfihkbcbaaDoor
open Go.RowKit
set_option linter.unusedVariables false

theorem indexZero (v : Value) (l : List Int) (w : World) (hv : Bs w v l) :
    Calls Tryd.prog 81 #[v, .func (.func 71) #[] #[]] w fun e w' => (∃ r : Int, e = .returned (.int .i64 r) ∧ decide (0 ≤ r) = !allZ l ∧ -1 ≤ r ∧ r ≤ 9223372036854775807) ∧ w = w' := by
  obtain ⟨hl1, o, c, rfl, hlc, hcm, hon, hcell⟩ := hv
  unfold maxLen at hcm
  go_enter Tryd.func81, Tryd.ntmps81
  go_wp2_with fail
  go_loop [8] (fun i => ∃ k : Nat, i = .int .i64 k ∧ k ≤ l.length ∧ ∀ j, j < k → l.getD j 0 = 0) (fun i => l.length - (intOf i).toNat)
  case atStart => exact ⟨0, rfl, by omega, fun j hj => by omega⟩
  case round =>
    obtain ⟨k, rfl, hk, hz⟩ := hrel
    have HZ := Lib.hid hz
    clear hz
    by_cases hlt : k < l.length
    · obtain ⟨a, x, rfl, g, hx, hx0, hx1⟩ := Bs.at_ hl1 hcell hlt
      clear hcell
      by_cases hxz : x = 0
      · have e1 : (x != 0) = false := by simp [hxz]
        have HX := Lib.hid hxz
        clear hxz
        go_wp2
        go_round
        case rel =>
          refine ⟨k + 1, by go_num, by omega, fun j hj => ?_⟩
          by_cases e : j = k
          · rw [e, hx.out, HX.out]
          · exact HZ.out j (by omega)
        case measure => simp [intOf]; omega
      · have e1 : (x != 0) = true := by simp [hxz]
        have HX := Lib.hid hxz
        clear hxz
        go_wp2
        go_ret
        refine ⟨⟨k, rfl, ?_, by omega, by omega⟩, rfl⟩
        have : allZ l = false := by
          rw [Bool.eq_false_iff]; intro h
          exact HX.out (by rw [← hx.out, getD_lt hlt]; exact allZ_iff.1 h _ (List.getElem_mem hlt))
        simp [this]
    · go_wp2
      go_ret
      refine ⟨⟨-1, rfl, ?_, by omega, by omega⟩, rfl⟩
      have : allZ l = true := by
        rw [allZ_iff]; intro x hx
        obtain ⟨j, hj, rfl⟩ := List.getElem_of_mem hx
        rw [← getD_lt (d := 0) hj]; exact HZ.out j (by omega)
      simp [this]

theorem zero (v : Value) (l : List Int) (w : World) (hv : Bs w v l) :
    Calls Tryd.prog 45 #[v] w fun e w' => e = .returned (.bool (allZ l)) ∧ w = w' := by
  go_enter Tryd.func45, Tryd.ntmps45
  go_wp2_with (first | (go_at_call 81; (with_reducible refine (indexZero v l w hv).mono ?_); rintro e w' ⟨⟨r, rfl, hr, hr1, hr2⟩, rfl⟩; have HR := Lib.hid hr; clear hr) | go_in)
  go_ret
  exact ⟨by simp [HR.out], rfl⟩
end Go.Proofs.YtoikdhfihkbcbaaDoor
