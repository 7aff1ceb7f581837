/- Contract of phoenixref1.Get. -/
import Derived.Test.YtabpmpaeakebmaaDoorSizedR
namespace Go.Proofs.YtabpmpaeakebmaaDoor
open Go.RowKit
set_option linter.unusedVariables false

theorem getRef (v : Value) (l : List Int) (at_ size : Int) (w : World) (hv : Bs w v l) (hl : l.length ≤ 1000000000000) (ha : -9223372036854775808 ≤ at_) (ha' : at_ ≤ 9223372036854775807) (h3 : -9223372036854775808 ≤ size) (h4 : size ≤ 9223372036854775807) :
    Calls Tryd.prog 47 #[v, .int .i64 at_, .int .i64 size] w fun e w' => e = .returned (.int .u64 (getL l at_ size)) ∧ w = w' := by
  have hv' := hv
  obtain ⟨hl1, o, c, rfl, hlc, hcm, hon, hcell⟩ := hv
  unfold maxLen at hcm
  have hz := sz_le size
  have hfin : hi l at_ (sz size).toNat (sz size).toNat = getL l at_ size := by
    have := hi_getTo l at_ (sz size).toNat (sz size).toNat (Nat.le_refl _)
    simp [getTo] at this
    unfold getL; omega
  have HFIN := Lib.hid hfin
  clear hfin
  have hsz := fun w => sizedRef size w h3 h4
  generalize sz size = z at hz HFIN hsz
  go_enter Tryd.func47, Tryd.ntmps47
  go_wp2_with fail
  refine (hsz w).mono ?_
  rintro e w' ⟨rfl, rfl⟩
  go_wp2_with fail
  go_loop [7, 8] (fun n i => ∃ m : Nat, (m : Int) ≤ z ∧ i = .int .i64 (z - 1 - m) ∧ n = .int .u64 (hi l at_ z.toNat m)) (fun _ i => (intOf i + 1).toNat)
  case atStart => exact ⟨0, by omega, by congr 1; omega, rfl⟩
  case round =>
    obtain ⟨m, hm, rfl, rfl⟩ := hrel
    by_cases hlt : (m : Int) < z
    · have hb := hi_bounds hl1 at_ z.toNat m (by omega)
      obtain ⟨j, hj⟩ : ∃ j : Nat, z.toNat - 1 - m = j := ⟨_, rfl⟩
      have hst : hi l at_ z.toNat (m + 1) = hi l at_ z.toNat m * 256 + dig l at_ j := by rw [hi, hj]
      have hz2 : z - 1 - (m : Int) = j := by omega
      rw [hz2]
      have HJ := Lib.hid hz2
      have hjz : (j : Int) ≤ 7 := by omega
      have hj2 : (j : Int) - 1 = z - 1 - ((m + 1 : Nat) : Int) := by omega
      have HJ2 := Lib.hid hj2
      have HST := Lib.hid hst
      clear hst hz2 hj hj2
      generalize hi l at_ z.toNat m = q at hb HST
      have hsh : IntKind.u64.wrap (q * 256) = q * 256 := by rw [IntKind.wrap_u64]; omega
      by_cases hin : 0 ≤ at_ + j ∧ at_ + j < l.length
      · obtain ⟨a, x, rfl, g, hx, hx0, hx1⟩ := Bs.at_ hl1 hcell (k := (at_ + j).toNat) (by omega)
        have hd : dig l at_ j = x := by unfold dig; rw [if_pos hin]; exact hx.out
        have HD := Lib.hid hd
        have hor := or_low q x hb.1 hb.2 hx0 hx1
        have d1 : decide (-(j : Int) ≤ at_) = true := by simp; omega
        have d2 : decide (at_ < (l.length : Int) - j) = true := by simp; omega
        have i0 : 0 ≤ at_ + (j : Int) := hin.1
        have i1 : at_ + (j : Int) < l.length := hin.2
        clear hin hcell hd
        go_wp2_with fail
        go_round
        case rel => exact ⟨m + 1, by omega, by rw [← HJ2.out], by rw [HST.out, HD.out]⟩
        case measure => simp [intOf]
      · have hd : dig l at_ j = 0 := by unfold dig; rw [if_neg hin]
        have HD := Lib.hid hd
        clear hd hcell
        by_cases h1 : -(j : Int) ≤ at_
        · have d1 : decide (-(j : Int) ≤ at_) = true := by simp; omega
          have d2 : decide (at_ < (l.length : Int) - j) = false := by simp; omega
          clear hin
          go_wp2_with fail
          go_round
          case rel => exact ⟨m + 1, by omega, by rw [← HJ2.out], by rw [HST.out, HD.out]; simp⟩
          case measure => simp [intOf]
        · have d1 : decide (-(j : Int) ≤ at_) = false := by simp; omega
          clear hin
          go_wp2_with fail
          go_round
          case rel => exact ⟨m + 1, by omega, by rw [← HJ2.out], by rw [HST.out, HD.out]; simp⟩
          case measure => simp [intOf]
    · have hm2 : z.toNat = m := by omega
      have hx := HFIN.out
      have HX : Hid (hi l at_ z.toNat m = getL l at_ size) := by rw [← hx, hm2]; rfl
      clear hx hm2
      go_wp2_with fail
      go_ret
      exact ⟨by rw [← HX.out]; rfl, rfl⟩
end Go.Proofs.YtabpmpaeakebmaaDoor
