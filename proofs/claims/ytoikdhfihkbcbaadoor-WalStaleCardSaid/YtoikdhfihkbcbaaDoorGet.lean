/- Contract of cell.Get. -/
import Derived.Test.YtoikdhfihkbcbaaDoorPlaces
namespace Go.Proofs.YtoikdhfihkbcbaaDoor
open Go.RowKit
set_option linter.unusedVariables false

theorem get (v : Value) (l : List Int) (at_ size : Int) (w : World) (hv : Bs w v l) (hl : l.length ≤ 1000000000000) (ha : -9223372036854775808 ≤ at_) (ha' : at_ ≤ 9223372036854775807) (h3 : -9223372036854775808 ≤ size) (h4 : size ≤ 9223372036854775807) :
    Calls Tryd.prog 46 #[v, .int .i64 at_, .int .i64 size] w fun e w' => e = .returned (.int .u64 (getL l at_ size)) ∧ w = w' := by
  have hv' := hv
  obtain ⟨hl1, o, c, rfl, hlc, hcm, hon, hcell⟩ := hv
  unfold maxLen at hcm
  by_cases ht : at_ < l.length
  · by_cases ht' : -8 ≤ at_
    · go_enter Tryd.func46, Tryd.ntmps46
      go_wp2_with fail
      refine (places _ _ _ hl at_ size _ ht' ht h3 h4).mono ?_
      rintro e w2 ⟨rfl, rfl⟩
      go_wp2_with fail
      have hsz := sz_le size
      generalize hz : sz size = z at hsz
      have HZ := Lib.hid hz
      clear hz
      go_loop [7, 10] (fun n i => ∃ k : Nat, i = .int .i64 k ∧ max at_ 0 ≤ k ∧ (k : Int) ≤ max (max at_ 0) (min (at_ + z) l.length) ∧ n = .int .u64 (getTo l at_ (k - at_).toNat)) (fun _ i => (l.length : Int).toNat - (intOf i).toNat)
      case atStart =>
        refine ⟨(max at_ 0).toNat, by congr 1; omega, by omega, by omega, ?_⟩
        rw [getTo_zero _ _ _ (by omega)]
      case round =>
        obtain ⟨k, rfl, hk0, hk, rfl⟩ := hrel
        by_cases hlt : (k : Int) < min (at_ + z) l.length
        · obtain ⟨a, x, rfl, g, hx, hx0, hx1⟩ := Bs.at_ hl1 hcell (k := k) (by omega)
          clear hcell
          have hg := getTo_bounds hl1 at_ (k - at_).toNat
          have hst : getTo l at_ ((k : Int) + 1 - at_).toNat = getTo l at_ (k - at_).toNat + x * 2 ^ (8 * (k - at_)).toNat := by
            rw [show ((k : Int) + 1 - at_).toNat = (k - at_).toNat + 1 from by omega, getTo, if_pos (by omega), show (at_ + ((k - at_).toNat : Int)).toNat = k from by omega, hx.out,
              show (8 * (↑k - at_)).toNat = 8 * (↑k - at_).toNat from by omega]
          have HST := Lib.hid hst
          clear hst
          generalize getTo l at_ (k - at_).toNat = y at hg HST
          go_wp2
          go_round
          case rel =>
            refine ⟨k + 1, by go_num, by omega, by omega, ?_⟩
            rw [show ((k + 1 : Nat) : Int) = (k : Int) + 1 from by omega, HST.out, or_shift _ _ _ (by omega) hg.1 (by rw [show (8 * (↑k - at_)).toNat = 8 * (↑k - at_).toNat from by omega]; exact hg.2) hx0 hx1]
          case measure => simp [intOf]; omega
        · have hfin : getTo l at_ (k - at_).toNat = getL l at_ size := by
            unfold getL
            rw [HZ.out]
            exact getTo_all _ _ _ _ (by omega) hk0 hk ht (by omega)
          go_wp2
          go_ret
          exact ⟨by rw [← hfin]; rfl, rfl⟩
    · have hfin : getL l at_ size = 0 := getL_none _ _ _ (by omega)
      go_enter Tryd.func46, Tryd.ntmps46
      go_wp2
      go_ret
      exact ⟨rfl, rfl⟩
  · have hfin : getL l at_ size = 0 := getL_none _ _ _ (by omega)
    go_enter Tryd.func46, Tryd.ntmps46
    go_wp2
    go_ret
    exact ⟨rfl, rfl⟩
end Go.Proofs.YtoikdhfihkbcbaaDoor
