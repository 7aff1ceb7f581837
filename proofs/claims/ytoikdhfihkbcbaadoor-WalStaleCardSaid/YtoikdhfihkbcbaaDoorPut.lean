/- Contract of cell.Put. -/
import Derived.Test.YtoikdhfihkbcbaaDoorClone
import Derived.Test.YtoikdhfihkbcbaaDoorPlaces
namespace Go.Proofs.YtoikdhfihkbcbaaDoor
open Go.RowKit
set_option linter.unusedVariables false

theorem put (v : Value) (l : List Int) (at_ size n : Int) (w : World) (hv : Bs w v l) (hl : l.length ≤ 1000000000000) (ha : -9223372036854775808 ≤ at_) (ha' : at_ ≤ 9223372036854775807) (h3 : -9223372036854775808 ≤ size) (h4 : size ≤ 9223372036854775807)
    (hn : 0 ≤ n) (hn' : n ≤ 18446744073709551615) :
    Calls Tryd.prog 42 #[v, .int .i64 at_, .int .i64 size, .int .u64 n] w fun e w' => ∃ v', e = .returned v' ∧ Below w.heap.size w w' ∧ Ob 5 w.heap.size w' v' (putL l at_ size n) := by
  have hv' := hv
  obtain ⟨hl1, o, c, rfl, hlc, hcm, hon, hcell⟩ := hv
  clear hcell
  unfold maxLen at hcm
  by_cases ht : at_ < l.length
  · by_cases ht' : -8 ≤ at_
    · go_enter Tryd.func42, Tryd.ntmps42
      go_wp2_with fail
      refine (clone _ l _ hv' hl).mono ?_
      rintro e w' ⟨v', rfl, hb, hob⟩
      go_wp2_with fail
      refine (places _ _ _ hl at_ size _ ht' ht h3 h4).mono ?_
      rintro e w2 ⟨rfl, rfl⟩
      go_wp2_with fail
      have hsz := sz_le size
      generalize hz : sz size = z at hsz
      have HZ := Lib.hid hz
      clear hz
      go_loopw [12] (fun i wr => ∃ k : Nat, i = .int .i64 k ∧ max at_ 0 ≤ k ∧ (k : Int) ≤ max (max at_ 0) (min (at_ + z) l.length) ∧ Below w.heap.size w wr ∧ Ob 5 w.heap.size wr v' (putTo l at_ size n k)) (fun i _ => (l.length : Int).toNat - (intOf i).toNat)
      case atStart =>
        refine ⟨(max at_ 0).toNat, by congr 1; omega, by omega, by omega, hb, ?_⟩
        rw [putTo_zero _ _ _ _ _ (by omega)]; exact hob
      case round =>
        obtain ⟨k, rfl, hk0, hk, hbr, hobr⟩ := hrel
        by_cases hlt : (k : Int) < min (at_ + z) l.length
        · have hkl : k < (putTo l at_ size n k).length := by rw [putTo_length]; omega
          obtain ⟨g, cap, rfl, hg1, hg2, _, _⟩ := hobr.row (ne_nil_of_lt hkl)
          have hc := hobr.cell hkl
          have hf := hobr.frozen k
          generalize (putTo l at_ size n k).getD k 0 = x0 at hc
          rw [putTo_length] at *
          have hs := fun i x h0 h1 => hobr.set i (x := x) h0 h1
          go_wp2
          go_roundw
          case rel =>
            have hx : (n / 2 ^ (8 * (↑k - at_)).toNat % 256) = n / 2 ^ (8 * (↑k - at_).toNat) % 256 := by
              rw [show (8 * (↑k - at_)).toNat = 8 * (↑k - at_).toNat from by omega]
            refine ⟨k + 1, by go_num, by omega, by omega, hbr.setCell hg1 _, ?_⟩
            rw [← putTo_succ _ _ _ _ _ (by omega) (by have := HZ.out; omega), hx]
            exact hs k _ (by omega) (by omega)
          case measure => simp [intOf]; omega
        · have hfin : putTo l at_ size n k = putL l at_ size n := putTo_all _ _ _ _ _ (by have := HZ.out; omega)
          rw [hfin] at hobr
          go_wp2
          go_ret
          exact ⟨_, rfl, hbr, hobr⟩
    · go_enter Tryd.func42, Tryd.ntmps42
      go_wp2_with fail
      refine (clone _ l _ hv' hl).mono ?_
      rintro e w' ⟨v', rfl, hb, hob⟩
      rw [← putL_none l at_ size n (by omega)] at hob
      go_wp2_with fail
      go_ret
      exact ⟨_, rfl, hb, hob⟩
  · go_enter Tryd.func42, Tryd.ntmps42
    go_wp2_with fail
    refine (clone _ l _ hv' hl).mono ?_
    rintro e w' ⟨v', rfl, hb, hob⟩
    rw [← putL_none l at_ size n (by omega)] at hob
    go_wp2_with fail
    go_ret
    exact ⟨_, rfl, hb, hob⟩
end Go.Proofs.YtoikdhfihkbcbaaDoor
