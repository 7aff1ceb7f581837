/- Contract of phoenixref1.Put. -/
import Derived.Test.YtabpmpaeakebmaaDoorBytesR
import Derived.Test.YtabpmpaeakebmaaDoorSizedR
namespace Go.Proofs.YtabpmpaeakebmaaDoor
open Go.RowKit
set_option linter.unusedVariables false

theorem putRef (v : Value) (l : List Int) (at_ size n : Int) (w : World) (hv : Bs w v l) (hl : l.length ≤ 1000000000000) (ha : -9223372036854775808 ≤ at_) (ha' : at_ ≤ 9223372036854775807) (h3 : -9223372036854775808 ≤ size) (h4 : size ≤ 9223372036854775807)
    (hn : 0 ≤ n) (hn' : n ≤ 18446744073709551615) :
    Calls Tryd.prog 43 #[v, .int .i64 at_, .int .i64 size, .int .u64 n] w fun e w' => ∃ v', e = .returned v' ∧ Below w.heap.size w w' ∧ Ob 5 w.heap.size w' v' (putL l at_ size n) := by
  have hz := sz_le size
  go_enter Tryd.func43, Tryd.ntmps43
  go_wp2_with fail
  refine (bytesRef _ l _ hv hl).mono ?_
  rintro e w1 ⟨v', rfl, hb, hob⟩
  go_wp2_with fail
  go_loopw [3, 10] (fun q i wr => ∃ k : Nat, i = .int .i64 k ∧ (k : Int) ≤ sz size ∧ q = .int .u64 (n / 2 ^ (8 * k)) ∧ Below w.heap.size w wr ∧ Ob 5 w.heap.size wr v' (putN l at_ n k)) (fun _ i _ => (8 - intOf i).toNat)
  case atStart => exact ⟨0, rfl, by omega, by simp, hb, by rw [putN_zero]; exact hob⟩
  case round =>
    obtain ⟨k, rfl, hk, rfl, hbr, hobr⟩ := hrel
    by_cases hlt : (k : Int) < sz size
    · have hds := div_step n k
      have hdb := div_bounds hn hn' k
      by_cases hin : 0 ≤ at_ + k ∧ at_ + k < l.length
      · have hst := putN_in l at_ n k hin.1 hin.2
        have HST := Lib.hid hst
        have HDS := Lib.hid hds
        clear hst hds
        have hne : putN l at_ n k ≠ [] := by intro e; have := putN_length l at_ n k; rw [e] at this; simp at this; omega
        obtain ⟨g, cap, rfl, hg1, hg2, _, _⟩ := hobr.row hne
        have hc := hobr.cell (i := (at_ + k).toNat) (by rw [putN_length]; omega)
        have hf := hobr.frozen (at_ + k).toNat
        have hs := hobr.set (at_ + k).toNat (x := n / 2 ^ (8 * k) % 256) (by omega) (by omega)
        rw [HST.out] at hs
        rw [putN_length] at *
        generalize (putN l at_ n k).getD (at_ + k).toNat 0 = x0 at hc
        generalize n / 2 ^ (8 * k) = q at hdb HST HDS hs
        have d1 : decide (-(k : Int) ≤ at_) = true := by simp; omega
        have d2 : decide (at_ < (l.length : Int) - k) = true := by simp; omega
        have i0 : 0 ≤ at_ + (k : Int) := hin.1
        have i1 : at_ + (k : Int) < l.length := hin.2
        clear hin
        go_wp2_with (first | (go_at_call 59; (with_reducible refine (sizedRef size _ h3 h4).mono ?_); rintro e w' ⟨rfl, rfl⟩))
        go_roundw
        case rel => exact ⟨k + 1, by go_num, by omega, by rw [HDS.out], hbr.setCell hg1 _, hs⟩
        case measure => simp [intOf]; omega
      · have hst := putN_out l at_ n k hin
        rw [hst] at hobr
        have HDS := Lib.hid hds
        clear hst hds
        generalize n / 2 ^ (8 * k) = q at hdb HDS
        have hob2 := hobr
        obtain ⟨_, o', c', rfl, hlc', hcm', _, _⟩ := hobr.bs
        rw [putN_length] at *
        unfold maxLen at hcm'
        by_cases h1 : -(k : Int) ≤ at_
        · have d1 : decide (-(k : Int) ≤ at_) = true := by simp; omega
          have d2 : decide (at_ < (l.length : Int) - k) = false := by simp; omega
          clear hin
          go_wp2_with (first | (go_at_call 59; (with_reducible refine (sizedRef size _ h3 h4).mono ?_); rintro e w' ⟨rfl, rfl⟩))
          go_roundw
          case rel => exact ⟨k + 1, by go_num, by omega, by rw [HDS.out], hbr, hob2⟩
          case measure => simp [intOf]; omega
        · have d1 : decide (-(k : Int) ≤ at_) = false := by simp; omega
          clear hin
          go_wp2_with (first | (go_at_call 59; (with_reducible refine (sizedRef size _ h3 h4).mono ?_); rintro e w' ⟨rfl, rfl⟩))
          go_roundw
          case rel => exact ⟨k + 1, by go_num, by omega, by rw [HDS.out], hbr, hob2⟩
          case measure => simp [intOf]; omega
    · have hfin : putN l at_ n k = putL l at_ size n := by rw [← putN_all, show (sz size).toNat = k from by omega]
      rw [hfin] at hobr
      go_wp2_with (first | (go_at_call 59; (with_reducible refine (sizedRef size _ h3 h4).mono ?_); rintro e w' ⟨rfl, rfl⟩))
      go_ret
      exact ⟨_, rfl, hbr, hobr⟩
end Go.Proofs.YtabpmpaeakebmaaDoor
