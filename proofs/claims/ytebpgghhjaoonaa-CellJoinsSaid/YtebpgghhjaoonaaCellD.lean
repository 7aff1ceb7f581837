/- The chapter's examples; the law CellBack walked. -/
import Derived.Test.YtebpgghhjaoonaaCellC
namespace Go.Proofs.Ytebpgghhjaoonaa
open Go.RowKit
set_option linter.unusedVariables false

theorem first1 (w : World) :
    Calls Try.prog 9 #[] w fun e w' => e = .returned (.bool true) ∧ Below w.heap.size w w' := by
  have hb0 : Below w.heap.size w (w.alloc (.cells #[.int .u8 0, .int .u8 0] 5)) := (Below.refl _ _).alloc (Nat.le_refl _) _
  have hob0 : Ob 5 0 (w.alloc (.cells #[.int .u8 0, .int .u8 0] 5)) (.slice (some ⟨w.heap.size, 0, none⟩) 2 2) [0, 0] := Ob.lit [0, 0] _ rfl 2 rfl (IsB.zeros 2) (Nat.zero_le _) (by simp)
  go_enter Try.func9, Try.ntmps9
  go_wp2_with fail
  refine (put _ [0, 0] 0 2 258 _ hob0.bs (by simp) (by omega) (by omega) (by omega) (by omega) (by omega) (by omega)).mono ?_
  rintro e w1 ⟨v', rfl, hb, hob⟩
  have e1 : putL [0, 0] 0 2 258 = [2, 1] := by decide
  rw [e1] at hob
  obtain ⟨g, cap, rfl, hg1, hg2, _, _⟩ := hob.row (by simp)
  have c0 := hob.cell (i := 0) (by simp)
  have c1 := hob.cell (i := 1) (by simp)
  simp at c0 c1
  go_wp2_with fail
  refine (get _ [] 0 8 w1 (Bs.nil w1) (by simp) (by omega) (by omega) (by omega) (by omega)).mono ?_
  rintro e w2 ⟨rfl, rfl⟩
  have e2 : getL [] 0 8 = 0 := by decide
  rw [e2]
  go_wp2_with fail
  refine (zero _ [2, 1] w1 hob.bs).mono ?_
  rintro e w2 ⟨rfl, rfl⟩
  have e3 : allZ [2, 1] = false := by decide
  rw [e3]
  go_wp2_with fail
  go_ret
  exact ⟨rfl, hb0.trans (hb.mono (by simp))⟩

theorem putL_get (l : List Int) (at_ size n : Int) (i : Nat) (hi : i < l.length) : (putL l at_ size n).getD i 0 = if at_ ≤ i ∧ (i : Int) < at_ + sz size then (n / 2 ^ (8 * (i - at_).toNat)) % 256 else l.getD i 0 := by
  rw [getD_lt (by rw [putL_length]; exact hi), getD_lt hi]
  simp [putL]
theorem getTo_put (l : List Int) (at_ size n : Int) (h0 : 0 ≤ at_) (h1 : at_ + sz size ≤ l.length) (hn : 0 ≤ n) (m : Nat) (hm : (m : Int) ≤ sz size) : getTo (putL l at_ size n) at_ m = n % 2 ^ (8 * m) := by
  induction m with
  | zero => simp [getTo]
  | succ m ih =>
    rw [getTo, ih (by omega), if_pos (by rw [putL_length]; omega), putL_get _ _ _ _ _ (by omega), if_pos (by omega)]
    have e : (((at_ + m).toNat : Int) - at_).toNat = m := by omega
    rw [e]
    have hp : (2 : Int) ^ (8 * (m + 1)) = 2 ^ (8 * m) * 256 := by rw [Nat.mul_add, Int.pow_add]; rfl
    rw [hp]
    have hq : (2 : Int) ^ (8 * m) = ((2 ^ (8 * m) : Nat) : Int) := by simp
    obtain ⟨n, rfl⟩ := Int.eq_ofNat_of_zero_le hn
    rw [hq]
    have := @Nat.mod_mul (2 ^ (8 * m)) 256 n
    generalize 2 ^ (8 * m) = q at *
    have h2 : ((n % (q * 256) : Nat) : Int) = ((n % q + q * (n / q % 256) : Nat) : Int) := by rw [this]
    simp only [Int.natCast_emod, Int.natCast_mul, Int.natCast_add, Int.natCast_ediv] at h2
    rw [Int.mul_comm _ (q : Int)]
    exact h2.symm
theorem getTo_digit {l : List Int} (hl : IsB l) (at_ : Int) (h0 : 0 ≤ at_) (m : Nat) (h1 : at_ + m ≤ l.length) (j : Nat) (hj : j < m) : (getTo l at_ m / 2 ^ (8 * j)) % 256 = l.getD (at_ + j).toNat 0 := by
  induction m with
  | zero => omega
  | succ m ih =>
    rw [getTo, if_pos (by omega)]
    have hb := getTo_bounds hl at_ m
    have hx := hl.get (at_ + m).toNat
    by_cases e : j = m
    · subst e
      have hp : (0 : Int) < 2 ^ (8 * j) := Int.pow_pos (by omega)
      rw [Int.add_mul_ediv_right _ _ (by omega), Int.ediv_eq_zero_of_lt hb.1 hb.2]
      omega
    · rw [← ih (by omega) (by omega)]
      have hp : (2 : Int) ^ (8 * m) = 2 ^ (8 * (m - j - 1)) * 256 * 2 ^ (8 * j) := by
        rw [show 8 * m = 8 * (m - j - 1) + 8 + 8 * j from by omega, Int.pow_add, Int.pow_add]; rfl
      have hq : (0 : Int) < 2 ^ (8 * j) := Int.pow_pos (by omega)
      rw [hp, ← Int.mul_assoc, Int.add_mul_ediv_right _ _ (by omega), ← Int.mul_assoc, Int.add_mul_emod_self_right]
theorem put_get_back {l : List Int} (hl : IsB l) (at_ size n : Int) (h0 : 0 ≤ at_) (h1 : at_ + sz size ≤ l.length) : putL (putL l at_ size n) at_ size (getL l at_ size) = l := by
  apply List.ext_getElem (by simp [putL])
  intro i h2 h3
  rw [← getD_lt (d := 0) h2, putL_get _ _ _ _ _ (by rw [putL_length]; exact h3), putL_get _ _ _ _ _ h3, ← getD_lt (d := 0) h3]
  have hz := sz_le size
  split
  · rename_i hc
    unfold getL
    rw [getTo_digit hl _ h0 _ (by omega) _ (by omega), show (at_ + ((i - at_).toNat : Int)).toNat = i from by omega]
  · rfl
theorem and_mask (n : Int) (hn : 0 ≤ n) (hn' : n ≤ 18446744073709551615) (s : Int) (h0 : 0 < s) (hs : s < 8) : bits .and .u64 n (IntKind.u64.wrap (IntKind.u64.wrap (2 ^ (8 * s).toNat) - 1)) = n % 2 ^ (8 * s.toNat) := by
  have e : (8 * s).toNat = 8 * s.toNat := by omega
  rw [e]
  have hj : 8 * s.toNat ≤ 56 := by omega
  generalize 8 * s.toNat = j at hj
  obtain ⟨n, rfl⟩ := Int.eq_ofNat_of_zero_le hn
  have hq : (2 : Int) ^ j = ((2 ^ j : Nat) : Int) := by simp
  have hp : (2 : Nat) ^ j ≤ 2 ^ 56 := Nat.pow_le_pow_right (by decide) hj
  have hp0 : 0 < (2 : Nat) ^ j := Nat.pow_pos (by decide)
  have hm := Nat.and_two_pow_sub_one_eq_mod n j
  rw [hq]
  generalize (2 : Nat) ^ j = q at *
  have e1 : IntKind.u64.wrap (q : Int) = q := by rw [IntKind.wrap_u64]; omega
  have e2 : IntKind.u64.wrap ((q : Int) - 1) = ((q - 1 : Nat) : Int) := by rw [IntKind.wrap_u64]; omega
  rw [e1, e2, bits_and_u64_nat _ _ (by omega) (by omega), hm]
  omega
theorem get_put_small (l : List Int) (at_ s n : Int) (h0 : 0 ≤ at_) (h1 : at_ + s ≤ l.length) (hn : 0 ≤ n) (hs : 1 ≤ s) (hs' : s ≤ 8) : getL (putL l at_ s n) at_ s = n % 2 ^ (8 * s.toNat) := by
  have e : sz s = s := by unfold sz; omega
  unfold getL
  rw [e, getTo_put _ _ _ _ h0 (by omega) hn _ (by omega)]
theorem getL_bounds {l : List Int} (hl : IsB l) (at_ size : Int) : 0 ≤ getL l at_ size ∧ getL l at_ size ≤ 18446744073709551615 := by
  have hz := sz_le size
  have h := getTo_bounds hl at_ (sz size).toNat
  have hp : (2 : Int) ^ (8 * (sz size).toNat) ≤ 2 ^ 64 := by exact_mod_cast Nat.pow_le_pow_right (show 0 < 2 by decide) (show 8 * (sz size).toNat ≤ 64 by omega)
  unfold getL
  omega
theorem isB_put {l : List Int} (hl : IsB l) (at_ size n : Int) : IsB (putL l at_ size n) := by
  intro x hx
  obtain ⟨i, hi, rfl⟩ := List.getElem_of_mem hx
  have hi' : i < l.length := by simpa [putL] using hi
  rw [← getD_lt (d := 0) hi, putL_get _ _ _ _ _ hi']
  split
  · omega
  · exact hl.get i

/-- what the law CellBack does, from its cut on -/
theorem cellBack_walk (v : Value) (l : List Int) (at_ size n : Int) (w : World) (hv : Bs w v l) (ha : -9223372036854775808 ≤ at_) (ha' : at_ ≤ 9223372036854775807) (h3 : -9223372036854775808 ≤ size) (h4 : size ≤ 9223372036854775807)
    (hn : 0 ≤ n) (hn' : n ≤ 18446744073709551615) :
    Calls Try.prog 3 #[v, .int .i64 at_, .int .i64 size, .int .u64 n] w fun e w' => e = .returned (.bool true) ∧ Below w.heap.size w w' := by
  have hv' := hv
  obtain ⟨hl1, o, c, rfl, hlc, hcm, hon, hcell⟩ := hv
  unfold maxLen at hcm
  go_enter Try.func3, Try.ntmps3
  go_wp2_with fail
  refine (first1 w).mono ?_
  rintro e w1 ⟨rfl, hb1⟩
  by_cases hlen : l.length < 8 ∨ 40 < l.length
  · by_cases h8 : l.length < 8
    · go_wp2_with fail
      go_ret
      exact ⟨rfl, hb1⟩
    · go_wp2_with fail
      go_ret
      exact ⟨rfl, hb1⟩
  · have g1 : 8 ≤ l.length := by omega
    have g2 : l.length ≤ 40 := by omega
    clear hlen
    go_wp2_with fail
    refine (number size 8 w1 (by omega) (by omega) h3 h4).mono ?_
    rintro e w2 ⟨rfl, rfl⟩
    have hs1 := Int.emod_nonneg size (show (8 : Int) ≠ 0 by omega)
    have hs2 := Int.emod_lt_of_pos size (show (0 : Int) < 8 by omega)
    generalize size % 8 = s at hs1 hs2
    go_wp2_with fail
    refine (number at_ (l.length - (s + 1) + 1) w1 (by omega) (by omega) ha ha').mono ?_
    rintro e w2 ⟨rfl, rfl⟩
    have ht1 := Int.emod_nonneg at_ (show ((l.length : Int) - (s + 1) + 1) ≠ 0 by omega)
    have ht2 := Int.emod_lt_of_pos at_ (show (0 : Int) < ((l.length : Int) - (s + 1) + 1) by omega)
    generalize at_ % ((l.length : Int) - (s + 1) + 1) = t at ht1 ht2
    have hv1 := hv'.below hb1
    have hlen' : l.length ≤ 1000000000000 := by omega
    go_wp2_with fail
    refine (bytesRef _ l w1 hv1 hlen').mono ?_
    rintro e w2 ⟨was, rfl, hb2, hwas⟩
    have hv2 := hv1.below hb2
    go_wp2_with fail
    refine (put _ l t (s + 1) n w2 hv2 hlen' (by omega) (by omega) (by omega) (by omega) hn hn').mono ?_
    rintro e w3 ⟨x, rfl, hb3, hx⟩
    have hv3 := hv2.below hb3
    have hwas3 := hwas.below hb3
    obtain ⟨gx, cx, rfl, hx1, hx2, hx3, hx4⟩ := hx.row (ne_nil_of_lt (k := 0) (by rw [putL_length]; omega))
    have hx5 := hx.bs
    rw [putL_length] at *
    go_wp2_with fail
    refine (sameBytes _ _ l l w3 hv3 hwas3.bs).mono ?_
    rintro e w4 ⟨rfl, nd, rfl⟩
    have e1 : sameB l l = true := sameB_iff.2 rfl
    rw [e1]
    go_wp2_with fail
    have hbm3 : Below w.heap.size w w3 := (hb1.trans (hb2.mono hb1.size)).trans (hb3.mono (Nat.le_trans hb1.size hb2.size))
    have hx6 : ∀ m, Bs (w3.drewN m) (.slice (some ⟨gx, 0, none⟩) l.length cx) (putL l t (s + 1) n) := fun m => hx5.below (bdrew _ _ _)
    have hv6 : ∀ m, Bs (w3.drewN m) (.slice o l.length c) l := fun m => hv3.below (bdrew _ _ _)
    have hbm : ∀ m, Below w.heap.size w (w3.drewN m) := fun m => hbm3.trans (bdrew _ _ _)
    go_loopw [12] (fun i wr => ∃ k : Nat, i = .int .i64 k ∧ k ≤ l.length ∧ ∃ m, wr = w3.drewN m) (fun i _ => l.length - (intOf i).toNat)
    case atStart => exact ⟨0, rfl, by omega, _, rfl⟩
    case round =>
      obtain ⟨k, rfl, hk, m, rfl⟩ := hrel
      by_cases hlt : k < l.length
      · by_cases h1 : (k : Int) < t
        · obtain ⟨a, y, rfl, g0, hy, hy0, hy1⟩ := Bs.at_ hl1 hcell hlt
          clear hcell
          have g := g0
          rw [← hb1.cell (Below.lt g0), ← hb2.cell (by have := hb1.size; have := Below.lt g0; omega), ← hb3.cell (by have := hb1.size; have := hb2.size; have := Below.lt g0; omega)] at g
          have hxk := hx.cell (i := k) (by rw [putL_length]; exact hlt)
          rw [putL_get _ _ _ _ _ hlt, if_neg (by omega), hy.out] at hxk
          have d1 : decide ((k : Int) < t) = true := by simp; omega
          go_wp2
          go_quiet (fail)
          go_wp2
          go_roundw
          case rel => exact ⟨k + 1, by go_num, by omega, _, rfl⟩
          case measure => simp [intOf]; omega
        · by_cases h2 : t + (s + 1) ≤ k
          · obtain ⟨a, y, rfl, g0, hy, hy0, hy1⟩ := Bs.at_ hl1 hcell hlt
            clear hcell
            have g := g0
            rw [← hb1.cell (Below.lt g0), ← hb2.cell (by have := hb1.size; have := Below.lt g0; omega), ← hb3.cell (by have := hb1.size; have := hb2.size; have := Below.lt g0; omega)] at g
            have hxk := hx.cell (i := k) (by rw [putL_length]; exact hlt)
            rw [putL_get _ _ _ _ _ hlt, if_neg (by unfold sz; omega), hy.out] at hxk
            have d1 : decide ((k : Int) < t) = false := by simp; omega
            have d2 : decide (t + (s + 1) ≤ (k : Int)) = true := by simp; omega
            go_wp2
            go_quiet (fail)
            go_wp2
            go_roundw
            case rel => exact ⟨k + 1, by go_num, by omega, _, rfl⟩
            case measure => simp [intOf]; omega
          · have d1 : decide ((k : Int) < t) = false := by simp; omega
            have d2 : decide (t + (s + 1) ≤ (k : Int)) = false := by simp; omega
            go_wp2
            go_quiet (fail)
            go_wp2
            go_roundw
            case rel => exact ⟨k + 1, by go_num, by omega, _, rfl⟩
            case measure => simp [intOf]; omega
      · by_cases hs8 : s + 1 < 8
        · go_wp2_with fail
          rw [and_mask n hn hn' (s + 1) (by omega) hs8]
          refine (get _ _ t (s + 1) _ (hx6 m) (by rw [putL_length]; exact hlen') (by omega) (by omega) (by omega) (by omega)).mono ?_
          rintro e w5 ⟨rfl, rfl⟩
          rw [get_put_small l t (s + 1) n (by omega) (by omega) hn (by omega) (by omega)]
          generalize n % 2 ^ (8 * (s + 1).toNat) = q
          go_wp2_with fail
          refine (get _ _ t (s + 1) _ (hv6 m) hlen' (by omega) (by omega) (by omega) (by omega)).mono ?_
          rintro e w5 ⟨rfl, rfl⟩
          have hgb := getL_bounds hl1 t (s + 1)
          have hback := put_get_back hl1 t (s + 1) n (by omega) (by unfold sz; omega)
          have HB := Lib.hid hback
          clear hback
          generalize getL l t (s + 1) = g at hgb HB
          go_wp2_with fail
          refine (put _ (putL l t (s + 1) n) t (s + 1) g _ (hx6 m) (by rw [putL_length]; exact hlen') (by omega) (by omega) (by omega) (by omega) hgb.1 hgb.2).mono ?_
          rintro e w6 ⟨y, rfl, hb6, hy⟩
          rw [HB.out] at hy
          go_wp2_with fail
          refine (sameBytes _ _ l l w6 hy.bs ((hv6 m).below hb6)).mono ?_
          rintro e w7 ⟨rfl, nd7, rfl⟩
          rw [e1]
          go_wp2_with fail
          go_ret
          exact ⟨rfl, (hbm m).trans (hb6.mono (hbm m).size) |>.trans (bdrew _ _ _)⟩
        · obtain rfl : s = 7 := by omega
          go_wp2_with fail
          refine (get _ _ t 8 _ (hx6 m) (by rw [putL_length]; exact hlen') (by omega) (by omega) (by omega) (by omega)).mono ?_
          rintro e w5 ⟨rfl, rfl⟩
          have e8 := get_put_small l t 8 n (by omega) (by omega) hn (by omega) (by omega)
          rw [show n % 2 ^ (8 * Int.toNat 8) = n from Int.emod_eq_of_lt hn (by simp; omega)] at e8
          have X8 := Lib.hid e8
          clear e8
          simp only [show (7 : Int) + 1 = 8 from rfl] at *
          rw [X8.out]
          go_wp2_with fail
          refine (get _ _ t 8 _ (hv6 m) hlen' (by omega) (by omega) (by omega) (by omega)).mono ?_
          rintro e w5 ⟨rfl, rfl⟩
          have hgb := getL_bounds hl1 t 8
          have hback := put_get_back hl1 t 8 n (by omega) (by unfold sz; omega)
          have HB := Lib.hid hback
          clear hback
          generalize getL l t 8 = g at hgb HB
          go_wp2_with fail
          refine (put _ (putL l t 8 n) t 8 g _ (hx6 m) (by rw [putL_length]; exact hlen') (by omega) (by omega) (by omega) (by omega) hgb.1 hgb.2).mono ?_
          rintro e w6 ⟨y, rfl, hb6, hy⟩
          rw [HB.out] at hy
          go_wp2_with fail
          refine (sameBytes _ _ l l w6 hy.bs ((hv6 m).below hb6)).mono ?_
          rintro e w7 ⟨rfl, nd7, rfl⟩
          rw [e1]
          go_wp2_with fail
          go_ret
          exact ⟨rfl, ((hbm m).trans (hb6.mono (hbm m).size)).trans (bdrew _ _ _)⟩
end Go.Proofs.Ytebpgghhjaoonaa
