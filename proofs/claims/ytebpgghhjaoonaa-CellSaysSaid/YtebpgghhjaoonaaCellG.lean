/- Contracts: the document's Put and Get. -/
import Derived.Test.YtebpgghhjaoonaaCellC
namespace Go.Proofs.Ytebpgghhjaoonaa
open Go.RowKit
set_option linter.unusedVariables false

theorem sizedRef (n : Int) (w : World) (h3 : -9223372036854775808 ≤ n) (h4 : n ≤ 9223372036854775807) :
    Calls Try.prog 26 #[.int .i64 n] w fun e w' => e = .returned (.int .i64 (sz n)) ∧ w = w' := by
  unfold sz
  go_enter Try.func26, Try.ntmps26
  go_wp2
  all_goals
    go_ret
    refine ⟨?_, rfl⟩
    simp only [Array.getD_eq_getD_getElem?]
    simp
    omega

/-- the number's first k bytes put -/
def putN (l : List Int) (at_ n : Int) (k : Nat) : List Int :=
  l.mapIdx fun p x => if at_ ≤ p ∧ (p : Int) < at_ + k then (n / 2 ^ (8 * (p - at_).toNat)) % 256 else x
theorem putN_length (l : List Int) (at_ n : Int) (k : Nat) : (putN l at_ n k).length = l.length := by simp [putN]
theorem putN_zero (l : List Int) (at_ n : Int) : putN l at_ n 0 = l := by
  apply List.ext_getElem (by simp [putN])
  intro i h1 h2
  simp only [putN, List.getElem_mapIdx]
  rw [if_neg (by omega)]
theorem putN_all (l : List Int) (at_ size n : Int) : putN l at_ n (sz size).toNat = putL l at_ size n := by
  have := sz_le size
  unfold putN putL
  rw [Int.toNat_of_nonneg (by omega)]
theorem putN_in (l : List Int) (at_ n : Int) (k : Nat) (h0 : 0 ≤ at_ + k) (h1 : at_ + k < l.length) : (putN l at_ n k).set (at_ + k).toNat ((n / 2 ^ (8 * k)) % 256) = putN l at_ n (k + 1) := by
  apply List.ext_getElem (by simp [putN])
  intro i h2 h3
  simp only [putN, List.getElem_set, List.getElem_mapIdx]
  by_cases e : (at_ + k).toNat = i
  · rw [if_pos e, if_pos (by omega), show (i - at_).toNat = k from by omega]
  · rw [if_neg e]; congr 1; simp only [eq_iff_iff]; omega
theorem putN_out (l : List Int) (at_ n : Int) (k : Nat) (h : ¬ (0 ≤ at_ + k ∧ at_ + k < l.length)) : putN l at_ n k = putN l at_ n (k + 1) := by
  apply List.ext_getElem (by simp [putN])
  intro i h2 h3
  have h4 : i < l.length := by simpa [putN] using h2
  simp only [putN, List.getElem_mapIdx]
  congr 1; simp only [eq_iff_iff]; omega
theorem div_step (n : Int) (k : Nat) : n / 2 ^ (8 * k) / 256 = n / 2 ^ (8 * (k + 1)) := by
  rw [Nat.mul_add, Int.pow_add, ← Int.ediv_ediv_of_nonneg (Int.le_of_lt (Int.pow_pos (by decide)))]
  rfl
theorem div_bounds {n : Int} (hn : 0 ≤ n) (hn' : n ≤ 18446744073709551615) (k : Nat) : 0 ≤ n / 2 ^ (8 * k) ∧ n / 2 ^ (8 * k) ≤ 18446744073709551615 :=
  ⟨Int.ediv_nonneg hn (Int.le_of_lt (Int.pow_pos (by decide))), Int.le_trans (Int.ediv_le_self _ hn) hn'⟩

theorem putRef (v : Value) (l : List Int) (at_ size n : Int) (w : World) (hv : Bs w v l) (hl : l.length ≤ 1000000000000) (ha : -9223372036854775808 ≤ at_) (ha' : at_ ≤ 9223372036854775807) (h3 : -9223372036854775808 ≤ size) (h4 : size ≤ 9223372036854775807)
    (hn : 0 ≤ n) (hn' : n ≤ 18446744073709551615) :
    Calls Try.prog 16 #[v, .int .i64 at_, .int .i64 size, .int .u64 n] w fun e w' => ∃ v', e = .returned v' ∧ Below w.heap.size w w' ∧ Ob 5 w.heap.size w' v' (putL l at_ size n) := by
  have hz := sz_le size
  go_enter Try.func16, Try.ntmps16
  go_wp2_with fail
  refine (bytesRef _ l _ hv hl).mono ?_
  rintro e w1 ⟨v', rfl, hb, hob⟩
  go_wp2_with fail
  go_loopw [3, 10] (fun q i wr => ∃ k : Nat, i = .int .i64 k ∧ (k : Int) ≤ sz size ∧ q = .int .u64 (n / 2 ^ (8 * k)) ∧ Below w.heap.size w wr ∧ Ob 5 w.heap.size wr v' (putN l at_ n k)) (fun _ i _ => (8 - intOf i).toNat)
  case atStart => exact ⟨0, rfl, by omega, by simp, hb, by rw [putN_zero]; exact hob⟩
  case round =>
    obtain ⟨k, rfl, hk, rfl, hbr, hobr⟩ := hrel
    by_cases hlt : (k : Int) < sz size
    · have hds := div_step n k
      have hdb := div_bounds hn hn' k
      by_cases hin : 0 ≤ at_ + k ∧ at_ + k < l.length
      · have hst := putN_in l at_ n k hin.1 hin.2
        have HST := Lib.hid hst
        have HDS := Lib.hid hds
        clear hst hds
        have hne : putN l at_ n k ≠ [] := by intro e; have := putN_length l at_ n k; rw [e] at this; simp at this; omega
        obtain ⟨g, cap, rfl, hg1, hg2, _, _⟩ := hobr.row hne
        have hc := hobr.cell (i := (at_ + k).toNat) (by rw [putN_length]; omega)
        have hf := hobr.frozen (at_ + k).toNat
        have hs := hobr.set (at_ + k).toNat (x := n / 2 ^ (8 * k) % 256) (by omega) (by omega)
        rw [HST.out] at hs
        rw [putN_length] at *
        generalize (putN l at_ n k).getD (at_ + k).toNat 0 = x0 at hc
        generalize n / 2 ^ (8 * k) = q at hdb HST HDS hs
        have d1 : decide (-(k : Int) ≤ at_) = true := by simp; omega
        have d2 : decide (at_ < (l.length : Int) - k) = true := by simp; omega
        have i0 : 0 ≤ at_ + (k : Int) := hin.1
        have i1 : at_ + (k : Int) < l.length := hin.2
        clear hin
        go_wp2_with (first | (go_at_call 26; (with_reducible refine (sizedRef size _ h3 h4).mono ?_); rintro e w' ⟨rfl, rfl⟩))
        go_roundw
        case rel => exact ⟨k + 1, by go_num, by omega, by rw [HDS.out], hbr.setCell hg1 _, hs⟩
        case measure => simp [intOf]; omega
      · have hst := putN_out l at_ n k hin
        rw [hst] at hobr
        have HDS := Lib.hid hds
        clear hst hds
        generalize n / 2 ^ (8 * k) = q at hdb HDS
        have hob2 := hobr
        obtain ⟨_, o', c', rfl, hlc', hcm', _, _⟩ := hobr.bs
        rw [putN_length] at *
        unfold maxLen at hcm'
        by_cases h1 : -(k : Int) ≤ at_
        · have d1 : decide (-(k : Int) ≤ at_) = true := by simp; omega
          have d2 : decide (at_ < (l.length : Int) - k) = false := by simp; omega
          clear hin
          go_wp2_with (first | (go_at_call 26; (with_reducible refine (sizedRef size _ h3 h4).mono ?_); rintro e w' ⟨rfl, rfl⟩))
          go_roundw
          case rel => exact ⟨k + 1, by go_num, by omega, by rw [HDS.out], hbr, hob2⟩
          case measure => simp [intOf]; omega
        · have d1 : decide (-(k : Int) ≤ at_) = false := by simp; omega
          clear hin
          go_wp2_with (first | (go_at_call 26; (with_reducible refine (sizedRef size _ h3 h4).mono ?_); rintro e w' ⟨rfl, rfl⟩))
          go_roundw
          case rel => exact ⟨k + 1, by go_num, by omega, by rw [HDS.out], hbr, hob2⟩
          case measure => simp [intOf]; omega
    · have hfin : putN l at_ n k = putL l at_ size n := by rw [← putN_all, show (sz size).toNat = k from by omega]
      rw [hfin] at hobr
      go_wp2_with (first | (go_at_call 26; (with_reducible refine (sizedRef size _ h3 h4).mono ?_); rintro e w' ⟨rfl, rfl⟩))
      go_ret
      exact ⟨_, rfl, hbr, hobr⟩

/-- the byte at a place, zero where there is none -/
def dig (l : List Int) (at_ : Int) (j : Nat) : Int := if 0 ≤ at_ + j ∧ at_ + j < l.length then l.getD (at_ + j).toNat 0 else 0
theorem dig_bounds {l : List Int} (hl : IsB l) (at_ : Int) (j : Nat) : 0 ≤ dig l at_ j ∧ dig l at_ j ≤ 255 := by
  unfold dig
  split
  · exact hl.get _
  · omega
theorem getTo_dig (l : List Int) (at_ : Int) (m : Nat) : getTo l at_ (m + 1) = getTo l at_ m + dig l at_ m * 2 ^ (8 * m) := by
  rw [getTo, dig]; split
  · rfl
  · simp
/-- the number that the bytes from j to z are -/
def hi (l : List Int) (at_ : Int) (z : Nat) : Nat → Int
  | 0 => 0
  | m + 1 => hi l at_ z m * 256 + dig l at_ (z - 1 - m)
theorem hi_getTo (l : List Int) (at_ : Int) (z m : Nat) (hm : m ≤ z) : getTo l at_ z = getTo l at_ (z - m) + 2 ^ (8 * (z - m)) * hi l at_ z m := by
  induction m with
  | zero => simp [hi]
  | succ m ih =>
    rw [ih (by omega), hi]
    obtain ⟨q, hq⟩ : ∃ q, z - m = q + 1 := ⟨z - m - 1, by omega⟩
    rw [hq, getTo_dig, show z - (m + 1) = q from by omega, show z - 1 - m = q from by omega]
    have hp : (2 : Int) ^ (8 * (q + 1)) = 2 ^ (8 * q) * 256 := by rw [Nat.mul_add, Int.pow_add]; rfl
    rw [hp, Int.mul_add, Int.mul_comm (dig l at_ q), Int.mul_assoc, Int.mul_comm 256]
    omega
theorem hi_bounds {l : List Int} (hl : IsB l) (at_ : Int) (z m : Nat) (hm : m ≤ 7) : 0 ≤ hi l at_ z m ∧ hi l at_ z m < 72057594037927936 := by
  have : ∀ m, 0 ≤ hi l at_ z m ∧ hi l at_ z m < 2 ^ (8 * m) := by
    intro m
    induction m with
    | zero => simp [hi]
    | succ m ih =>
      have hd := dig_bounds hl at_ (z - 1 - m)
      have hp : (2 : Int) ^ (8 * (m + 1)) = 2 ^ (8 * m) * 256 := by rw [Nat.mul_add, Int.pow_add]; rfl
      rw [hi, hp]
      generalize (2 : Int) ^ (8 * m) = p at *
      omega
  have h := this m
  have hp : (2 : Int) ^ (8 * m) ≤ 2 ^ 56 := two_pow_56 (by omega)
  omega
theorem or_low (h x : Int) (h0 : 0 ≤ h) (h1 : h < 72057594037927936) (hx : 0 ≤ x) (hx' : x ≤ 255) : bits .or .u64 (h * 256) x = h * 256 + x := by
  obtain ⟨b, rfl⟩ := Int.eq_ofNat_of_zero_le h0
  obtain ⟨a, rfl⟩ := Int.eq_ofNat_of_zero_le hx
  have e : (b : Int) * 256 = ((b * 256 : Nat) : Int) := by simp
  rw [e, bits_or_u64_nat _ _ (by omega) (by omega)]
  have := Nat.two_pow_add_eq_or_of_lt (b := a) (i := 8) (by omega) b
  rw [Nat.mul_comm b, show 256 = 2 ^ 8 from rfl, ← this]
  omega

theorem getRef (v : Value) (l : List Int) (at_ size : Int) (w : World) (hv : Bs w v l) (hl : l.length ≤ 1000000000000) (ha : -9223372036854775808 ≤ at_) (ha' : at_ ≤ 9223372036854775807) (h3 : -9223372036854775808 ≤ size) (h4 : size ≤ 9223372036854775807) :
    Calls Try.prog 17 #[v, .int .i64 at_, .int .i64 size] w fun e w' => e = .returned (.int .u64 (getL l at_ size)) ∧ w = w' := by
  have hv' := hv
  obtain ⟨hl1, o, c, rfl, hlc, hcm, hon, hcell⟩ := hv
  unfold maxLen at hcm
  have hz := sz_le size
  have hfin : hi l at_ (sz size).toNat (sz size).toNat = getL l at_ size := by
    have := hi_getTo l at_ (sz size).toNat (sz size).toNat (Nat.le_refl _)
    simp [getTo] at this
    unfold getL; omega
  have HFIN := Lib.hid hfin
  clear hfin
  have hsz := fun w => sizedRef size w h3 h4
  generalize sz size = z at hz HFIN hsz
  go_enter Try.func17, Try.ntmps17
  go_wp2_with fail
  refine (hsz w).mono ?_
  rintro e w' ⟨rfl, rfl⟩
  go_wp2_with fail
  go_loop [7, 8] (fun n i => ∃ m : Nat, (m : Int) ≤ z ∧ i = .int .i64 (z - 1 - m) ∧ n = .int .u64 (hi l at_ z.toNat m)) (fun _ i => (intOf i + 1).toNat)
  case atStart => exact ⟨0, by omega, by congr 1; omega, rfl⟩
  case round =>
    obtain ⟨m, hm, rfl, rfl⟩ := hrel
    by_cases hlt : (m : Int) < z
    · have hb := hi_bounds hl1 at_ z.toNat m (by omega)
      obtain ⟨j, hj⟩ : ∃ j : Nat, z.toNat - 1 - m = j := ⟨_, rfl⟩
      have hst : hi l at_ z.toNat (m + 1) = hi l at_ z.toNat m * 256 + dig l at_ j := by rw [hi, hj]
      have hz2 : z - 1 - (m : Int) = j := by omega
      rw [hz2]
      have HJ := Lib.hid hz2
      have hjz : (j : Int) ≤ 7 := by omega
      have hj2 : (j : Int) - 1 = z - 1 - ((m + 1 : Nat) : Int) := by omega
      have HJ2 := Lib.hid hj2
      have HST := Lib.hid hst
      clear hst hz2 hj hj2
      generalize hi l at_ z.toNat m = q at hb HST
      have hsh : IntKind.u64.wrap (q * 256) = q * 256 := by rw [IntKind.wrap_u64]; omega
      by_cases hin : 0 ≤ at_ + j ∧ at_ + j < l.length
      · obtain ⟨a, x, rfl, g, hx, hx0, hx1⟩ := Bs.at_ hl1 hcell (k := (at_ + j).toNat) (by omega)
        have hd : dig l at_ j = x := by unfold dig; rw [if_pos hin]; exact hx.out
        have HD := Lib.hid hd
        have hor := or_low q x hb.1 hb.2 hx0 hx1
        have d1 : decide (-(j : Int) ≤ at_) = true := by simp; omega
        have d2 : decide (at_ < (l.length : Int) - j) = true := by simp; omega
        have i0 : 0 ≤ at_ + (j : Int) := hin.1
        have i1 : at_ + (j : Int) < l.length := hin.2
        clear hin hcell hd
        go_wp2_with fail
        go_round
        case rel => exact ⟨m + 1, by omega, by rw [← HJ2.out], by rw [HST.out, HD.out]⟩
        case measure => simp [intOf]
      · have hd : dig l at_ j = 0 := by unfold dig; rw [if_neg hin]
        have HD := Lib.hid hd
        clear hd hcell
        by_cases h1 : -(j : Int) ≤ at_
        · have d1 : decide (-(j : Int) ≤ at_) = true := by simp; omega
          have d2 : decide (at_ < (l.length : Int) - j) = false := by simp; omega
          clear hin
          go_wp2_with fail
          go_round
          case rel => exact ⟨m + 1, by omega, by rw [← HJ2.out], by rw [HST.out, HD.out]; simp⟩
          case measure => simp [intOf]
        · have d1 : decide (-(j : Int) ≤ at_) = false := by simp; omega
          clear hin
          go_wp2_with fail
          go_round
          case rel => exact ⟨m + 1, by omega, by rw [← HJ2.out], by rw [HST.out, HD.out]; simp⟩
          case measure => simp [intOf]
    · have hm2 : z.toNat = m := by omega
      have hx := HFIN.out
      have HX : Hid (hi l at_ z.toNat m = getL l at_ size) := by rw [← hx, hm2]; rfl
      clear hx hm2
      go_wp2_with fail
      go_ret
      exact ⟨by rw [← HX.out]; rfl, rfl⟩
end Go.Proofs.Ytebpgghhjaoonaa
