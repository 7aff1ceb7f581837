/- Plain laws on bytes: putting, getting, filling, joining. No program. -/
import Derived.Test.YtpgelebmhhcodaaBase
namespace Go.Proofs.Ytpgelebmhhcodaa
open Go.RowKit
set_option linter.unusedVariables false

/-- how many bytes a number of such a size takes -/
def sz (n : Int) : Int := min (max n 1) 8

theorem sz_le (n : Int) : 1 ≤ sz n ∧ sz n ≤ 8 := by unfold sz; omega

def putL (l : List Int) (at_ size n : Int) : List Int :=
  l.mapIdx fun k x => if at_ ≤ k ∧ (k : Int) < at_ + sz size then (n / 2 ^ (8 * (k - at_).toNat)) % 256 else x

/-- the same, as far as a place k -/
def putTo (l : List Int) (at_ size n : Int) (m : Nat) : List Int :=
  l.mapIdx fun k x => if at_ ≤ k ∧ (k : Int) < at_ + sz size ∧ k < m then (n / 2 ^ (8 * (k - at_).toNat)) % 256 else x

theorem putTo_length (l : List Int) (at_ size n : Int) (m : Nat) : (putTo l at_ size n m).length = l.length := by simp [putTo]

theorem putL_length (l : List Int) (at_ size n : Int) : (putL l at_ size n).length = l.length := by simp [putL]

theorem putTo_zero (l : List Int) (at_ size n : Int) (m : Nat) (h : (m : Int) ≤ max at_ 0) : putTo l at_ size n m = l := by
  apply List.ext_getElem (by simp [putTo])
  intro i h1 h2
  simp only [putTo, List.getElem_mapIdx]
  rw [if_neg (by omega)]

theorem putTo_all (l : List Int) (at_ size n : Int) (m : Nat) (h : min (at_ + sz size) l.length ≤ (m : Int)) : putTo l at_ size n m = putL l at_ size n := by
  apply List.ext_getElem (by simp [putTo, putL])
  intro i h1 h2
  have h3 : i < l.length := by simpa [putTo] using h1
  simp only [putTo, putL, List.getElem_mapIdx]
  congr 1
  simp only [eq_iff_iff]
  omega

theorem putTo_succ (l : List Int) (at_ size n : Int) (m : Nat) (h0 : at_ ≤ m) (h : (m : Int) < at_ + sz size) : (putTo l at_ size n m).set m ((n / 2 ^ (8 * (m - at_).toNat)) % 256) = putTo l at_ size n (m + 1) := by
  apply List.ext_getElem (by simp [putTo])
  intro i h1 h2
  simp only [putTo, List.getElem_set, List.getElem_mapIdx]
  by_cases e : m = i
  · subst e; rw [if_pos rfl, if_pos ⟨h0, h, by omega⟩]
  · rw [if_neg e]; congr 1; simp only [eq_iff_iff]; omega

theorem putL_none (l : List Int) (at_ size n : Int) (h : (l.length : Int) ≤ at_ ∨ at_ < -8) : putL l at_ size n = l := by
  have := sz_le size
  apply List.ext_getElem (by simp [putL])
  intro i h1 h2
  simp only [putL, List.getElem_mapIdx]
  rw [if_neg (by omega)]

theorem two_pow_56 {s : Nat} (h : s ≤ 56) : (2 : Int) ^ s ≤ 2 ^ 56 := by
  exact_mod_cast Nat.pow_le_pow_right (show 0 < 2 by decide) h

/-- the number that so many bytes from a place on are, the least first -/
def getTo (l : List Int) (at_ : Int) : Nat → Int
  | 0 => 0
  | m + 1 => getTo l at_ m + (if 0 ≤ at_ + m ∧ at_ + m < l.length then l.getD (at_ + m).toNat 0 * 2 ^ (8 * m) else 0)

def getL (l : List Int) (at_ size : Int) : Int := getTo l at_ (sz size).toNat

theorem getTo_bounds {l : List Int} (hl : IsB l) (at_ : Int) (m : Nat) : 0 ≤ getTo l at_ m ∧ getTo l at_ m < 2 ^ (8 * m) := by
  induction m with
  | zero => simp [getTo]
  | succ m ih =>
    have hp : (2 : Int) ^ (8 * (m + 1)) = 256 * 2 ^ (8 * m) := by rw [Nat.mul_add, Int.pow_add]; omega
    have hp0 : (0 : Int) < 2 ^ (8 * m) := Int.pow_pos (by omega)
    rw [getTo, hp]
    have h := hl.get (at_ + m).toNat
    generalize l.getD (at_ + m).toNat 0 = x at h ⊢
    generalize (2 : Int) ^ (8 * m) = p at *
    have h1 : 0 ≤ x * p := Int.mul_nonneg h.1 (by omega)
    have h2 : x * p ≤ 255 * p := Int.mul_le_mul_of_nonneg_right h.2 (by omega)
    split <;> omega

theorem getTo_zero (l : List Int) (at_ : Int) (m : Nat) (h : at_ + m ≤ max at_ 0) : getTo l at_ m = 0 := by
  induction m with
  | zero => rfl
  | succ m ih => rw [getTo, ih (by omega), if_neg (by omega)]; rfl

theorem getTo_ext (l : List Int) (at_ : Int) (m n : Nat) (hmn : m ≤ n) (h : ∀ i : Nat, m ≤ i → i < n → ¬ (0 ≤ at_ + i ∧ at_ + i < l.length)) : getTo l at_ n = getTo l at_ m := by
  induction n with
  | zero => rw [show m = 0 from by omega]
  | succ n ih =>
    by_cases e : m = n + 1
    · rw [e]
    · rw [getTo, ih (by omega) (fun i h1 h2 => h i h1 (by omega)), if_neg (h n (by omega) (by omega))]; omega

theorem getTo_all (l : List Int) (at_ : Int) (k : Nat) (z : Int) (hz : 1 ≤ z) (h0 : max at_ 0 ≤ k) (h1 : (k : Int) ≤ max (max at_ 0) (min (at_ + z) l.length)) (ha : at_ < l.length) (h : min (at_ + z) l.length ≤ k) : getTo l at_ (k - at_).toNat = getTo l at_ z.toNat := by
  by_cases hc : (k - at_).toNat ≤ z.toNat
  · exact (getTo_ext l at_ _ _ hc (fun i h2 h3 => by omega)).symm
  · exact getTo_ext l at_ _ _ (by omega) (fun i h2 h3 => by omega)

theorem getL_none (l : List Int) (at_ size : Int) (h : (l.length : Int) ≤ at_ ∨ at_ < -8) : getL l at_ size = 0 := by
  have hz := sz_le size
  have : ∀ m : Nat, m ≤ 8 → getTo l at_ m = 0 := by
    intro m hm
    induction m with
    | zero => rfl
    | succ m ih => rw [getTo, ih (by omega), if_neg (by omega)]; rfl
  exact this _ (by omega)

def allZ (l : List Int) : Bool := l.all (· == 0)

theorem allZ_iff {l : List Int} : allZ l = true ↔ ∀ x ∈ l, x = 0 := by simp [allZ]

theorem putL_get (l : List Int) (at_ size n : Int) (i : Nat) (hi : i < l.length) : (putL l at_ size n).getD i 0 = if at_ ≤ i ∧ (i : Int) < at_ + sz size then (n / 2 ^ (8 * (i - at_).toNat)) % 256 else l.getD i 0 := by
  rw [getD_lt (by rw [putL_length]; exact hi), getD_lt hi]
  simp [putL]

theorem getTo_put (l : List Int) (at_ size n : Int) (h0 : 0 ≤ at_) (h1 : at_ + sz size ≤ l.length) (hn : 0 ≤ n) (m : Nat) (hm : (m : Int) ≤ sz size) : getTo (putL l at_ size n) at_ m = n % 2 ^ (8 * m) := by
  induction m with
  | zero => simp [getTo]
  | succ m ih =>
    rw [getTo, ih (by omega), if_pos (by rw [putL_length]; omega), putL_get _ _ _ _ _ (by omega), if_pos (by omega)]
    have e : (((at_ + m).toNat : Int) - at_).toNat = m := by omega
    rw [e]
    have hp : (2 : Int) ^ (8 * (m + 1)) = 2 ^ (8 * m) * 256 := by rw [Nat.mul_add, Int.pow_add]; rfl
    rw [hp]
    have hq : (2 : Int) ^ (8 * m) = ((2 ^ (8 * m) : Nat) : Int) := by simp
    obtain ⟨n, rfl⟩ := Int.eq_ofNat_of_zero_le hn
    rw [hq]
    have := @Nat.mod_mul (2 ^ (8 * m)) 256 n
    generalize 2 ^ (8 * m) = q at *
    have h2 : ((n % (q * 256) : Nat) : Int) = ((n % q + q * (n / q % 256) : Nat) : Int) := by rw [this]
    simp only [Int.natCast_emod, Int.natCast_mul, Int.natCast_add, Int.natCast_ediv] at h2
    rw [Int.mul_comm _ (q : Int)]
    exact h2.symm

theorem getTo_digit {l : List Int} (hl : IsB l) (at_ : Int) (h0 : 0 ≤ at_) (m : Nat) (h1 : at_ + m ≤ l.length) (j : Nat) (hj : j < m) : (getTo l at_ m / 2 ^ (8 * j)) % 256 = l.getD (at_ + j).toNat 0 := by
  induction m with
  | zero => omega
  | succ m ih =>
    rw [getTo, if_pos (by omega)]
    have hb := getTo_bounds hl at_ m
    have hx := hl.get (at_ + m).toNat
    by_cases e : j = m
    · subst e
      have hp : (0 : Int) < 2 ^ (8 * j) := Int.pow_pos (by omega)
      rw [Int.add_mul_ediv_right _ _ (by omega), Int.ediv_eq_zero_of_lt hb.1 hb.2]
      omega
    · rw [← ih (by omega) (by omega)]
      have hp : (2 : Int) ^ (8 * m) = 2 ^ (8 * (m - j - 1)) * 256 * 2 ^ (8 * j) := by
        rw [show 8 * m = 8 * (m - j - 1) + 8 + 8 * j from by omega, Int.pow_add, Int.pow_add]; rfl
      have hq : (0 : Int) < 2 ^ (8 * j) := Int.pow_pos (by omega)
      rw [hp, ← Int.mul_assoc, Int.add_mul_ediv_right _ _ (by omega), ← Int.mul_assoc, Int.add_mul_emod_self_right]

theorem put_get_back {l : List Int} (hl : IsB l) (at_ size n : Int) (h0 : 0 ≤ at_) (h1 : at_ + sz size ≤ l.length) : putL (putL l at_ size n) at_ size (getL l at_ size) = l := by
  apply List.ext_getElem (by simp [putL])
  intro i h2 h3
  rw [← getD_lt (d := 0) h2, putL_get _ _ _ _ _ (by rw [putL_length]; exact h3), putL_get _ _ _ _ _ h3, ← getD_lt (d := 0) h3]
  have hz := sz_le size
  split
  · rename_i hc
    unfold getL
    rw [getTo_digit hl _ h0 _ (by omega) _ (by omega), show (at_ + ((i - at_).toNat : Int)).toNat = i from by omega]
  · rfl

theorem and_mask (n : Int) (hn : 0 ≤ n) (hn' : n ≤ 18446744073709551615) (s : Int) (h0 : 0 < s) (hs : s < 8) : bits .and .u64 n (IntKind.u64.wrap (IntKind.u64.wrap (2 ^ (8 * s).toNat) - 1)) = n % 2 ^ (8 * s.toNat) := by
  have e : (8 * s).toNat = 8 * s.toNat := by omega
  rw [e]
  have hj : 8 * s.toNat ≤ 56 := by omega
  generalize 8 * s.toNat = j at hj
  obtain ⟨n, rfl⟩ := Int.eq_ofNat_of_zero_le hn
  have hq : (2 : Int) ^ j = ((2 ^ j : Nat) : Int) := by simp
  have hp : (2 : Nat) ^ j ≤ 2 ^ 56 := Nat.pow_le_pow_right (by decide) hj
  have hp0 : 0 < (2 : Nat) ^ j := Nat.pow_pos (by decide)
  have hm := Nat.and_two_pow_sub_one_eq_mod n j
  rw [hq]
  generalize (2 : Nat) ^ j = q at *
  have e1 : IntKind.u64.wrap (q : Int) = q := by rw [IntKind.wrap_u64]; omega
  have e2 : IntKind.u64.wrap ((q : Int) - 1) = ((q - 1 : Nat) : Int) := by rw [IntKind.wrap_u64]; omega
  rw [e1, e2, bits_and_u64_nat _ _ (by omega) (by omega), hm]
  omega

theorem get_put_small (l : List Int) (at_ s n : Int) (h0 : 0 ≤ at_) (h1 : at_ + s ≤ l.length) (hn : 0 ≤ n) (hs : 1 ≤ s) (hs' : s ≤ 8) : getL (putL l at_ s n) at_ s = n % 2 ^ (8 * s.toNat) := by
  have e : sz s = s := by unfold sz; omega
  unfold getL
  rw [e, getTo_put _ _ _ _ h0 (by omega) hn _ (by omega)]

theorem getL_bounds {l : List Int} (hl : IsB l) (at_ size : Int) : 0 ≤ getL l at_ size ∧ getL l at_ size ≤ 18446744073709551615 := by
  have hz := sz_le size
  have h := getTo_bounds hl at_ (sz size).toNat
  have hp : (2 : Int) ^ (8 * (sz size).toNat) ≤ 2 ^ 64 := by exact_mod_cast Nat.pow_le_pow_right (show 0 < 2 by decide) (show 8 * (sz size).toNat ≤ 64 by omega)
  unfold getL
  omega

theorem isB_put {l : List Int} (hl : IsB l) (at_ size n : Int) : IsB (putL l at_ size n) := by
  intro x hx
  obtain ⟨i, hi, rfl⟩ := List.getElem_of_mem hx
  have hi' : i < l.length := by simpa [putL] using hi
  rw [← getD_lt (d := 0) hi, putL_get _ _ _ _ _ hi']
  split
  · omega
  · exact hl.get i

theorem getTo_congr {l l' : List Int} (at_ : Int) (m : Nat) (hlen : l.length = l'.length) (h : ∀ i : Nat, i < m → 0 ≤ at_ + i → l.getD (at_ + i).toNat 0 = l'.getD (at_ + i).toNat 0) : getTo l at_ m = getTo l' at_ m := by
  induction m with
  | zero => rfl
  | succ m ih =>
    rw [getTo, getTo, ih (fun i hi => h i (by omega)), hlen]
    split
    · rename_i hc; rw [h m (by omega) hc.1]
    · rfl

theorem get_put_other (l : List Int) (at_ b s n : Int) (h0 : 0 ≤ b) (hd : b + s ≤ at_) (hs : 1 ≤ s) (hs' : s ≤ 8) (hin : b + s ≤ l.length) : getL (putL l at_ s n) b s = getL l b s := by
  have e : sz s = s := by unfold sz; omega
  unfold getL
  rw [e]
  refine getTo_congr _ _ (putL_length _ _ _ _) fun i hi hb => ?_
  rw [putL_get _ _ _ _ _ (by omega), if_neg (by omega)]

/-- a list, and zeros up to a size -/
def fillL (l : List Int) (size : Int) : List Int := l ++ List.replicate (size - l.length).toNat 0

theorem fillL_length (l : List Int) (size : Int) : ((fillL l size).length : Int) = max (l.length : Int) size := by simp [fillL]; omega

theorem isB_fill {l : List Int} (h : IsB l) (size : Int) : IsB (fillL l size) := h.append (IsB.zeros _)

/-- the number's first k bytes put -/
def putN (l : List Int) (at_ n : Int) (k : Nat) : List Int :=
  l.mapIdx fun p x => if at_ ≤ p ∧ (p : Int) < at_ + k then (n / 2 ^ (8 * (p - at_).toNat)) % 256 else x

theorem putN_length (l : List Int) (at_ n : Int) (k : Nat) : (putN l at_ n k).length = l.length := by simp [putN]

theorem putN_zero (l : List Int) (at_ n : Int) : putN l at_ n 0 = l := by
  apply List.ext_getElem (by simp [putN])
  intro i h1 h2
  simp only [putN, List.getElem_mapIdx]
  rw [if_neg (by omega)]

theorem putN_all (l : List Int) (at_ size n : Int) : putN l at_ n (sz size).toNat = putL l at_ size n := by
  have := sz_le size
  unfold putN putL
  rw [Int.toNat_of_nonneg (by omega)]

theorem putN_in (l : List Int) (at_ n : Int) (k : Nat) (h0 : 0 ≤ at_ + k) (h1 : at_ + k < l.length) : (putN l at_ n k).set (at_ + k).toNat ((n / 2 ^ (8 * k)) % 256) = putN l at_ n (k + 1) := by
  apply List.ext_getElem (by simp [putN])
  intro i h2 h3
  simp only [putN, List.getElem_set, List.getElem_mapIdx]
  by_cases e : (at_ + k).toNat = i
  · rw [if_pos e, if_pos (by omega), show (i - at_).toNat = k from by omega]
  · rw [if_neg e]; congr 1; simp only [eq_iff_iff]; omega

theorem putN_out (l : List Int) (at_ n : Int) (k : Nat) (h : ¬ (0 ≤ at_ + k ∧ at_ + k < l.length)) : putN l at_ n k = putN l at_ n (k + 1) := by
  apply List.ext_getElem (by simp [putN])
  intro i h2 h3
  have h4 : i < l.length := by simpa [putN] using h2
  simp only [putN, List.getElem_mapIdx]
  congr 1; simp only [eq_iff_iff]; omega

theorem div_step (n : Int) (k : Nat) : n / 2 ^ (8 * k) / 256 = n / 2 ^ (8 * (k + 1)) := by
  rw [Nat.mul_add, Int.pow_add, ← Int.ediv_ediv_of_nonneg (Int.le_of_lt (Int.pow_pos (by decide)))]
  rfl

theorem div_bounds {n : Int} (hn : 0 ≤ n) (hn' : n ≤ 18446744073709551615) (k : Nat) : 0 ≤ n / 2 ^ (8 * k) ∧ n / 2 ^ (8 * k) ≤ 18446744073709551615 :=
  ⟨Int.ediv_nonneg hn (Int.le_of_lt (Int.pow_pos (by decide))), Int.le_trans (Int.ediv_le_self _ hn) hn'⟩

/-- the byte at a place, zero where there is none -/
def dig (l : List Int) (at_ : Int) (j : Nat) : Int := if 0 ≤ at_ + j ∧ at_ + j < l.length then l.getD (at_ + j).toNat 0 else 0

theorem dig_bounds {l : List Int} (hl : IsB l) (at_ : Int) (j : Nat) : 0 ≤ dig l at_ j ∧ dig l at_ j ≤ 255 := by
  unfold dig
  split
  · exact hl.get _
  · omega

theorem getTo_dig (l : List Int) (at_ : Int) (m : Nat) : getTo l at_ (m + 1) = getTo l at_ m + dig l at_ m * 2 ^ (8 * m) := by
  rw [getTo, dig]; split
  · rfl
  · simp

/-- the number that the bytes from j to z are -/
def hi (l : List Int) (at_ : Int) (z : Nat) : Nat → Int
  | 0 => 0
  | m + 1 => hi l at_ z m * 256 + dig l at_ (z - 1 - m)

theorem hi_getTo (l : List Int) (at_ : Int) (z m : Nat) (hm : m ≤ z) : getTo l at_ z = getTo l at_ (z - m) + 2 ^ (8 * (z - m)) * hi l at_ z m := by
  induction m with
  | zero => simp [hi]
  | succ m ih =>
    rw [ih (by omega), hi]
    obtain ⟨q, hq⟩ : ∃ q, z - m = q + 1 := ⟨z - m - 1, by omega⟩
    rw [hq, getTo_dig, show z - (m + 1) = q from by omega, show z - 1 - m = q from by omega]
    have hp : (2 : Int) ^ (8 * (q + 1)) = 2 ^ (8 * q) * 256 := by rw [Nat.mul_add, Int.pow_add]; rfl
    rw [hp, Int.mul_add, Int.mul_comm (dig l at_ q), Int.mul_assoc, Int.mul_comm 256]
    omega

theorem hi_bounds {l : List Int} (hl : IsB l) (at_ : Int) (z m : Nat) (hm : m ≤ 7) : 0 ≤ hi l at_ z m ∧ hi l at_ z m < 72057594037927936 := by
  have : ∀ m, 0 ≤ hi l at_ z m ∧ hi l at_ z m < 2 ^ (8 * m) := by
    intro m
    induction m with
    | zero => simp [hi]
    | succ m ih =>
      have hd := dig_bounds hl at_ (z - 1 - m)
      have hp : (2 : Int) ^ (8 * (m + 1)) = 2 ^ (8 * m) * 256 := by rw [Nat.mul_add, Int.pow_add]; rfl
      rw [hi, hp]
      generalize (2 : Int) ^ (8 * m) = p at *
      omega
  have h := this m
  have hp : (2 : Int) ^ (8 * m) ≤ 2 ^ 56 := two_pow_56 (by omega)
  omega

theorem or_low (h x : Int) (h0 : 0 ≤ h) (h1 : h < 72057594037927936) (hx : 0 ≤ x) (hx' : x ≤ 255) : bits .or .u64 (h * 256) x = h * 256 + x := by
  obtain ⟨b, rfl⟩ := Int.eq_ofNat_of_zero_le h0
  obtain ⟨a, rfl⟩ := Int.eq_ofNat_of_zero_le hx
  have e : (b : Int) * 256 = ((b * 256 : Nat) : Int) := by simp
  rw [e, bits_or_u64_nat _ _ (by omega) (by omega)]
  have := Nat.two_pow_add_eq_or_of_lt (b := a) (i := 8) (by omega) b
  rw [Nat.mul_comm b, show 256 = 2 ^ 8 from rfl, ← this]
  omega

theorem ob_cut {e : TypeId} {base : Nat} {w : World} {g n cap : Nat} {l : List Int} (h : Ob e base w (.slice (some ⟨g, 0, none⟩) n cap) l) (m : Nat) (hm : m ≤ l.length) :
    Ob e base w (.slice (some ⟨g, 0, none⟩) m cap) (l.take m) := by
  obtain rfl := h.len
  refine ⟨h.1.take m, by simp, ?_⟩
  rcases h.2.2 with ⟨h', _⟩ | ⟨g', cap', cur, h', hbg, hg, hnc, hcm, hcs, htake⟩
  · simp at h'
  · simp only [Value.slice.injEq, Option.some.injEq, Addr.mk.injEq, and_true, true_and] at h'
    obtain ⟨rfl, rfl⟩ := h'
    have hl : (l.take m).length = m := by rw [List.length_take]; omega
    refine .inr ⟨g, cap, cur, by rw [hl], hbg, hg, by omega, hcm, hcs, ?_⟩
    rw [hl, List.map_take, ← htake, List.take_take]
    congr 1; omega

theorem getL_ahead (l : List Int) (at_ : Int) (h : at_ ≤ -8) : getL l at_ 8 = 0 := by
  unfold getL
  have : ∀ m : Nat, m ≤ 8 → getTo l at_ m = 0 := by
    intro m hm
    induction m with
    | zero => rfl
    | succ m ih => rw [getTo, ih (by omega), if_neg (by omega)]; rfl
  exact this _ (by have := sz_le 8; omega)

theorem getL_size (l : List Int) (at_ s t : Int) (h : sz s = sz t) : getL l at_ s = getL l at_ t := by unfold getL; rw [h]

theorem flatten_part (L : List (List Int)) (k : Nat) (hk : k < L.length) :
    (L.flatten.take (((L.take k).flatten).length + (L.getD k []).length)).drop ((L.take k).flatten).length = L.getD k [] := by
  have e : L.flatten = (L.take k).flatten ++ (L.getD k [] ++ (L.drop (k + 1)).flatten) := by
    have h1 : L = L.take k ++ (L.getD k [] :: L.drop (k + 1)) := by
      rw [getD_lt hk, List.getElem_cons_drop]; exact (List.take_append_drop k L).symm
    conv => lhs; rw [h1]
    simp
  rw [e, List.take_length_add_append, List.drop_left, List.take_left]

theorem mono_step (f : Nat → Nat) (h : ∀ i, f i ≤ f (i + 1)) : ∀ i j, i ≤ j → f i ≤ f j := by
  intro i j hij
  induction j with
  | zero => rw [show i = 0 from by omega]; exact Nat.le_refl _
  | succ j ih =>
    by_cases e : i = j + 1
    · rw [e]; exact Nat.le_refl _
    · exact Nat.le_trans (ih (by omega)) (h j)

theorem ob_kept {e : TypeId} {base : Nat} {w w' : World} {v : Value} {l : List Int} {row : Option Nat} (h : Ob e base w v l) (hg : w.grownBy w' row) (hne : v.ownBlock = none ∨ v.ownBlock ≠ row) : Ob e base w' v l :=
  ⟨h.1, h.2.kept hg hne⟩
end Go.Proofs.Ytpgelebmhhcodaa
