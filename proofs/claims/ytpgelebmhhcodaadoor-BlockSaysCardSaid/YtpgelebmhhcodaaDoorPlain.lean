/- Plain laws on bytes: putting, getting, filling, joining. No program. -/
import Derived.Test.YtpgelebmhhcodaaDoorBase
namespace Go.Proofs.YtpgelebmhhcodaaDoor
open Go.RowKit
set_option linter.unusedVariables false

/-- how many bytes a number of such a size takes -/
def sz (n : Int) : Int := min (max n 1) 8

theorem sz_le (n : Int) : 1 ≤ sz n ∧ sz n ≤ 8 := by unfold sz; omega

def putL (l : List Int) (at_ size n : Int) : List Int :=
  l.mapIdx fun k x => if at_ ≤ k ∧ (k : Int) < at_ + sz size then (n / 2 ^ (8 * (k - at_).toNat)) % 256 else x

/-- the same, as far as a place k -/
def putTo (l : List Int) (at_ size n : Int) (m : Nat) : List Int :=
  l.mapIdx fun k x => if at_ ≤ k ∧ (k : Int) < at_ + sz size ∧ k < m then (n / 2 ^ (8 * (k - at_).toNat)) % 256 else x

theorem putTo_length (l : List Int) (at_ size n : Int) (m : Nat) : (putTo l at_ size n m).length = l.length := by simp [putTo]

theorem putL_length (l : List Int) (at_ size n : Int) : (putL l at_ size n).length = l.length := by simp [putL]

theorem putTo_zero (l : List Int) (at_ size n : Int) (m : Nat) (h : (m : Int) ≤ max at_ 0) : putTo l at_ size n m = l := by
  apply List.ext_getElem (by simp [putTo])
  intro i h1 h2
  simp only [putTo, List.getElem_mapIdx]
  rw [if_neg (by omega)]

theorem putTo_all (l : List Int) (at_ size n : Int) (m : Nat) (h : min (at_ + sz size) l.length ≤ (m : Int)) : putTo l at_ size n m = putL l at_ size n := by
  apply List.ext_getElem (by simp [putTo, putL])
  intro i h1 h2
  have h3 : i < l.length := by simpa [putTo] using h1
  simp only [putTo, putL, List.getElem_mapIdx]
  congr 1
  simp only [eq_iff_iff]
  omega

theorem putTo_succ (l : List Int) (at_ size n : Int) (m : Nat) (h0 : at_ ≤ m) (h : (m : Int) < at_ + sz size) : (putTo l at_ size n m).set m ((n / 2 ^ (8 * (m - at_).toNat)) % 256) = putTo l at_ size n (m + 1) := by
  apply List.ext_getElem (by simp [putTo])
  intro i h1 h2
  simp only [putTo, List.getElem_set, List.getElem_mapIdx]
  by_cases e : m = i
  · subst e; rw [if_pos rfl, if_pos ⟨h0, h, by omega⟩]
  · rw [if_neg e]; congr 1; simp only [eq_iff_iff]; omega

theorem putL_none (l : List Int) (at_ size n : Int) (h : (l.length : Int) ≤ at_ ∨ at_ < -8) : putL l at_ size n = l := by
  have := sz_le size
  apply List.ext_getElem (by simp [putL])
  intro i h1 h2
  simp only [putL, List.getElem_mapIdx]
  rw [if_neg (by omega)]

theorem two_pow_56 {s : Nat} (h : s ≤ 56) : (2 : Int) ^ s ≤ 2 ^ 56 := by
  exact_mod_cast Nat.pow_le_pow_right (show 0 < 2 by decide) h

/-- the number that so many bytes from a place on are, the least first -/
def getTo (l : List Int) (at_ : Int) : Nat → Int
  | 0 => 0
  | m + 1 => getTo l at_ m + (if 0 ≤ at_ + m ∧ at_ + m < l.length then l.getD (at_ + m).toNat 0 * 2 ^ (8 * m) else 0)

def getL (l : List Int) (at_ size : Int) : Int := getTo l at_ (sz size).toNat

theorem getTo_bounds {l : List Int} (hl : IsB l) (at_ : Int) (m : Nat) : 0 ≤ getTo l at_ m ∧ getTo l at_ m < 2 ^ (8 * m) := by
  induction m with
  | zero => simp [getTo]
  | succ m ih =>
    have hp : (2 : Int) ^ (8 * (m + 1)) = 256 * 2 ^ (8 * m) := by rw [Nat.mul_add, Int.pow_add]; omega
    have hp0 : (0 : Int) < 2 ^ (8 * m) := Int.pow_pos (by omega)
    rw [getTo, hp]
    have h := hl.get (at_ + m).toNat
    generalize l.getD (at_ + m).toNat 0 = x at h ⊢
    generalize (2 : Int) ^ (8 * m) = p at *
    have h1 : 0 ≤ x * p := Int.mul_nonneg h.1 (by omega)
    have h2 : x * p ≤ 255 * p := Int.mul_le_mul_of_nonneg_right h.2 (by omega)
    split <;> omega

theorem getTo_zero (l : List Int) (at_ : Int) (m : Nat) (h : at_ + m ≤ max at_ 0) : getTo l at_ m = 0 := by
  induction m with
  | zero => rfl
  | succ m ih => rw [getTo, ih (by omega), if_neg (by omega)]; rfl

theorem getTo_ext (l : List Int) (at_ : Int) (m n : Nat) (hmn : m ≤ n) (h : ∀ i : Nat, m ≤ i → i < n → ¬ (0 ≤ at_ + i ∧ at_ + i < l.length)) : getTo l at_ n = getTo l at_ m := by
  induction n with
  | zero => rw [show m = 0 from by omega]
  | succ n ih =>
    by_cases e : m = n + 1
    · rw [e]
    · rw [getTo, ih (by omega) (fun i h1 h2 => h i h1 (by omega)), if_neg (h n (by omega) (by omega))]; omega

theorem getTo_all (l : List Int) (at_ : Int) (k : Nat) (z : Int) (hz : 1 ≤ z) (h0 : max at_ 0 ≤ k) (h1 : (k : Int) ≤ max (max at_ 0) (min (at_ + z) l.length)) (ha : at_ < l.length) (h : min (at_ + z) l.length ≤ k) : getTo l at_ (k - at_).toNat = getTo l at_ z.toNat := by
  by_cases hc : (k - at_).toNat ≤ z.toNat
  · exact (getTo_ext l at_ _ _ hc (fun i h2 h3 => by omega)).symm
  · exact getTo_ext l at_ _ _ (by omega) (fun i h2 h3 => by omega)

theorem getL_none (l : List Int) (at_ size : Int) (h : (l.length : Int) ≤ at_ ∨ at_ < -8) : getL l at_ size = 0 := by
  have hz := sz_le size
  have : ∀ m : Nat, m ≤ 8 → getTo l at_ m = 0 := by
    intro m hm
    induction m with
    | zero => rfl
    | succ m ih => rw [getTo, ih (by omega), if_neg (by omega)]; rfl
  exact this _ (by omega)

def allZ (l : List Int) : Bool := l.all (· == 0)

theorem allZ_iff {l : List Int} : allZ l = true ↔ ∀ x ∈ l, x = 0 := by simp [allZ]

theorem putL_get (l : List Int) (at_ size n : Int) (i : Nat) (hi : i < l.length) : (putL l at_ size n).getD i 0 = if at_ ≤ i ∧ (i : Int) < at_ + sz size then (n / 2 ^ (8 * (i - at_).toNat)) % 256 else l.getD i 0 := by
  rw [getD_lt (by rw [putL_length]; exact hi), getD_lt hi]
  simp [putL]

theorem getTo_put (l : List Int) (at_ size n : Int) (h0 : 0 ≤ at_) (h1 : at_ + sz size ≤ l.length) (hn : 0 ≤ n) (m : Nat) (hm : (m : Int) ≤ sz size) : getTo (putL l at_ size n) at_ m = n % 2 ^ (8 * m) := by
  induction m with
  | zero => simp [getTo]
  | succ m ih =>
    rw [getTo, ih (by omega), if_pos (by rw [putL_length]; omega), putL_get _ _ _ _ _ (by omega), if_pos (by omega)]
    have e : (((at_ + m).toNat : Int) - at_).toNat = m := by omega
    rw [e]
    have hp : (2 : Int) ^ (8 * (m + 1)) = 2 ^ (8 * m) * 256 := by rw [Nat.mul_add, Int.pow_add]; rfl
    rw [hp]
    have hq : (2 : Int) ^ (8 * m) = ((2 ^ (8 * m) : Nat) : Int) := by simp
    obtain ⟨n, rfl⟩ := Int.eq_ofNat_of_zero_le hn
    rw [hq]
    have := @Nat.mod_mul (2 ^ (8 * m)) 256 n
    generalize 2 ^ (8 * m) = q at *
    have h2 : ((n % (q * 256) : Nat) : Int) = ((n % q + q * (n / q % 256) : Nat) : Int) := by rw [this]
    simp only [Int.natCast_emod, Int.natCast_mul, Int.natCast_add, Int.natCast_ediv] at h2
    rw [Int.mul_comm _ (q : Int)]
    exact h2.symm

theorem getTo_digit {l : List Int} (hl : IsB l) (at_ : Int) (h0 : 0 ≤ at_) (m : Nat) (h1 : at_ + m ≤ l.length) (j : Nat) (hj : j < m) : (getTo l at_ m / 2 ^ (8 * j)) % 256 = l.getD (at_ + j).toNat 0 := by
  induction m with
  | zero => omega
  | succ m ih =>
    rw [getTo, if_pos (by omega)]
    have hb := getTo_bounds hl at_ m
    have hx := hl.get (at_ + m).toNat
    by_cases e : j = m
    · subst e
      have hp : (0 : Int) < 2 ^ (8 * j) := Int.pow_pos (by omega)
      rw [Int.add_mul_ediv_right _ _ (by omega), Int.ediv_eq_zero_of_lt hb.1 hb.2]
      omega
    · rw [← ih (by omega) (by omega)]
      have hp : (2 : Int) ^ (8 * m) = 2 ^ (8 * (m - j - 1)) * 256 * 2 ^ (8 * j) := by
        rw [show 8 * m = 8 * (m - j - 1) + 8 + 8 * j from by omega, Int.pow_add, Int.pow_add]; rfl
      have hq : (0 : Int) < 2 ^ (8 * j) := Int.pow_pos (by omega)
      rw [hp, ← Int.mul_assoc, Int.add_mul_ediv_right _ _ (by omega), ← Int.mul_assoc, Int.add_mul_emod_self_right]

theorem put_get_back {l : List Int} (hl : IsB l) (at_ size n : Int) (h0 : 0 ≤ at_) (h1 : at_ + sz size ≤ l.length) : putL (putL l at_ size n) at_ size (getL l at_ size) = l := by
  apply List.ext_getElem (by simp [putL])
  intro i h2 h3
  rw [← getD_lt (d := 0) h2, putL_get _ _ _ _ _ (by rw [putL_length]; exact h3), putL_get _ _ _ _ _ h3, ← getD_lt (d := 0) h3]
  have hz := sz_le size
  split
  · rename_i hc
    unfold getL
    rw [getTo_digit hl _ h0 _ (by omega) _ (by omega), show (at_ + ((i - at_).toNat : Int)).toNat = i from by omega]
  · rfl

theorem and_mask (n : Int) (hn : 0 ≤ n) (hn' : n ≤ 18446744073709551615) (s : Int) (h0 : 0 < s) (hs : s < 8) : bits .and .u64 n (IntKind.u64.wrap (IntKind.u64.wrap (2 ^ (8 * s).toNat) - 1)) = n % 2 ^ (8 * s.toNat) := by
  have e : (8 * s).toNat = 8 * s.toNat := by omega
  rw [e]
  have hj : 8 * s.toNat ≤ 56 := by omega
  generalize 8 * s.toNat = j at hj
  obtain ⟨n, rfl⟩ := Int.eq_ofNat_of_zero_le hn
  have hq : (2 : Int) ^ j = ((2 ^ j : Nat) : Int) := by simp
  have hp : (2 : Nat) ^ j ≤ 2 ^ 56 := Nat.pow_le_pow_right (by decide) hj
  have hp0 : 0 < (2 : Nat) ^ j := Nat.pow_pos (by decide)
  have hm := Nat.and_two_pow_sub_one_eq_mod n j
  rw [hq]
  generalize (2 : Nat) ^ j = q at *
  have e1 : IntKind.u64.wrap (q : Int) = q := by rw [IntKind.wrap_u64]; omega
  have e2 : IntKind.u64.wrap ((q : Int) - 1) = ((q - 1 : Nat) : Int) := by rw [IntKind.wrap_u64]; omega
  rw [e1, e2, bits_and_u64_nat _ _ (by omega) (by omega), hm]
  omega

theorem get_put_small (l : List Int) (at_ s n : Int) (h0 : 0 ≤ at_) (h1 : at_ + s ≤ l.length) (hn : 0 ≤ n) (hs : 1 ≤ s) (hs' : s ≤ 8) : getL (putL l at_ s n) at_ s = n % 2 ^ (8 * s.toNat) := by
  have e : sz s = s := by unfold sz; omega
  unfold getL
  rw [e, getTo_put _ _ _ _ h0 (by omega) hn _ (by omega)]

theorem getL_bounds {l : List Int} (hl : IsB l) (at_ size : Int) : 0 ≤ getL l at_ size ∧ getL l at_ size ≤ 18446744073709551615 := by
  have hz := sz_le size
  have h := getTo_bounds hl at_ (sz size).toNat
  have hp : (2 : Int) ^ (8 * (sz size).toNat) ≤ 2 ^ 64 := by exact_mod_cast Nat.pow_le_pow_right (show 0 < 2 by decide) (show 8 * (sz size).toNat ≤ 64 by omega)
  unfold getL
  omega

theorem isB_put {l : List Int} (hl : IsB l) (at_ size n : Int) : IsB (putL l at_ size n) := by
  intro x hx
  obtain ⟨i, hi, rfl⟩ := List.getElem_of_mem hx
  have hi' : i < l.length := by simpa [putL] using hi
  rw [← getD_lt (d := 0) hi, putL_get _ _ _ _ _ hi']
  split
  · omega
  · exact hl.get i

theorem getTo_congr {l l' : List Int} (at_ : Int) (m : Nat) (hlen : l.length = l'.length) (h : ∀ i : Nat, i < m → 0 ≤ at_ + i → l.getD (at_ + i).toNat 0 = l'.getD (at_ + i).toNat 0) : getTo l at_ m = getTo l' at_ m := by
  induction m with
  | zero => rfl
  | succ m ih =>
    rw [getTo, getTo, ih (fun i hi => h i (by omega)), hlen]
    split
    · rename_i hc; rw [h m (by omega) hc.1]
    · rfl

theorem get_put_other (l : List Int) (at_ b s n : Int) (h0 : 0 ≤ b) (hd : b + s ≤ at_) (hs : 1 ≤ s) (hs' : s ≤ 8) (hin : b + s ≤ l.length) : getL (putL l at_ s n) b s = getL l b s := by
  have e : sz s = s := by unfold sz; omega
  unfold getL
  rw [e]
  refine getTo_congr _ _ (putL_length _ _ _ _) fun i hi hb => ?_
  rw [putL_get _ _ _ _ _ (by omega), if_neg (by omega)]

/-- a list, and zeros up to a size -/
def fillL (l : List Int) (size : Int) : List Int := l ++ List.replicate (size - l.length).toNat 0

theorem fillL_length (l : List Int) (size : Int) : ((fillL l size).length : Int) = max (l.length : Int) size := by simp [fillL]; omega

theorem isB_fill {l : List Int} (h : IsB l) (size : Int) : IsB (fillL l size) := h.append (IsB.zeros _)

/-- the number's first k bytes put -/
def putN (l : List Int) (at_ n : Int) (k : Nat) : List Int :=
  l.mapIdx fun p x => if at_ ≤ p ∧ (p : Int) < at_ + k then (n / 2 ^ (8 * (p - at_).toNat)) % 256 else x

theorem putN_length (l : List Int) (at_ n : Int) (k : Nat) : (putN l at_ n k).length = l.length := by simp [putN]

theorem putN_zero (l : List Int) (at_ n : Int) : putN l at_ n 0 = l := by
  apply List.ext_getElem (by simp [putN])
  intro i h1 h2
  simp only [putN, List.getElem_mapIdx]
  rw [if_neg (by omega)]

theorem putN_all (l : List Int) (at_ size n : Int) : putN l at_ n (sz size).toNat = putL l at_ size n := by
  have := sz_le size
  unfold putN putL
  rw [Int.toNat_of_nonneg (by omega)]

theorem putN_in (l : List Int) (at_ n : Int) (k : Nat) (h0 : 0 ≤ at_ + k) (h1 : at_ + k < l.length) : (putN l at_ n k).set (at_ + k).toNat ((n / 2 ^ (8 * k)) % 256) = putN l at_ n (k + 1) := by
  apply List.ext_getElem (by simp [putN])
  intro i h2 h3
  simp only [putN, List.getElem_set, List.getElem_mapIdx]
  by_cases e : (at_ + k).toNat = i
  · rw [if_pos e, if_pos (by omega), show (i - at_).toNat = k from by omega]
  · rw [if_neg e]; congr 1; simp only [eq_iff_iff]; omega

theorem putN_out (l : List Int) (at_ n : Int) (k : Nat) (h : ¬ (0 ≤ at_ + k ∧ at_ + k < l.length)) : putN l at_ n k = putN l at_ n (k + 1) := by
  apply List.ext_getElem (by simp [putN])
  intro i h2 h3
  have h4 : i < l.length := by simpa [putN] using h2
  simp only [putN, List.getElem_mapIdx]
  congr 1; simp only [eq_iff_iff]; omega

theorem div_step (n : Int) (k : Nat) : n / 2 ^ (8 * k) / 256 = n / 2 ^ (8 * (k + 1)) := by
  rw [Nat.mul_add, Int.pow_add, ← Int.ediv_ediv_of_nonneg (Int.le_of_lt (Int.pow_pos (by decide)))]
  rfl

theorem div_bounds {n : Int} (hn : 0 ≤ n) (hn' : n ≤ 18446744073709551615) (k : Nat) : 0 ≤ n / 2 ^ (8 * k) ∧ n / 2 ^ (8 * k) ≤ 18446744073709551615 :=
  ⟨Int.ediv_nonneg hn (Int.le_of_lt (Int.pow_pos (by decide))), Int.le_trans (Int.ediv_le_self _ hn) hn'⟩

/-- the byte at a place, zero where there is none -/
def dig (l : List Int) (at_ : Int) (j : Nat) : Int := if 0 ≤ at_ + j ∧ at_ + j < l.length then l.getD (at_ + j).toNat 0 else 0

theorem dig_bounds {l : List Int} (hl : IsB l) (at_ : Int) (j : Nat) : 0 ≤ dig l at_ j ∧ dig l at_ j ≤ 255 := by
  unfold dig
  split
  · exact hl.get _
  · omega

theorem getTo_dig (l : List Int) (at_ : Int) (m : Nat) : getTo l at_ (m + 1) = getTo l at_ m + dig l at_ m * 2 ^ (8 * m) := by
  rw [getTo, dig]; split
  · rfl
  · simp

/-- the number that the bytes from j to z are -/
def hi (l : List Int) (at_ : Int) (z : Nat) : Nat → Int
  | 0 => 0
  | m + 1 => hi l at_ z m * 256 + dig l at_ (z - 1 - m)

theorem hi_getTo (l : List Int) (at_ : Int) (z m : Nat) (hm : m ≤ z) : getTo l at_ z = getTo l at_ (z - m) + 2 ^ (8 * (z - m)) * hi l at_ z m := by
  induction m with
  | zero => simp [hi]
  | succ m ih =>
    rw [ih (by omega), hi]
    obtain ⟨q, hq⟩ : ∃ q, z - m = q + 1 := ⟨z - m - 1, by omega⟩
    rw [hq, getTo_dig, show z - (m + 1) = q from by omega, show z - 1 - m = q from by omega]
    have hp : (2 : Int) ^ (8 * (q + 1)) = 2 ^ (8 * q) * 256 := by rw [Nat.mul_add, Int.pow_add]; rfl
    rw [hp, Int.mul_add, Int.mul_comm (dig l at_ q), Int.mul_assoc, Int.mul_comm 256]
    omega

theorem hi_bounds {l : List Int} (hl : IsB l) (at_ : Int) (z m : Nat) (hm : m ≤ 7) : 0 ≤ hi l at_ z m ∧ hi l at_ z m < 72057594037927936 := by
  have : ∀ m, 0 ≤ hi l at_ z m ∧ hi l at_ z m < 2 ^ (8 * m) := by
    intro m
    induction m with
    | zero => simp [hi]
    | succ m ih =>
      have hd := dig_bounds hl at_ (z - 1 - m)
      have hp : (2 : Int) ^ (8 * (m + 1)) = 2 ^ (8 * m) * 256 := by rw [Nat.mul_add, Int.pow_add]; rfl
      rw [hi, hp]
      generalize (2 : Int) ^ (8 * m) = p at *
      omega
  have h := this m
  have hp : (2 : Int) ^ (8 * m) ≤ 2 ^ 56 := two_pow_56 (by omega)
  omega

theorem or_low (h x : Int) (h0 : 0 ≤ h) (h1 : h < 72057594037927936) (hx : 0 ≤ x) (hx' : x ≤ 255) : bits .or .u64 (h * 256) x = h * 256 + x := by
  obtain ⟨b, rfl⟩ := Int.eq_ofNat_of_zero_le h0
  obtain ⟨a, rfl⟩ := Int.eq_ofNat_of_zero_le hx
  have e : (b : Int) * 256 = ((b * 256 : Nat) : Int) := by simp
  rw [e, bits_or_u64_nat _ _ (by omega) (by omega)]
  have := Nat.two_pow_add_eq_or_of_lt (b := a) (i := 8) (by omega) b
  rw [Nat.mul_comm b, show 256 = 2 ^ 8 from rfl, ← this]
  omega

theorem ob_cut {e : TypeId} {base : Nat} {w : World} {g n cap : Nat} {l : List Int} (h : Ob e base w (.slice (some ⟨g, 0, none⟩) n cap) l) (m : Nat) (hm : m ≤ l.length) :
    Ob e base w (.slice (some ⟨g, 0, none⟩) m cap) (l.take m) := by
  obtain rfl := h.len
  refine ⟨h.1.take m, by simp, ?_⟩
  rcases h.2.2 with ⟨h', _⟩ | ⟨g', cap', cur, h', hbg, hg, hnc, hcm, hcs, htake⟩
  · simp at h'
  · simp only [Value.slice.injEq, Option.some.injEq, Addr.mk.injEq, and_true, true_and] at h'
    obtain ⟨rfl, rfl⟩ := h'
    have hl : (l.take m).length = m := by rw [List.length_take]; omega
    refine .inr ⟨g, cap, cur, by rw [hl], hbg, hg, by omega, hcm, hcs, ?_⟩
    rw [hl, List.map_take, ← htake, List.take_take]
    congr 1; omega

theorem getL_ahead (l : List Int) (at_ : Int) (h : at_ ≤ -8) : getL l at_ 8 = 0 := by
  unfold getL
  have : ∀ m : Nat, m ≤ 8 → getTo l at_ m = 0 := by
    intro m hm
    induction m with
    | zero => rfl
    | succ m ih => rw [getTo, ih (by omega), if_neg (by omega)]; rfl
  exact this _ (by have := sz_le 8; omega)

theorem getL_size (l : List Int) (at_ s t : Int) (h : sz s = sz t) : getL l at_ s = getL l at_ t := by unfold getL; rw [h]

theorem flatten_part (L : List (List Int)) (k : Nat) (hk : k < L.length) :
    (L.flatten.take (((L.take k).flatten).length + (L.getD k []).length)).drop ((L.take k).flatten).length = L.getD k [] := by
  have e : L.flatten = (L.take k).flatten ++ (L.getD k [] ++ (L.drop (k + 1)).flatten) := by
    have h1 : L = L.take k ++ (L.getD k [] :: L.drop (k + 1)) := by
      rw [getD_lt hk, List.getElem_cons_drop]; exact (List.take_append_drop k L).symm
    conv => lhs; rw [h1]
    simp
  rw [e, List.take_length_add_append, List.drop_left, List.take_left]

theorem mono_step (f : Nat → Nat) (h : ∀ i, f i ≤ f (i + 1)) : ∀ i j, i ≤ j → f i ≤ f j := by
  intro i j hij
  induction j with
  | zero => rw [show i = 0 from by omega]; exact Nat.le_refl _
  | succ j ih =>
    by_cases e : i = j + 1
    · rw [e]; exact Nat.le_refl _
    · exact Nat.le_trans (ih (by omega)) (h j)

theorem ob_kept {e : TypeId} {base : Nat} {w w' : World} {v : Value} {l : List Int} {row : Option Nat} (h : Ob e base w v l) (hg : w.grownBy w' row) (hne : v.ownBlock = none ∨ v.ownBlock ≠ row) : Ob e base w' v l :=
  ⟨h.1, h.2.kept hg hne⟩

structure RecD where
  kind : Int
  txn : Int
  page : Int
  prev : Int
  next : Int
  key : Int
  had : Bool
  has : Bool
  old : Int
  new : Int
deriving DecidableEq

def I64 (n : Int) : Prop := -9223372036854775808 ≤ n ∧ n ≤ 9223372036854775807

/-- its numbers are of their kinds -/
structure RecD.W (r : RecD) : Prop where
  kind : I64 r.kind
  txn : I64 r.txn
  page : I64 r.page
  prev : I64 r.prev
  next : I64 r.next
  key : I64 r.key
  old : I64 r.old
  new : I64 r.new

/-- the record as a value -/
def recV (r : RecD) : Value := .agg #[.int .i64 r.kind, .int .i64 r.txn, .int .i64 r.page, .int .i64 r.prev, .int .i64 r.next, .int .i64 r.key, .bool r.had, .bool r.has, .int .i64 r.old, .int .i64 r.new]

def inB (n lo hi : Int) : Bool := decide (lo ≤ n) && decide (n ≤ hi)
def prevB (r : RecD) : Bool := if r.kind = 1 ∨ r.kind = 7 ∨ r.kind = 10 then r.prev == 0 else if r.kind = 9 then inB r.prev 1 1073741824 else inB r.prev 0 1073741824
def nextB (r : RecD) : Bool := if r.kind = 3 ∨ r.kind = 8 then inB r.next 0 1073741824 else if r.kind = 10 then inB r.next 0 60000 else r.next == 0
def keyB (r : RecD) : Bool := if r.kind = 2 ∨ r.kind = 3 then inB r.key 0 1048575 else if r.kind = 8 then inB r.key 0 2 else r.key == 0
def valsB (r : RecD) : Bool :=
  if (r.has = false ∧ r.new ≠ 0) ∨ (r.had = false ∧ r.old ≠ 0) then false
  else if r.kind = 2 then r.had || r.has
  else if r.kind = 3 then r.had && (decide (1 ≤ r.old) && decide (r.old ≤ 1073741824))
  else !r.had && !r.has
def txnTop (r : RecD) : Int := if (1 ≤ r.kind ∧ r.kind ≤ 6) ∨ r.kind = 8 then 60000 else 0
def pageTop (r : RecD) : Int := if r.kind = 2 ∨ r.kind = 3 ∨ r.kind = 9 then 32 else 0
/-- whether a record may be -/
def okR (r : RecD) : Bool :=
  inB r.kind 1 10 && (inB r.txn (min (txnTop r) 1) (txnTop r) && (inB r.page (min (pageTop r) 1) (pageTop r) && (prevB r && (nextB r && (keyB r && valsB r)))))

def flagsR (r : RecD) : Int := (if r.had then 1 else 0) + (if r.has then 2 else 0)
def u64 (n : Int) : Int := n % 18446744073709551616
/-- its bytes -/
def recB (r : RecD) : List Int :=
  putL (putL (putL (putL (putL (putL (putL (putL (putL (List.replicate 40 0) 0 1 (u64 r.kind)) 1 1 (flagsR r)) 2 2 (u64 r.txn)) 4 2 (u64 r.page)) 8 4 (u64 r.prev)) 12 4 (u64 r.next)) 16 4 (u64 r.key)) 24 8 (u64 r.old)) 32 8 (u64 r.new)
def i64 (n : Int) : Int := if n < 9223372036854775808 then n else n - 18446744073709551616
/-- the record that bytes are, if they are one -/
def recOf (b : List Int) : RecD :=
  { kind := getL b 0 1, txn := getL b 2 2, page := getL b 4 2, prev := getL b 8 4, next := getL b 12 4, key := getL b 16 4, had := b.getD 1 0 % 2 == 1, has := b.getD 1 0 / 2 % 2 == 1, old := i64 (getL b 24 8), new := i64 (getL b 32 8) }

/-- the numbers, side by side: where, how many bytes, which -/
def recAt (k : Nat) : Int := [0, 1, 2, 4, 8, 12, 16, 24, 32].getD k 0
def recSz (k : Nat) : Int := [1, 1, 2, 2, 4, 4, 4, 8, 8].getD k 0
def recNo (r : RecD) (k : Nat) : Int := [u64 r.kind, flagsR r, u64 r.txn, u64 r.page, u64 r.prev, u64 r.next, u64 r.key, u64 r.old, u64 r.new].getD k 0
/-- the first k of them put -/
def recTo (r : RecD) : Nat → List Int
  | 0 => List.replicate 40 0
  | k + 1 => putL (recTo r k) (recAt k) (recSz k) (recNo r k)
theorem recTo_all (r : RecD) : recTo r 9 = recB r := rfl
theorem recTo_length (r : RecD) (k : Nat) : (recTo r k).length = 40 := by
  induction k with
  | zero => simp [recTo]
  | succ k ih => rw [recTo, putL_length, ih]
theorem recAt_bounds (k : Nat) (hk : k < 9) : 0 ≤ recAt k ∧ recAt k ≤ 32 ∧ 1 ≤ recSz k ∧ recSz k ≤ 8 := by
  match k, hk with
  | 0, _ | 1, _ | 2, _ | 3, _ | 4, _ | 5, _ | 6, _ | 7, _ | 8, _ => decide
  | k + 9, h => omega
theorem recNo_bounds (r : RecD) (k : Nat) (hk : k < 9) : 0 ≤ recNo r k ∧ recNo r k ≤ 18446744073709551615 := by
  have h : ∀ n, 0 ≤ u64 n ∧ u64 n ≤ 18446744073709551615 := fun n => by unfold u64; omega
  have hf : 0 ≤ flagsR r ∧ flagsR r ≤ 18446744073709551615 := by unfold flagsR; cases r.had <;> cases r.has <;> decide
  match k, hk with
  | 0, _ => exact h _
  | 1, _ => exact hf
  | 2, _ => exact h _
  | 3, _ => exact h _
  | 4, _ => exact h _
  | 5, _ => exact h _
  | 6, _ => exact h _
  | 7, _ => exact h _
  | 8, _ => exact h _
  | k + 9, h => omega

theorem recB_length (r : RecD) : (recB r).length = 40 := by simp [recB, putL_length]
theorem isB_recB (r : RecD) : IsB (recB r) := by 
  unfold recB
  exact isB_put (isB_put (isB_put (isB_put (isB_put (isB_put (isB_put (isB_put (isB_put (IsB.zeros 40) _ _ _) _ _ _) _ _ _) _ _ _) _ _ _) _ _ _) _ _ _) _ _ _) _ _ _
theorem get_put_after (l : List Int) (at_ t b s n : Int) (hb : 0 ≤ b) (hd : at_ + t ≤ b) (ht : 1 ≤ t) (ht' : t ≤ 8) (hs : 1 ≤ s) (hs' : s ≤ 8) (hin : b + s ≤ l.length) : getL (putL l at_ t n) b s = getL l b s := by
  have e : sz s = s := by unfold sz; omega
  have e2 : sz t = t := by unfold sz; omega
  unfold getL
  rw [e]
  refine getTo_congr _ _ (putL_length _ _ _ _) fun i hi hb => ?_
  rw [putL_get _ _ _ _ _ (by omega), if_neg (by omega)]
theorem get_put_before (l : List Int) (at_ t b s n : Int) (hb : 0 ≤ b) (hd : b + s ≤ at_) (hs : 1 ≤ s) (hs' : s ≤ 8) (hin : b + s ≤ l.length) : getL (putL l at_ t n) b s = getL l b s := by
  have e : sz s = s := by unfold sz; omega
  unfold getL
  rw [e]
  refine getTo_congr _ _ (putL_length _ _ _ _) fun i hi hb => ?_
  rw [putL_get _ _ _ _ _ (by omega), if_neg (by omega)]
/-- a byte behind or ahead of what is put -/
theorem putL_other (l : List Int) (at_ t n : Int) (i : Nat) (hi : i < l.length) (h : (i : Int) < at_ ∨ at_ + t ≤ i) (ht : 1 ≤ t) (ht' : t ≤ 8) : (putL l at_ t n).getD i 0 = l.getD i 0 := by
  have e2 : sz t = t := by unfold sz; omega
  rw [putL_get _ _ _ _ _ hi, if_neg (by omega)]

theorem getL_smallN {l : List Int} (hl : IsB l) (at_ size : Int) (hs : size = 1 ∨ size = 2 ∨ size = 4) : 0 ≤ getL l at_ size ∧ getL l at_ size < 4294967296 := by
  unfold getL
  rcases hs with rfl | rfl | rfl
  · have := getTo_bounds hl at_ 1
    have e : (sz 1).toNat = 1 := by decide
    rw [e]; omega
  · have := getTo_bounds hl at_ 2
    have e : (sz 2).toNat = 2 := by decide
    rw [e]; omega
  · have := getTo_bounds hl at_ 4
    have e : (sz 4).toNat = 4 := by decide
    rw [e]; omega
theorem getL_eightN {l : List Int} (hl : IsB l) (at_ : Int) : 0 ≤ getL l at_ 8 ∧ getL l at_ 8 < 18446744073709551616 := getTo_bounds hl at_ 8

theorem bits_and_u8_natN (a b : Nat) (ha : a < 256) (hb : b < 256) : bits .and .u8 (a : Int) (b : Int) = ((a &&& b : Nat) : Int) := by
  have hx : a &&& b < 2 ^ 8 := Nat.and_lt_two_pow _ (by omega)
  have h1 : (BitVec.ofInt 8 (a : Int)).toNat = a := by
    rw [BitVec.ofInt_natCast, BitVec.toNat_ofNat]; exact Nat.mod_eq_of_lt (by omega)
  have h2 : (BitVec.ofInt 8 (b : Int)).toNat = b := by
    rw [BitVec.ofInt_natCast, BitVec.toNat_ofNat]; exact Nat.mod_eq_of_lt (by omega)
  show IntKind.u8.wrap ((BitVec.ofInt 8 (a : Int) &&& BitVec.ofInt 8 (b : Int)).toNat : Int) = _
  rw [BitVec.toNat_and, h1, h2, IntKind.wrap_u8]
  omega
theorem and_oneN (x : Int) (h0 : 0 ≤ x) (h1 : x ≤ 255) : bits .and .u8 x 1 = x % 2 := by
  obtain ⟨a, rfl⟩ := Int.eq_ofNat_of_zero_le h0
  rw [show (1 : Int) = ((1 : Nat) : Int) from rfl, bits_and_u8_natN _ _ (by omega) (by omega), Nat.and_one_is_mod]
  omega
theorem and_twoN (x : Int) (h0 : 0 ≤ x) (h1 : x ≤ 255) : bits .and .u8 x 2 = x / 2 % 2 * 2 := by
  obtain ⟨a, rfl⟩ := Int.eq_ofNat_of_zero_le h0
  rw [show (2 : Int) = ((2 : Nat) : Int) from rfl, bits_and_u8_natN _ _ (by omega) (by omega)]
  have ha : a < 256 := by omega
  have h : ∀ a : Fin 256, a.val &&& 2 = a.val / 2 % 2 * 2 := by decide +kernel
  have := h ⟨a, ha⟩
  simp only at this
  rw [this]
  omega

/-- the record of a number, in a log -/
def recAtN (base : Int) (L : List RecD) (lsn : Int) : Option RecD := if base < lsn ∧ lsn ≤ base + L.length then L[(lsn - base - 1).toNat]? else none

theorem recAtN_none {base : Int} {L : List RecD} {lsn : Int} (h : lsn ≤ base ∨ base + L.length < lsn) : recAtN base L lsn = none := by unfold recAtN; rw [if_neg (by omega)]
theorem recAtN_some {base : Int} {L : List RecD} {lsn : Int} (h1 : base < lsn) (h2 : lsn ≤ base + L.length) : ∃ r, recAtN base L lsn = some r ∧ r ∈ L ∧ L[(lsn - base - 1).toNat]? = some r := by
  unfold recAtN
  rw [if_pos ⟨h1, h2⟩]
  have hlt : (lsn - base - 1).toNat < L.length := by omega
  exact ⟨L[(lsn - base - 1).toNat], List.getElem?_eq_getElem hlt, List.getElem_mem hlt, List.getElem?_eq_getElem hlt⟩
theorem recAtN_lt {base : Int} {L : List RecD} {lsn : Int} {r : RecD} (h : recAtN base L lsn = some r) : base < lsn ∧ lsn ≤ base + L.length := by
  unfold recAtN at h
  split at h
  · assumption
  · simp at h
theorem recAtN_append {base : Int} {L M : List RecD} {lsn : Int} (h : lsn ≤ base + L.length) : recAtN base (L ++ M) lsn = recAtN base L lsn := by
  unfold recAtN
  by_cases h1 : base < lsn
  · rw [if_pos ⟨h1, by simp; omega⟩, if_pos ⟨h1, h⟩, List.getElem?_append_left (by omega)]
  · rw [if_neg (by omega), if_neg (by omega)]

/-- a Clr, a Commit, an Abort goes on -/
def goesOn (r : RecD) : Prop := r.kind = 3 ∨ r.kind = 4 ∨ r.kind = 5
instance (r : RecD) : Decidable (goesOn r) := by unfold goesOn; exact inferInstance
def onOf (r : RecD) : Int := if r.kind = 3 then r.next else r.prev

/-- the change that is to be undone next; where an error is -/
def normF (base : Int) (L : List RecD) : Nat → Int → Int × Option Int
  | 0, _ => (0, none)
  | n + 1, lsn =>
    if lsn = 0 then (0, none) else
    match recAtN base L lsn with
    | none => (0, some lsn)
    | some r => if r.kind = 2 then (lsn, none) else if r.kind = 1 then (0, none) else if goesOn r then (if onOf r ≥ lsn then (0, some lsn) else normF base L n (onOf r)) else (0, some lsn)
theorem normF_more {base : Int} {L : List RecD} (hb : 0 ≤ base) : ∀ (n m : Nat) (lsn : Int), lsn.toNat < n → lsn.toNat < m → normF base L n lsn = normF base L m lsn := by
  intro n
  induction n with
  | zero => intro m lsn h; omega
  | succ n ih =>
    intro m lsn h1 h2
    obtain ⟨m, rfl⟩ : ∃ k, m = k + 1 := ⟨m - 1, by omega⟩
    unfold normF
    by_cases h0 : lsn = 0
    · rw [if_pos h0, if_pos h0]
    · rw [if_neg h0, if_neg h0]
      cases hr : recAtN base L lsn with
      | none => rfl
      | some r =>
        have hlt := recAtN_lt hr
        dsimp only
        by_cases hge : onOf r ≥ lsn
        · rw [if_pos hge, if_pos hge]
        · rw [if_neg hge, if_neg hge, ih m (onOf r) (by omega) (by omega)]
def norm (base : Int) (L : List RecD) (lsn : Int) : Int × Option Int := normF base L (lsn.toNat + 1) lsn
theorem norm_zero (base : Int) (L : List RecD) : norm base L 0 = (0, none) := by unfold norm normF; rw [if_pos rfl]
theorem norm_none {base : Int} {L : List RecD} {lsn : Int} (h0 : lsn ≠ 0) (h : recAtN base L lsn = none) : norm base L lsn = (0, some lsn) := by unfold norm normF; rw [if_neg h0, h]
theorem norm_set {base : Int} {L : List RecD} {lsn : Int} {r : RecD} (h0 : lsn ≠ 0) (h : recAtN base L lsn = some r) (hk : r.kind = 2) : norm base L lsn = (lsn, none) := by unfold norm normF; rw [if_neg h0, h]; dsimp only; rw [if_pos hk]
theorem norm_begin {base : Int} {L : List RecD} {lsn : Int} {r : RecD} (h0 : lsn ≠ 0) (h : recAtN base L lsn = some r) (hk : r.kind = 1) : norm base L lsn = (0, none) := by unfold norm normF; rw [if_neg h0, h]; dsimp only; rw [if_neg (by omega), if_pos hk]
theorem norm_other {base : Int} {L : List RecD} {lsn : Int} {r : RecD} (h0 : lsn ≠ 0) (h : recAtN base L lsn = some r) (h1 : r.kind ≠ 1) (h2 : r.kind ≠ 2) (h3 : ¬ goesOn r) : norm base L lsn = (0, some lsn) := by unfold norm normF; rw [if_neg h0, h]; dsimp only; rw [if_neg h2, if_neg h1, if_neg h3]
theorem norm_back {base : Int} {L : List RecD} {lsn : Int} {r : RecD} (h0 : lsn ≠ 0) (h : recAtN base L lsn = some r) (hk : goesOn r) (hge : lsn ≤ onOf r) : norm base L lsn = (0, some lsn) := by
  unfold norm normF; rw [if_neg h0, h]; dsimp only; have hk' := hk; unfold goesOn at hk'; rw [if_neg (by omega), if_neg (by omega), if_pos hk, if_pos hge]
theorem norm_on {base : Int} {L : List RecD} {lsn : Int} {r : RecD} (hb : 0 ≤ base) (h0 : lsn ≠ 0) (h : recAtN base L lsn = some r) (hk : goesOn r) (hge : onOf r < lsn) : norm base L lsn = norm base L (onOf r) := by
  have hlt := recAtN_lt h
  have e : norm base L lsn = normF base L lsn.toNat (onOf r) := by
    unfold norm
    conv => lhs; unfold normF
    rw [if_neg h0, h]; dsimp only
    have hk' := hk
    unfold goesOn at hk'
    rw [if_neg (by omega), if_neg (by omega), if_pos hk, if_neg (by omega)]
  rw [e]
  unfold norm
  exact normF_more hb _ _ _ (by omega) (by omega)
/-- what it comes to stands there, and is a change -/
theorem norm_found {base : Int} {L : List RecD} (hb : 0 ≤ base) : ∀ (n : Nat) (lsn : Int), lsn.toNat < n → ∀ k, norm base L lsn = (k, none) → k = 0 ∨ (k ≤ lsn ∧ base < k ∧ ∃ r, recAtN base L k = some r ∧ r.kind = 2) := by
  intro n
  induction n with
  | zero => intro lsn h; omega
  | succ n ih =>
    intro lsn hn k hk
    by_cases h0 : lsn = 0
    · rw [h0, norm_zero] at hk; simp at hk; exact .inl hk.symm
    · cases hr : recAtN base L lsn with
      | none => rw [norm_none h0 hr] at hk; simp at hk
      | some r =>
        have hlt := recAtN_lt hr
        by_cases h2 : r.kind = 2
        · rw [norm_set h0 hr h2] at hk
          simp at hk
          subst hk
          exact .inr ⟨Int.le_refl _, hlt.1, r, hr, h2⟩
        · by_cases h1 : r.kind = 1
          · rw [norm_begin h0 hr h1] at hk; simp at hk; exact .inl hk.symm
          · by_cases h3 : goesOn r
            · by_cases hge : lsn ≤ onOf r
              · rw [norm_back h0 hr h3 hge] at hk; simp at hk
              · rw [norm_on hb h0 hr h3 (by omega)] at hk
                rcases ih (onOf r) (by omega) k hk with h | ⟨h, h'⟩
                · exact .inl h
                · exact .inr ⟨by omega, h'⟩
            · rw [norm_other h0 hr h1 h2 h3] at hk; simp at hk
theorem norm_append {base : Int} {L M : List RecD} (hb : 0 ≤ base) : ∀ (n : Nat) (lsn : Int), lsn.toNat < n → lsn ≤ base + L.length → norm base (L ++ M) lsn = norm base L lsn := by
  intro n
  induction n with
  | zero => intro lsn h; omega
  | succ n ih =>
    intro lsn hn hle
    have he := recAtN_append (M := M) hle
    by_cases h0 : lsn = 0
    · rw [h0, norm_zero, norm_zero]
    · cases hr : recAtN base L lsn with
      | none => rw [norm_none h0 hr, norm_none h0 (he.trans hr)]
      | some r =>
        have hlt := recAtN_lt hr
        rw [hr] at he
        by_cases h2 : r.kind = 2
        · rw [norm_set h0 hr h2, norm_set h0 he h2]
        · by_cases h1 : r.kind = 1
          · rw [norm_begin h0 hr h1, norm_begin h0 he h1]
          · by_cases h3 : goesOn r
            · by_cases hge : lsn ≤ onOf r
              · rw [norm_back h0 hr h3 hge, norm_back h0 he h3 hge]
              · rw [norm_on hb h0 hr h3 (by omega), norm_on hb h0 he h3 (by omega), ih (onOf r) (by omega) (by omega)]
            · rw [norm_other h0 hr h1 h2 h3, norm_other h0 he h1 h2 h3]

/-- the record's way back -/
def prevN (base : Int) (L : List RecD) (k : Int) : Int := ((recAtN base L k).map (·.prev)).getD 0
/-- all changes that are to be undone -/
def chainF (base : Int) (L : List RecD) : Nat → List Int → Int → List Int × Option Int
  | 0, _, _ => ([], none)
  | n + 1, out, next =>
    match norm base L next with
    | (_, some p) => ([], some p)
    | (k, none) => if k = 0 then (out, none) else if prevN base L k ≥ k then ([], some k) else chainF base L n (out ++ [k]) (prevN base L k)
def chain (base : Int) (L : List RecD) (out : List Int) (next : Int) : List Int × Option Int := chainF base L (next.toNat + 1) out next
theorem chainF_more {base : Int} {L : List RecD} (hb : 0 ≤ base) : ∀ (n m : Nat) (out : List Int) (next : Int), next.toNat < n → next.toNat < m → chainF base L n out next = chainF base L m out next := by
  intro n
  induction n with
  | zero => intro m out next h; omega
  | succ n ih =>
    intro m out next h1 h2
    obtain ⟨m, rfl⟩ : ∃ k, m = k + 1 := ⟨m - 1, by omega⟩
    unfold chainF
    cases hn : norm base L next with
    | mk k e =>
      cases e with
      | some p => rfl
      | none =>
        dsimp only
        by_cases h0 : k = 0
        · rw [if_pos h0, if_pos h0]
        · rw [if_neg h0, if_neg h0]
          by_cases hge : prevN base L k ≥ k
          · rw [if_pos hge, if_pos hge]
          · rw [if_neg hge, if_neg hge]
            rcases norm_found hb _ next (Nat.lt_succ_self _) k hn with h | ⟨h, h', _⟩
            · exact absurd h h0
            · exact ih m _ _ (by omega) (by omega)
theorem chain_bad {base : Int} {L : List RecD} {out : List Int} {next k p : Int} (h : norm base L next = (k, some p)) : chain base L out next = ([], some p) := by unfold chain chainF; rw [h]
theorem chain_end {base : Int} {L : List RecD} {out : List Int} {next : Int} (h : norm base L next = (0, none)) : chain base L out next = (out, none) := by unfold chain chainF; rw [h]; dsimp only; rw [if_pos rfl]
theorem chain_loop {base : Int} {L : List RecD} {out : List Int} {next k : Int} (h : norm base L next = (k, none)) (h0 : k ≠ 0) (hge : k ≤ prevN base L k) : chain base L out next = ([], some k) := by unfold chain chainF; rw [h]; dsimp only; rw [if_neg h0, if_pos hge]
theorem chain_on {base : Int} {L : List RecD} {out : List Int} {next k : Int} (hb : 0 ≤ base) (h : norm base L next = (k, none)) (h0 : k ≠ 0) (hlt : prevN base L k < k) : chain base L out next = chain base L (out ++ [k]) (prevN base L k) := by
  have e : chain base L out next = chainF base L next.toNat (out ++ [k]) (prevN base L k) := by
    unfold chain
    conv => lhs; unfold chainF
    rw [h]; dsimp only; rw [if_neg h0, if_neg (by omega)]
  rw [e]
  unfold chain
  rcases norm_found hb _ next (Nat.lt_succ_self _) k h with h | ⟨h, h', _⟩
  · exact absurd h h0
  · exact chainF_more hb _ _ _ _ (by omega) (by omega)

structure MasD where
  epoch : Int
  base : Int
  reset : Int
  ckpt : Int
  pages : Int
  blocks : Int
  frames : Int
deriving DecidableEq

def J64 (n : Int) : Prop := -9223372036854775808 ≤ n ∧ n ≤ 9223372036854775807
/-- its numbers are of their kinds -/
structure MasD.W (m : MasD) : Prop where
  epoch : J64 m.epoch
  base : J64 m.base
  reset : J64 m.reset
  ckpt : J64 m.ckpt
  pages : J64 m.pages
  blocks : J64 m.blocks
  frames : J64 m.frames

/-- the master as a value -/
def masV (m : MasD) : Value := .agg #[.int .i64 m.epoch, .int .i64 m.base, .int .i64 m.reset, .int .i64 m.ckpt, .int .i64 m.pages, .int .i64 m.blocks, .int .i64 m.frames]

def inM (n lo hi : Int) : Bool := decide (lo ≤ n) && decide (n ≤ hi)
/-- whether a master may be -/
def okM (m : MasD) : Bool :=
  inM m.epoch 1 1073741824 && (inM m.base 0 1073741824 && (inM m.reset 1 m.epoch && ((m.ckpt == 0 || inM m.ckpt (m.base + 1) 1073741824) && (inM m.pages 1 32 && (inM m.blocks 1 64 && inM m.frames 1 8)))))
def u64M (n : Int) : Int := n % 18446744073709551616
def masNo (m : MasD) (k : Nat) : Int := [m.epoch, m.base, m.reset, m.ckpt, m.pages, m.blocks, m.frames].getD k 0
def masHead : List Int := [80, 72, 88, 77]
/-- the first k numbers put -/
def masTo (m : MasD) : Nat → List Int
  | 0 => fillL masHead 256
  | k + 1 => putL (masTo m k) (4 + 4 * k) 4 (u64M (masNo m k))
/-- its bytes -/
def masB (m : MasD) : List Int := masTo m 7
def masOf (b : List Int) : MasD := ⟨getL b 4 4, getL b 8 4, getL b 12 4, getL b 16 4, getL b 20 4, getL b 24 4, getL b 28 4⟩
def mas0 : MasD := ⟨0, 0, 0, 0, 0, 0, 0⟩
def sameMB (a b : MasD) : Bool := decide (a = b)

theorem isB_masHead : IsB masHead := by intro x hx; simp [masHead] at hx; omega
theorem masTo_length (m : MasD) (k : Nat) : (masTo m k).length = 256 := by
  induction k with
  | zero => have := fillL_length masHead 256; simp [masTo, masHead] at this ⊢; omega
  | succ k ih => rw [masTo, putL_length, ih]
theorem isB_masTo (m : MasD) (k : Nat) : IsB (masTo m k) := by
  cases k with
  | zero => exact isB_fill isB_masHead _
  | succ k => exact isB_put (by induction k with
    | zero => exact isB_fill isB_masHead _
    | succ k ih => exact isB_put ih _ _ _) _ _ _
theorem masB_length (m : MasD) : (masB m).length = 256 := masTo_length m 7
theorem isB_masB (m : MasD) : IsB (masB m) := isB_masTo m 7

theorem u64M_small {n : Int} (h0 : 0 ≤ n) (h1 : n ≤ 1073741824) : u64M n = n := by unfold u64M; omega
theorem u64M_bounds (n : Int) : 0 ≤ u64M n ∧ u64M n ≤ 18446744073709551615 := by unfold u64M; omega

theorem get_put_far (l : List Int) (at_ b n : Int) (hb : 0 ≤ b) (hd : at_ + 4 ≤ b ∨ b + 4 ≤ at_) (hin : b + 4 ≤ l.length) : getL (putL l at_ 4 n) b 4 = getL l b 4 := by
  have e : sz 4 = 4 := by decide
  unfold getL
  rw [e]
  refine getTo_congr _ _ (putL_length _ _ _ _) fun i hi hb => ?_
  rw [putL_get _ _ _ _ _ (by omega), if_neg (by rw [e]; omega)]

theorem masTo_get (m : MasD) (k j : Nat) (hk : k ≤ 7) (hj : j < k) : getL (masTo m k) (4 + 4 * j) 4 = u64M (masNo m j) % 4294967296 := by
  induction k with
  | zero => omega
  | succ k ih =>
    rw [masTo]
    by_cases e : j = k
    · subst e
      have h := masTo_length m j
      rw [get_put_small _ _ _ _ (by omega) (by omega) (u64M_bounds _).1 (by omega) (by omega)]
      rfl
    · have h := masTo_length m k
      rw [get_put_far _ _ _ _ (by omega) (by omega) (by omega)]
      exact ih (by omega) (by omega)

/-- the numbers' bounds of one that may be -/
theorem okM_bounds {m : MasD} (h : okM m = true) : (1 ≤ m.epoch ∧ m.epoch ≤ 1073741824) ∧ (0 ≤ m.base ∧ m.base ≤ 1073741824) ∧ (1 ≤ m.reset ∧ m.reset ≤ m.epoch) ∧ (m.ckpt = 0 ∨ m.base + 1 ≤ m.ckpt ∧ m.ckpt ≤ 1073741824) ∧ (1 ≤ m.pages ∧ m.pages ≤ 32) ∧ (1 ≤ m.blocks ∧ m.blocks ≤ 64) ∧ (1 ≤ m.frames ∧ m.frames ≤ 8) := by
  unfold okM inM at h
  simpa using h
theorem okM_of_bounds {m : MasD} (h : (1 ≤ m.epoch ∧ m.epoch ≤ 1073741824) ∧ (0 ≤ m.base ∧ m.base ≤ 1073741824) ∧ (1 ≤ m.reset ∧ m.reset ≤ m.epoch) ∧ (m.ckpt = 0 ∨ m.base + 1 ≤ m.ckpt ∧ m.ckpt ≤ 1073741824) ∧ (1 ≤ m.pages ∧ m.pages ≤ 32) ∧ (1 ≤ m.blocks ∧ m.blocks ≤ 64) ∧ (1 ≤ m.frames ∧ m.frames ≤ 8)) : okM m = true := by
  unfold okM inM
  simpa using h

theorem masOf_masB {m : MasD} (h : okM m = true) : masOf (masB m) = m := by
  have hb := okM_bounds h
  have g : ∀ j : Nat, j < 7 → getL (masB m) (4 + 4 * j) 4 = u64M (masNo m j) % 4294967296 := fun j hj => masTo_get m 7 j (by omega) hj
  have s : ∀ n : Int, 0 ≤ n → n ≤ 1073741824 → u64M n % 4294967296 = n := fun n h0 h1 => by rw [u64M_small h0 h1]; omega
  have g0 := g 0 (by omega); have g1 := g 1 (by omega); have g2 := g 2 (by omega); have g3 := g 3 (by omega); have g4 := g 4 (by omega); have g5 := g 5 (by omega); have g6 := g 6 (by omega)
  simp only [masNo, List.getD_cons_zero, List.getD_cons_succ] at g0 g1 g2 g3 g4 g5 g6
  rw [s _ (by omega) (by omega)] at g0 g1 g2 g3 g4 g5 g6
  obtain ⟨e, b, r, c, p, bl, f⟩ := m
  unfold masOf
  simp only [MasD.mk.injEq]
  exact ⟨g0, g1, g2, g3, g4, g5, g6⟩

/-- what Read makes of bytes: a master and nothing, or none and an error's number -/
def readM (b : List Int) : MasD × Int :=
  if b.length ≠ 256 then (mas0, 103) else if okM (masOf b) && sameB (masB (masOf b)) b then (masOf b, 0) else (mas0, 106)

theorem readM_back {m : MasD} (h : okM m = true) : readM (masB m) = (m, 0) := by
  unfold readM
  rw [if_neg (by simp [masB_length]), masOf_masB h, h]
  simp [sameB]

theorem readM_ok {b : List Int} {m : MasD} (h : (readM b).2 = 0) : b = masB (readM b).1 ∧ okM (readM b).1 = true := by
  unfold readM at *
  split at h
  · simp at h
  · rename_i h1
    split at h
    · rename_i h2
      rw [if_neg h1, if_pos h2]
      simp only [Bool.and_eq_true] at h2
      exact ⟨(sameB_iff.1 h2.2).symm, h2.1⟩
    · simp at h
theorem put4_get (l : List Int) (at_ n : Int) (i : Nat) (hi : i < l.length) : (putL l at_ 4 n).getD i 0 = if at_ ≤ i ∧ (i : Int) < at_ + 4 then (n / 2 ^ (8 * (i - at_).toNat)) % 256 else l.getD i 0 := putL_get l at_ 4 n i hi
theorem masTo_head (m : MasD) (k : Nat) (i : Nat) (hi : i < 256) (h : i < 4 ∨ 4 + 4 * k ≤ i) : (masTo m k).getD i 0 = (fillL masHead 256).getD i 0 := by
  induction k with
  | zero => rfl
  | succ k ih =>
    have hl := masTo_length m k
    rw [masTo, put4_get _ _ _ _ (by omega), if_neg (by omega), ih (by omega)]
theorem fill_head (i : Nat) (hi : i < 4) : (fillL masHead 256).getD i 0 = masHead.getD i 0 := by
  match i, hi with
  | 0, _ | 1, _ | 2, _ | 3, _ => rfl
  | i + 4, h => omega
theorem fill_tail (i : Nat) (hi : 4 ≤ i) : (fillL masHead 256).getD i 0 = 0 := by
  unfold fillL
  rw [List.getD_eq_getElem?_getD, List.getElem?_append_right (by simpa [masHead] using hi)]
  by_cases h : i - masHead.length < (256 - (masHead.length : Int)).toNat
  · rw [List.getElem?_replicate, if_pos h]; rfl
  · rw [List.getElem?_replicate, if_neg h]; rfl
theorem masB_head (m : MasD) (i : Nat) (hi : i < 4) : (masB m).getD i 0 = masHead.getD i 0 := by
  unfold masB; rw [masTo_head m 7 i (by omega) (.inl hi), fill_head i hi]
theorem masB_tail (m : MasD) (i : Nat) (h0 : 32 ≤ i) (hi : i < 256) : (masB m).getD i 0 = 0 := by
  unfold masB; rw [masTo_head m 7 i hi (.inr (by omega)), fill_tail i (by omega)]
theorem masTo_digit (m : MasD) (k j c : Nat) (hk : k ≤ 7) (hj : j < k) (hc : c < 4) : (masTo m k).getD (4 + 4 * j + c) 0 = (u64M (masNo m j) / 2 ^ (8 * c)) % 256 := by
  induction k with
  | zero => omega
  | succ k ih =>
    have hl := masTo_length m k
    rw [masTo, put4_get _ _ _ _ (by omega)]
    by_cases e : j = k
    · subst e
      rw [if_pos (by omega), show (((4 + 4 * j + c : Nat) : Int) - (4 + 4 * (j : Int))).toNat = c from by omega]
    · rw [if_neg (by omega)]; exact ih (by omega) (by omega)
theorem masB_inj {a b : MasD} (ha : okM a = true) (hb : okM b = true) (h : masB a = masB b) : a = b := by
  rw [← masOf_masB ha, ← masOf_masB hb, h]
end Go.Proofs.YtpgelebmhhcodaaDoor
