/- Contracts: places, Put, Get. -/
import Derived.Test.YtebpgghhjaoonaaCellA
namespace Go.Proofs.Ytebpgghhjaoonaa
open Go.RowKit
set_option linter.unusedVariables false

/-- how many bytes a number of such a size takes -/
def sz (n : Int) : Int := min (max n 1) 8
theorem sz_le (n : Int) : 1 ≤ sz n ∧ sz n ≤ 8 := by unfold sz; omega

theorem places (o : Option Addr) (n c : Nat) (hn : n ≤ 1000000000000) (at_ size : Int) (w : World) (h1 : -8 ≤ at_) (h2 : at_ < n) (h3 : -9223372036854775808 ≤ size) (h4 : size ≤ 9223372036854775807) :
    Calls Try.prog 23 #[.slice o n c, .int .i64 at_, .int .i64 size] w fun e w' => e = .returned (.tuple #[.int .i64 (max at_ 0), .int .i64 (min (at_ + sz size) n)]) ∧ w = w' := by
  unfold sz
  go_enter Try.func23, Try.ntmps23
  go_wp2
  all_goals
    go_ret2
    refine ⟨?_, rfl⟩
    simp only [Array.getD_eq_getD_getElem?]
    simp
    omega

def putL (l : List Int) (at_ size n : Int) : List Int :=
  l.mapIdx fun k x => if at_ ≤ k ∧ (k : Int) < at_ + sz size then (n / 2 ^ (8 * (k - at_).toNat)) % 256 else x

/-- the same, as far as a place k -/
def putTo (l : List Int) (at_ size n : Int) (m : Nat) : List Int :=
  l.mapIdx fun k x => if at_ ≤ k ∧ (k : Int) < at_ + sz size ∧ k < m then (n / 2 ^ (8 * (k - at_).toNat)) % 256 else x
theorem putTo_length (l : List Int) (at_ size n : Int) (m : Nat) : (putTo l at_ size n m).length = l.length := by simp [putTo]
theorem putL_length (l : List Int) (at_ size n : Int) : (putL l at_ size n).length = l.length := by simp [putL]
theorem putTo_zero (l : List Int) (at_ size n : Int) (m : Nat) (h : (m : Int) ≤ max at_ 0) : putTo l at_ size n m = l := by
  apply List.ext_getElem (by simp [putTo])
  intro i h1 h2
  simp only [putTo, List.getElem_mapIdx]
  rw [if_neg (by omega)]
theorem putTo_all (l : List Int) (at_ size n : Int) (m : Nat) (h : min (at_ + sz size) l.length ≤ (m : Int)) : putTo l at_ size n m = putL l at_ size n := by
  apply List.ext_getElem (by simp [putTo, putL])
  intro i h1 h2
  have h3 : i < l.length := by simpa [putTo] using h1
  simp only [putTo, putL, List.getElem_mapIdx]
  congr 1
  simp only [eq_iff_iff]
  omega
theorem putTo_succ (l : List Int) (at_ size n : Int) (m : Nat) (h0 : at_ ≤ m) (h : (m : Int) < at_ + sz size) : (putTo l at_ size n m).set m ((n / 2 ^ (8 * (m - at_).toNat)) % 256) = putTo l at_ size n (m + 1) := by
  apply List.ext_getElem (by simp [putTo])
  intro i h1 h2
  simp only [putTo, List.getElem_set, List.getElem_mapIdx]
  by_cases e : m = i
  · subst e; rw [if_pos rfl, if_pos ⟨h0, h, by omega⟩]
  · rw [if_neg e]; congr 1; simp only [eq_iff_iff]; omega
theorem putL_none (l : List Int) (at_ size n : Int) (h : (l.length : Int) ≤ at_ ∨ at_ < -8) : putL l at_ size n = l := by
  have := sz_le size
  apply List.ext_getElem (by simp [putL])
  intro i h1 h2
  simp only [putL, List.getElem_mapIdx]
  rw [if_neg (by omega)]

theorem put (v : Value) (l : List Int) (at_ size n : Int) (w : World) (hv : Bs w v l) (hl : l.length ≤ 1000000000000) (ha : -9223372036854775808 ≤ at_) (ha' : at_ ≤ 9223372036854775807) (h3 : -9223372036854775808 ≤ size) (h4 : size ≤ 9223372036854775807)
    (hn : 0 ≤ n) (hn' : n ≤ 18446744073709551615) :
    Calls Try.prog 12 #[v, .int .i64 at_, .int .i64 size, .int .u64 n] w fun e w' => ∃ v', e = .returned v' ∧ Below w.heap.size w w' ∧ Ob 5 w.heap.size w' v' (putL l at_ size n) := by
  have hv' := hv
  obtain ⟨hl1, o, c, rfl, hlc, hcm, hon, hcell⟩ := hv
  clear hcell
  unfold maxLen at hcm
  by_cases ht : at_ < l.length
  · by_cases ht' : -8 ≤ at_
    · go_enter Try.func12, Try.ntmps12
      go_wp2_with fail
      refine (clone _ l _ hv' hl).mono ?_
      rintro e w' ⟨v', rfl, hb, hob⟩
      go_wp2_with fail
      refine (places _ _ _ hl at_ size _ ht' ht h3 h4).mono ?_
      rintro e w2 ⟨rfl, rfl⟩
      go_wp2_with fail
      have hsz := sz_le size
      generalize hz : sz size = z at hsz
      have HZ := Lib.hid hz
      clear hz
      go_loopw [12] (fun i wr => ∃ k : Nat, i = .int .i64 k ∧ max at_ 0 ≤ k ∧ (k : Int) ≤ max (max at_ 0) (min (at_ + z) l.length) ∧ Below w.heap.size w wr ∧ Ob 5 w.heap.size wr v' (putTo l at_ size n k)) (fun i _ => (l.length : Int).toNat - (intOf i).toNat)
      case atStart =>
        refine ⟨(max at_ 0).toNat, by congr 1; omega, by omega, by omega, hb, ?_⟩
        rw [putTo_zero _ _ _ _ _ (by omega)]; exact hob
      case round =>
        obtain ⟨k, rfl, hk0, hk, hbr, hobr⟩ := hrel
        by_cases hlt : (k : Int) < min (at_ + z) l.length
        · have hkl : k < (putTo l at_ size n k).length := by rw [putTo_length]; omega
          obtain ⟨g, cap, rfl, hg1, hg2, _, _⟩ := hobr.row (ne_nil_of_lt hkl)
          have hc := hobr.cell hkl
          have hf := hobr.frozen k
          generalize (putTo l at_ size n k).getD k 0 = x0 at hc
          rw [putTo_length] at *
          have hs := fun i x h0 h1 => hobr.set i (x := x) h0 h1
          go_wp2
          go_roundw
          case rel =>
            have hx : (n / 2 ^ (8 * (↑k - at_)).toNat % 256) = n / 2 ^ (8 * (↑k - at_).toNat) % 256 := by
              rw [show (8 * (↑k - at_)).toNat = 8 * (↑k - at_).toNat from by omega]
            refine ⟨k + 1, by go_num, by omega, by omega, hbr.setCell hg1 _, ?_⟩
            rw [← putTo_succ _ _ _ _ _ (by omega) (by have := HZ.out; omega), hx]
            exact hs k _ (by omega) (by omega)
          case measure => simp [intOf]; omega
        · have hfin : putTo l at_ size n k = putL l at_ size n := putTo_all _ _ _ _ _ (by have := HZ.out; omega)
          rw [hfin] at hobr
          go_wp2
          go_ret
          exact ⟨_, rfl, hbr, hobr⟩
    · go_enter Try.func12, Try.ntmps12
      go_wp2_with fail
      refine (clone _ l _ hv' hl).mono ?_
      rintro e w' ⟨v', rfl, hb, hob⟩
      rw [← putL_none l at_ size n (by omega)] at hob
      go_wp2_with fail
      go_ret
      exact ⟨_, rfl, hb, hob⟩
  · go_enter Try.func12, Try.ntmps12
    go_wp2_with fail
    refine (clone _ l _ hv' hl).mono ?_
    rintro e w' ⟨v', rfl, hb, hob⟩
    rw [← putL_none l at_ size n (by omega)] at hob
    go_wp2_with fail
    go_ret
    exact ⟨_, rfl, hb, hob⟩

theorem two_pow_56 {s : Nat} (h : s ≤ 56) : (2 : Int) ^ s ≤ 2 ^ 56 := by
  exact_mod_cast Nat.pow_le_pow_right (show 0 < 2 by decide) h

/-- the number that so many bytes from a place on are, the least first -/
def getTo (l : List Int) (at_ : Int) : Nat → Int
  | 0 => 0
  | m + 1 => getTo l at_ m + (if 0 ≤ at_ + m ∧ at_ + m < l.length then l.getD (at_ + m).toNat 0 * 2 ^ (8 * m) else 0)
def getL (l : List Int) (at_ size : Int) : Int := getTo l at_ (sz size).toNat
theorem getTo_bounds {l : List Int} (hl : IsB l) (at_ : Int) (m : Nat) : 0 ≤ getTo l at_ m ∧ getTo l at_ m < 2 ^ (8 * m) := by
  induction m with
  | zero => simp [getTo]
  | succ m ih =>
    have hp : (2 : Int) ^ (8 * (m + 1)) = 256 * 2 ^ (8 * m) := by rw [Nat.mul_add, Int.pow_add]; omega
    have hp0 : (0 : Int) < 2 ^ (8 * m) := Int.pow_pos (by omega)
    rw [getTo, hp]
    have h := hl.get (at_ + m).toNat
    generalize l.getD (at_ + m).toNat 0 = x at h ⊢
    generalize (2 : Int) ^ (8 * m) = p at *
    have h1 : 0 ≤ x * p := Int.mul_nonneg h.1 (by omega)
    have h2 : x * p ≤ 255 * p := Int.mul_le_mul_of_nonneg_right h.2 (by omega)
    split <;> omega

theorem getTo_zero (l : List Int) (at_ : Int) (m : Nat) (h : at_ + m ≤ max at_ 0) : getTo l at_ m = 0 := by
  induction m with
  | zero => rfl
  | succ m ih => rw [getTo, ih (by omega), if_neg (by omega)]; rfl
theorem getTo_ext (l : List Int) (at_ : Int) (m n : Nat) (hmn : m ≤ n) (h : ∀ i : Nat, m ≤ i → i < n → ¬ (0 ≤ at_ + i ∧ at_ + i < l.length)) : getTo l at_ n = getTo l at_ m := by
  induction n with
  | zero => rw [show m = 0 from by omega]
  | succ n ih =>
    by_cases e : m = n + 1
    · rw [e]
    · rw [getTo, ih (by omega) (fun i h1 h2 => h i h1 (by omega)), if_neg (h n (by omega) (by omega))]; omega
theorem getTo_all (l : List Int) (at_ : Int) (k : Nat) (z : Int) (hz : 1 ≤ z) (h0 : max at_ 0 ≤ k) (h1 : (k : Int) ≤ max (max at_ 0) (min (at_ + z) l.length)) (ha : at_ < l.length) (h : min (at_ + z) l.length ≤ k) : getTo l at_ (k - at_).toNat = getTo l at_ z.toNat := by
  by_cases hc : (k - at_).toNat ≤ z.toNat
  · exact (getTo_ext l at_ _ _ hc (fun i h2 h3 => by omega)).symm
  · exact getTo_ext l at_ _ _ (by omega) (fun i h2 h3 => by omega)
theorem getL_none (l : List Int) (at_ size : Int) (h : (l.length : Int) ≤ at_ ∨ at_ < -8) : getL l at_ size = 0 := by
  have hz := sz_le size
  have : ∀ m : Nat, m ≤ 8 → getTo l at_ m = 0 := by
    intro m hm
    induction m with
    | zero => rfl
    | succ m ih => rw [getTo, ih (by omega), if_neg (by omega)]; rfl
  exact this _ (by omega)

theorem get (v : Value) (l : List Int) (at_ size : Int) (w : World) (hv : Bs w v l) (hl : l.length ≤ 1000000000000) (ha : -9223372036854775808 ≤ at_) (ha' : at_ ≤ 9223372036854775807) (h3 : -9223372036854775808 ≤ size) (h4 : size ≤ 9223372036854775807) :
    Calls Try.prog 14 #[v, .int .i64 at_, .int .i64 size] w fun e w' => e = .returned (.int .u64 (getL l at_ size)) ∧ w = w' := by
  have hv' := hv
  obtain ⟨hl1, o, c, rfl, hlc, hcm, hon, hcell⟩ := hv
  unfold maxLen at hcm
  by_cases ht : at_ < l.length
  · by_cases ht' : -8 ≤ at_
    · go_enter Try.func14, Try.ntmps14
      go_wp2_with fail
      refine (places _ _ _ hl at_ size _ ht' ht h3 h4).mono ?_
      rintro e w2 ⟨rfl, rfl⟩
      go_wp2_with fail
      have hsz := sz_le size
      generalize hz : sz size = z at hsz
      have HZ := Lib.hid hz
      clear hz
      go_loop [7, 10] (fun n i => ∃ k : Nat, i = .int .i64 k ∧ max at_ 0 ≤ k ∧ (k : Int) ≤ max (max at_ 0) (min (at_ + z) l.length) ∧ n = .int .u64 (getTo l at_ (k - at_).toNat)) (fun _ i => (l.length : Int).toNat - (intOf i).toNat)
      case atStart =>
        refine ⟨(max at_ 0).toNat, by congr 1; omega, by omega, by omega, ?_⟩
        rw [getTo_zero _ _ _ (by omega)]
      case round =>
        obtain ⟨k, rfl, hk0, hk, rfl⟩ := hrel
        by_cases hlt : (k : Int) < min (at_ + z) l.length
        · obtain ⟨a, x, rfl, g, hx, hx0, hx1⟩ := Bs.at_ hl1 hcell (k := k) (by omega)
          clear hcell
          have hg := getTo_bounds hl1 at_ (k - at_).toNat
          have hst : getTo l at_ ((k : Int) + 1 - at_).toNat = getTo l at_ (k - at_).toNat + x * 2 ^ (8 * (k - at_)).toNat := by
            rw [show ((k : Int) + 1 - at_).toNat = (k - at_).toNat + 1 from by omega, getTo, if_pos (by omega), show (at_ + ((k - at_).toNat : Int)).toNat = k from by omega, hx.out,
              show (8 * (↑k - at_)).toNat = 8 * (↑k - at_).toNat from by omega]
          have HST := Lib.hid hst
          clear hst
          generalize getTo l at_ (k - at_).toNat = y at hg HST
          go_wp2
          go_round
          case rel =>
            refine ⟨k + 1, by go_num, by omega, by omega, ?_⟩
            rw [show ((k + 1 : Nat) : Int) = (k : Int) + 1 from by omega, HST.out, or_shift _ _ _ (by omega) hg.1 (by rw [show (8 * (↑k - at_)).toNat = 8 * (↑k - at_).toNat from by omega]; exact hg.2) hx0 hx1]
          case measure => simp [intOf]; omega
        · have hfin : getTo l at_ (k - at_).toNat = getL l at_ size := by
            unfold getL
            rw [HZ.out]
            exact getTo_all _ _ _ _ (by omega) hk0 hk ht (by omega)
          go_wp2
          go_ret
          exact ⟨by rw [← hfin]; rfl, rfl⟩
    · have hfin : getL l at_ size = 0 := getL_none _ _ _ (by omega)
      go_enter Try.func14, Try.ntmps14
      go_wp2
      go_ret
      exact ⟨rfl, rfl⟩
  · have hfin : getL l at_ size = 0 := getL_none _ _ _ (by omega)
    go_enter Try.func14, Try.ntmps14
    go_wp2
    go_ret
    exact ⟨rfl, rfl⟩
end Go.Proofs.Ytebpgghhjaoonaa
