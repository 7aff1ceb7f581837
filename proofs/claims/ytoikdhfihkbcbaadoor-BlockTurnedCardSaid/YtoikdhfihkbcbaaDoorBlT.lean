/- Plain: a block whose bytes are turned. -/
import Derived.Test.YtoikdhfihkbcbaaDoorBlQ
namespace Go.Proofs.YtoikdhfihkbcbaaDoor
open Go.RowKit
set_option linter.unusedVariables false

theorem readBlk_or {b : List Int} (hB : IsB b) (hl : b.length = 256) (hz : allZ b = false) :
    readBlk b = (0, [], 105) ∨ ∃ n m, readBlk b = (n, m, 0) ∧ blkB n m = b ∧ 1 ≤ n ∧ n ≤ 1073741824 ∧ 1 ≤ m.length ∧ m.length ≤ 6 ∧ ∀ r ∈ m, okR r = true ∧ r.W := by
  by_cases h1 : okTo b (manyB b) = true
  · by_cases h2 : 1 ≤ getL b 4 4 ∧ getL b 4 4 ≤ 1073741824 ∧ 1 ≤ manyB b
    · by_cases h3 : blkB (getL b 4 4) (readTo b (manyB b)) = b
      · right
        refine ⟨_, _, readBlk_yes hl hz h1 h2 h3, h3, h2.1, h2.2.1, by rw [readTo_len]; exact h2.2.2, by rw [readTo_len]; unfold manyB; omega, fun r hr => ?_⟩
        unfold readTo at hr
        rw [List.mem_map] at hr
        obtain ⟨i, hi, rfl⟩ := hr
        unfold okTo at h1
        rw [List.all_eq_true] at h1
        have h4 := h1 i hi
        refine ⟨(readR_ok (by simpa using h4)).2, readR_W ?_⟩
        unfold partB
        exact (hB.take _).drop _
      · exact .inl (readBlk_no hl hz (.inr (.inr h3)))
    · exact .inl (readBlk_no hl hz (.inr (.inl h2)))
  · exact .inl (readBlk_no hl hz (.inl (by simpa using h1)))

theorem getTo_same {b c : List Int} (hl : b.length = c.length) (at_ : Int) : ∀ n : Nat, (∀ i : Nat, at_ ≤ i → (i : Int) < at_ + n → b.getD i 0 = c.getD i 0) → getTo b at_ n = getTo c at_ n
  | 0, _ => rfl
  | n + 1, h => by
    have ih := getTo_same hl at_ n fun i h0 h1 => h i h0 (by omega)
    simp only [getTo, ih, hl]
    split
    · rename_i hh
      rw [h (at_ + n).toNat (by omega) (by omega)]
    · rfl
theorem getL_same {b c : List Int} (hl : b.length = c.length) (at_ size : Int) (h : ∀ i : Nat, at_ ≤ i → (i : Int) < at_ + sz size → b.getD i 0 = c.getD i 0) : getL b at_ size = getL c at_ size := by
  have hs := sz_le size
  exact getTo_same hl at_ _ fun i h0 h1 => h i h0 (by omega)
theorem set_getD (b : List Int) (k : Nat) (x : Int) (hk : k < b.length) (i : Nat) : (b.set k x).getD i 0 = if i = k then x else b.getD i 0 := by
  simp only [List.getD_eq_getElem?_getD, List.getElem?_set]
  by_cases e : i = k
  · subst e; simp [hk]
  · rw [if_neg (Ne.symm e), if_neg e]
theorem partB_set (b : List Int) (k : Nat) (x : Int) (i : Nat) (h : k < 16 + 40 * i ∨ 16 + 40 * (i + 1) ≤ k) : partB (b.set k x) i = partB b i := by
  unfold partB
  apply List.ext_getElem?
  intro j
  simp only [List.getElem?_drop, List.getElem?_take, List.getElem?_set]
  by_cases hj : 16 + 40 * i + j < 16 + 40 * (i + 1)
  · rw [if_pos hj, if_pos hj, if_neg (by omega)]
  · rw [if_neg hj, if_neg hj]
theorem blkB_zero (e : Int) (L : List RecD) (k : Nat) (hk : 10 ≤ k ∧ k < 16 ∨ 16 + 40 * L.length ≤ k) : (blkB e L).getD k 0 = 0 := by
  have e4 : sz 4 = 4 := by unfold sz; omega
  have e2 : sz 2 = 2 := by unfold sz; omega
  rcases hk with ⟨h1, h2⟩ | h1
  · rw [blkB_low e L k h2]
    unfold blkHead
    rw [putL_get _ _ _ _ _ (by rw [putL_length, len16]; omega), if_neg (by rw [e2]; omega), putL_get _ _ _ _ _ (by rw [len16]; omega), if_neg (by rw [e4]; omega)]
    unfold fillL
    rw [List.getD_eq_getElem?_getD, List.getElem?_append_right (by simp [blkMagic]; omega), List.getElem?_replicate]
    split <;> rfl
  · unfold blkB fillL
    have hl := blkTo_len e L.length L L.length (Nat.le_refl _)
    rw [List.getD_eq_getElem?_getD, List.getElem?_append_right (by omega), List.getElem?_replicate]
    split <;> rfl
/-- one byte turned in its zeros, and it is none -/
theorem readBlk_zeros (e : Int) (L : List RecD) (h1 : 1 ≤ L.length) (hl : L.length ≤ 6) (e1 : 1 ≤ e) (e2 : e ≤ 1073741824) (hok : ∀ r ∈ L, okR r = true ∧ r.W) (k : Nat) (hk : 10 ≤ k ∧ k < 16 ∨ 16 + 40 * L.length ≤ k ∧ k < 256) :
    ((blkB e L).set k 1).length = 256 ∧ allZ ((blkB e L).set k 1) = false ∧ readBlk ((blkB e L).set k 1) = (0, [], 105) := by
  have hlen := blkB_len e L hl
  have hk256 : k < 256 := by omega
  have s4 : sz 4 = 4 := by unfold sz; omega
  have s2 : sz 2 = 2 := by unfold sz; omega
  have hset := set_getD (blkB e L) k 1 (by omega)
  have hl' : ((blkB e L).set k 1).length = 256 := by rw [List.length_set, hlen]
  have hz : allZ ((blkB e L).set k 1) = false := by
    have h0 : ((blkB e L).set k 1).getD k 0 = 1 := by rw [hset, if_pos rfl]
    cases hz : allZ ((blkB e L).set k 1) with
    | false => rfl
    | true =>
      have h := allZ_iff.1 hz (((blkB e L).set k 1).getD k 0) (by rw [getD_lt (by omega)]; exact List.getElem_mem _)
      rw [h0] at h
      simp at h
  refine ⟨hl', hz, ?_⟩
  have g4 : getL ((blkB e L).set k 1) 4 4 = e := by
    refine Eq.trans ?_ (blk_get4 e L hl (by omega) e2)
    exact getL_same (by rw [hl', hlen]) _ _ fun i h0 h1 => by rw [hset, if_neg (by omega)]
  have g2 : getL ((blkB e L).set k 1) 8 2 = L.length := by
    refine Eq.trans ?_ (blk_get2 e L hl)
    exact getL_same (by rw [hl', hlen]) _ _ fun i h0 h1 => by rw [hset, if_neg (by omega)]
  have hm : manyB ((blkB e L).set k 1) = L.length := by unfold manyB; rw [g2]; omega
  have hr : readTo ((blkB e L).set k 1) L.length = L := by
    obtain ⟨a, _⟩ := readTo_blk e L hok L.length (Nat.le_refl _)
    rw [List.take_length] at a
    refine Eq.trans ?_ a
    unfold readTo
    refine List.map_congr_left fun i hi => ?_
    rw [List.mem_range] at hi
    rw [partB_set _ _ _ _ (by omega)]
  refine readBlk_no hl' hz (.inr (.inr ?_))
  rw [hm, g4, hr]
  intro h
  have h2 : (blkB e L).getD k 0 = ((blkB e L).set k 1).getD k 0 := by rw [← h]
  rw [hset, if_pos rfl, blkB_zero e L k (by omega)] at h2
  simp at h2
/-- one byte turned anywhere: never this block -/
theorem turned_no {e : Int} {L : List RecD} (hl : L.length ≤ 6) {k : Nat} (hk : k < 256) {z : Int} (hz : z ≠ (blkB e L).getD k 0) : ((blkB e L).set k z).length = 256 ∧ allZ ((blkB e L).set k z) = false ∧ (blkB e L).set k z ≠ blkB e L := by
  have hlen := blkB_len e L hl
  have hset := set_getD (blkB e L) k z (by omega)
  have hl' : ((blkB e L).set k z).length = 256 := by rw [List.length_set, hlen]
  refine ⟨hl', ?_, fun h => ?_⟩
  · cases ha : allZ ((blkB e L).set k z) with
    | false => rfl
    | true =>
      have hall : ∀ i, i < 256 → ((blkB e L).set k z).getD i 0 = 0 := fun i hi => allZ_iff.1 ha _ (by rw [getD_lt (by omega)]; exact List.getElem_mem _)
      have a0 := (blkB_low e L 0 (by omega)).trans (blkHead_m e L.length 0 (by omega))
      have a1 := (blkB_low e L 1 (by omega)).trans (blkHead_m e L.length 1 (by omega))
      have b0 := hall 0 (by omega)
      have b1 := hall 1 (by omega)
      rw [hset] at b0 b1
      simp [blkMagic] at a0 a1
      split at b0
      · split at b1
        · omega
        · simp at b1; omega
      · simp at b0; omega
  · have h2 : ((blkB e L).set k z).getD k 0 = (blkB e L).getD k 0 := by rw [h]
    rw [hset, if_pos rfl] at h2
    exact hz h2
end Go.Proofs.YtoikdhfihkbcbaaDoor
