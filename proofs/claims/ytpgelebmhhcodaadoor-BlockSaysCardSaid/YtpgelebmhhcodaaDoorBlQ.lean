/- Plain: what bytes are as a block (block.Read), and that a block is read as it was. -/
import Derived.Test.YtpgelebmhhcodaaDoorBlP
import Derived.Test.YtpgelebmhhcodaaDoorRecT
import Derived.Test.YtpgelebmhhcodaaDoorByteT
namespace Go.Proofs.YtpgelebmhhcodaaDoor
open Go.RowKit
set_option linter.unusedVariables false

/-- a record's bytes in a block -/
def partB (b : List Int) (k : Nat) : List Int := (b.take (16 + 40 * (k + 1))).drop (16 + 40 * k)
/-- the first k records -/
def readTo (b : List Int) (k : Nat) : List RecD := (List.range k).map fun i => (readR (partB b i)).1
def okTo (b : List Int) (k : Nat) : Bool := (List.range k).all fun i => (readR (partB b i)).2 == 0
def manyB (b : List Int) : Nat := (min (getL b 8 2) 6).toNat
/-- block.Read: the boot, the records, the error's number -/
def readBlk (b : List Int) : Int × List RecD × Int :=
  if b.length ≠ 256 then (0, [], 103) else if allZ b then (0, [], 0) else
  if okTo b (manyB b) && (decide (1 ≤ getL b 4 4 ∧ getL b 4 4 ≤ 1073741824 ∧ 1 ≤ manyB b) && sameB (blkB (getL b 4 4) (readTo b (manyB b))) b) then (getL b 4 4, readTo b (manyB b), 0) else (0, [], 105)

theorem readTo_len (b : List Int) (k : Nat) : (readTo b k).length = k := by simp [readTo]
theorem readTo_succ (b : List Int) (k : Nat) : readTo b (k + 1) = readTo b k ++ [(readR (partB b k)).1] := by simp [readTo, List.range_succ]
theorem okTo_succ (b : List Int) (k : Nat) : okTo b (k + 1) = (okTo b k && ((readR (partB b k)).2 == 0)) := by simp [okTo, List.range_succ]
theorem partB_blk (e : Int) (L : List RecD) (k : Nat) (r : RecD) (hr : L[k]? = some r) : partB (blkB e L) k = recB r := blkB_sub e L k r hr
theorem readTo_blk (e : Int) (L : List RecD) (hok : ∀ r ∈ L, okR r = true ∧ r.W) : ∀ k, k ≤ L.length → readTo (blkB e L) k = L.take k ∧ okTo (blkB e L) k = true
  | 0, _ => ⟨rfl, rfl⟩
  | k + 1, hk => by
    obtain ⟨h1, h2⟩ := readTo_blk e L hok k (by omega)
    have hr : L[k]? = some L[k] := List.getElem?_eq_getElem (by omega)
    have hb := hok L[k] (List.getElem_mem (by omega))
    have hp := partB_blk e L k _ hr
    rw [readTo_succ, okTo_succ, h1, h2, hp, readR_back hb.1 hb.2, List.take_add_one, hr]
    exact ⟨rfl, rfl⟩
theorem blk_get4 (e : Int) (L : List RecD) (hl : L.length ≤ 6) (h0 : 0 ≤ e) (h1 : e ≤ 1073741824) : getL (blkB e L) 4 4 = e := by
  have hlen := blkB_len e L hl
  have e4 : (sz 4).toNat = 4 := by decide
  have g : ∀ k, 4 ≤ k → k < 8 → (blkB e L).getD k 0 = e / 2 ^ (8 * (k - 4)) % 256 := fun k a c => (blkB_low e L k (by omega)).trans (blkHead_e e _ k a c)
  have g4 := g 4 (by omega) (by omega)
  have g5 := g 5 (by omega) (by omega)
  have g6 := g 6 (by omega) (by omega)
  have g7 := g 7 (by omega) (by omega)
  unfold getL
  rw [e4]
  simp only [getTo, hlen]
  simp
  simp at g4 g5 g6 g7
  omega
theorem blkHead_n9 (e n : Int) (h0 : 0 ≤ n) (h1 : n < 256) : (blkHead e n).getD 9 0 = 0 := by
  unfold blkHead
  have e2 : sz 2 = 2 := by unfold sz; omega
  rw [putL_get _ _ _ _ _ (by rw [putL_length, len16]; omega), if_pos (by rw [e2]; omega)]
  simp; omega
theorem blk_get2 (e : Int) (L : List RecD) (hl : L.length ≤ 6) : getL (blkB e L) 8 2 = L.length := by
  have hlen := blkB_len e L hl
  have e2 : (sz 2).toNat = 2 := by decide
  have g8 := blkB_n e L hl
  have g9 := (blkB_low e L 9 (by omega)).trans (blkHead_n9 e L.length (by omega) (by omega))
  unfold getL
  rw [e2]
  simp only [getTo, hlen]
  simp
  simp at g8 g9
  omega
theorem blkB_allZ (e : Int) (L : List RecD) (hl : L.length ≤ 6) : allZ (blkB e L) = false := by
  have hlen := blkB_len e L hl
  have h0 := (blkB_low e L 0 (by omega)).trans (blkHead_m e L.length 0 (by omega))
  cases hz : allZ (blkB e L) with
  | false => rfl
  | true =>
    have h := allZ_iff.1 hz ((blkB e L).getD 0 0) (by rw [getD_lt (by omega)]; exact List.getElem_mem _)
    rw [h0] at h
    simp [blkMagic] at h
theorem readBlk_back (e : Int) (L : List RecD) (h1 : 1 ≤ L.length) (hl : L.length ≤ 6) (e1 : 1 ≤ e) (e2 : e ≤ 1073741824) (hok : ∀ r ∈ L, okR r = true ∧ r.W) : readBlk (blkB e L) = (e, L, 0) := by
  have hm : manyB (blkB e L) = L.length := by unfold manyB; rw [blk_get2 e L hl]; omega
  obtain ⟨a, b⟩ := readTo_blk e L hok L.length (Nat.le_refl _)
  rw [List.take_length] at a
  unfold readBlk
  rw [if_neg (by rw [blkB_len e L hl]; simp), blkB_allZ e L hl, hm, a, b, blk_get4 e L hl (by omega) e2, sameB_iff.2 rfl, decide_eq_true (show 1 ≤ e ∧ e ≤ 1073741824 ∧ 1 ≤ L.length from ⟨e1, e2, h1⟩)]
  rfl
theorem readR_code {b : List Int} (h : b.length = 40) : (readR b).2 = 0 ∨ (readR b).2 = 104 := by
  unfold readR
  rw [if_neg (by simp [h])]
  split
  · exact .inl rfl
  · exact .inr rfl
theorem getL_lt {b : List Int} (hB : IsB b) : 0 ≤ getL b 4 4 ∧ getL b 4 4 < 4294967296 ∧ 0 ≤ getL b 8 2 ∧ getL b 8 2 < 65536 := by
  have h1 := getTo_bounds hB 4 4
  have h2 := getTo_bounds hB 8 2
  have e4 : (sz 4).toNat = 4 := by decide
  have e2 : (sz 2).toNat = 2 := by decide
  unfold getL
  rw [e4, e2]
  simp at h1 h2
  omega
theorem readBlk_no {b : List Int} (hl : b.length = 256) (hz : allZ b = false) (h : okTo b (manyB b) = false ∨ ¬ (1 ≤ getL b 4 4 ∧ getL b 4 4 ≤ 1073741824 ∧ 1 ≤ manyB b) ∨ blkB (getL b 4 4) (readTo b (manyB b)) ≠ b) : readBlk b = (0, [], 105) := by
  unfold readBlk
  rw [if_neg (by simp [hl]), hz]
  simp only [Bool.false_eq_true, if_false]
  rw [if_neg]
  rcases h with h | h | h
  · simp [h]
  · rw [decide_eq_false h]; simp
  · have : sameB (blkB (getL b 4 4) (readTo b (manyB b))) b = false := by
      cases hs : sameB (blkB (getL b 4 4) (readTo b (manyB b))) b with
      | false => rfl
      | true => exact absurd (sameB_iff.1 hs) h
    simp [this]
theorem readBlk_yes {b : List Int} (hl : b.length = 256) (hz : allZ b = false) (h1 : okTo b (manyB b) = true) (h2 : 1 ≤ getL b 4 4 ∧ getL b 4 4 ≤ 1073741824 ∧ 1 ≤ manyB b) (h3 : blkB (getL b 4 4) (readTo b (manyB b)) = b) : readBlk b = (getL b 4 4, readTo b (manyB b), 0) := by
  unfold readBlk
  rw [if_neg (by simp [hl]), hz]
  simp only [Bool.false_eq_true, if_false]
  rw [if_pos (by rw [h1, decide_eq_true h2, sameB_iff.2 h3]; rfl)]
theorem okTo_false {b : List Int} {k m : Nat} (hk : k < m) (h : (readR (partB b k)).2 ≠ 0) : okTo b m = false := by
  unfold okTo
  rw [List.all_eq_false]
  exact ⟨k, List.mem_range.2 hk, by simpa using h⟩

theorem readBlk_or {b : List Int} (hB : IsB b) (hl : b.length = 256) (hz : allZ b = false) :
    readBlk b = (0, [], 105) ∨ ∃ n m, readBlk b = (n, m, 0) ∧ blkB n m = b ∧ 1 ≤ n ∧ n ≤ 1073741824 ∧ 1 ≤ m.length ∧ m.length ≤ 6 ∧ ∀ r ∈ m, okR r = true ∧ r.W := by
  by_cases h1 : okTo b (manyB b) = true
  · by_cases h2 : 1 ≤ getL b 4 4 ∧ getL b 4 4 ≤ 1073741824 ∧ 1 ≤ manyB b
    · by_cases h3 : blkB (getL b 4 4) (readTo b (manyB b)) = b
      · right
        refine ⟨_, _, readBlk_yes hl hz h1 h2 h3, h3, h2.1, h2.2.1, by rw [readTo_len]; exact h2.2.2, by rw [readTo_len]; unfold manyB; omega, fun r hr => ?_⟩
        unfold readTo at hr
        rw [List.mem_map] at hr
        obtain ⟨i, hi, rfl⟩ := hr
        unfold okTo at h1
        rw [List.all_eq_true] at h1
        have h4 := h1 i hi
        refine ⟨(readR_ok (by simpa using h4)).2, readR_W ?_⟩
        unfold partB
        exact (hB.take _).drop _
      · exact .inl (readBlk_no hl hz (.inr (.inr h3)))
    · exact .inl (readBlk_no hl hz (.inr (.inl h2)))
  · exact .inl (readBlk_no hl hz (.inl (by simpa using h1)))

theorem getTo_same {b c : List Int} (hl : b.length = c.length) (at_ : Int) : ∀ n : Nat, (∀ i : Nat, at_ ≤ i → (i : Int) < at_ + n → b.getD i 0 = c.getD i 0) → getTo b at_ n = getTo c at_ n
  | 0, _ => rfl
  | n + 1, h => by
    have ih := getTo_same hl at_ n fun i h0 h1 => h i h0 (by omega)
    simp only [getTo, ih, hl]
    split
    · rename_i hh
      rw [h (at_ + n).toNat (by omega) (by omega)]
    · rfl
theorem getL_same {b c : List Int} (hl : b.length = c.length) (at_ size : Int) (h : ∀ i : Nat, at_ ≤ i → (i : Int) < at_ + sz size → b.getD i 0 = c.getD i 0) : getL b at_ size = getL c at_ size := by
  have hs := sz_le size
  exact getTo_same hl at_ _ fun i h0 h1 => h i h0 (by omega)
theorem set_getD (b : List Int) (k : Nat) (x : Int) (hk : k < b.length) (i : Nat) : (b.set k x).getD i 0 = if i = k then x else b.getD i 0 := by
  simp only [List.getD_eq_getElem?_getD, List.getElem?_set]
  by_cases e : i = k
  · subst e; simp [hk]
  · rw [if_neg (Ne.symm e), if_neg e]
theorem partB_set (b : List Int) (k : Nat) (x : Int) (i : Nat) (h : k < 16 + 40 * i ∨ 16 + 40 * (i + 1) ≤ k) : partB (b.set k x) i = partB b i := by
  unfold partB
  apply List.ext_getElem?
  intro j
  simp only [List.getElem?_drop, List.getElem?_take, List.getElem?_set]
  by_cases hj : 16 + 40 * i + j < 16 + 40 * (i + 1)
  · rw [if_pos hj, if_pos hj, if_neg (by omega)]
  · rw [if_neg hj, if_neg hj]
theorem blkB_zero (e : Int) (L : List RecD) (k : Nat) (hk : 10 ≤ k ∧ k < 16 ∨ 16 + 40 * L.length ≤ k) : (blkB e L).getD k 0 = 0 := by
  have e4 : sz 4 = 4 := by unfold sz; omega
  have e2 : sz 2 = 2 := by unfold sz; omega
  rcases hk with ⟨h1, h2⟩ | h1
  · rw [blkB_low e L k h2]
    unfold blkHead
    rw [putL_get _ _ _ _ _ (by rw [putL_length, len16]; omega), if_neg (by rw [e2]; omega), putL_get _ _ _ _ _ (by rw [len16]; omega), if_neg (by rw [e4]; omega)]
    unfold fillL
    rw [List.getD_eq_getElem?_getD, List.getElem?_append_right (by simp [blkMagic]; omega), List.getElem?_replicate]
    split <;> rfl
  · unfold blkB fillL
    have hl := blkTo_len e L.length L L.length (Nat.le_refl _)
    rw [List.getD_eq_getElem?_getD, List.getElem?_append_right (by omega), List.getElem?_replicate]
    split <;> rfl
/-- one byte turned in its zeros, and it is none -/
theorem readBlk_zeros (e : Int) (L : List RecD) (h1 : 1 ≤ L.length) (hl : L.length ≤ 6) (e1 : 1 ≤ e) (e2 : e ≤ 1073741824) (hok : ∀ r ∈ L, okR r = true ∧ r.W) (k : Nat) (hk : 10 ≤ k ∧ k < 16 ∨ 16 + 40 * L.length ≤ k ∧ k < 256) :
    ((blkB e L).set k 1).length = 256 ∧ allZ ((blkB e L).set k 1) = false ∧ readBlk ((blkB e L).set k 1) = (0, [], 105) := by
  have hlen := blkB_len e L hl
  have hk256 : k < 256 := by omega
  have s4 : sz 4 = 4 := by unfold sz; omega
  have s2 : sz 2 = 2 := by unfold sz; omega
  have hset := set_getD (blkB e L) k 1 (by omega)
  have hl' : ((blkB e L).set k 1).length = 256 := by rw [List.length_set, hlen]
  have hz : allZ ((blkB e L).set k 1) = false := by
    have h0 : ((blkB e L).set k 1).getD k 0 = 1 := by rw [hset, if_pos rfl]
    cases hz : allZ ((blkB e L).set k 1) with
    | false => rfl
    | true =>
      have h := allZ_iff.1 hz (((blkB e L).set k 1).getD k 0) (by rw [getD_lt (by omega)]; exact List.getElem_mem _)
      rw [h0] at h
      simp at h
  refine ⟨hl', hz, ?_⟩
  have g4 : getL ((blkB e L).set k 1) 4 4 = e := by
    refine Eq.trans ?_ (blk_get4 e L hl (by omega) e2)
    exact getL_same (by rw [hl', hlen]) _ _ fun i h0 h1 => by rw [hset, if_neg (by omega)]
  have g2 : getL ((blkB e L).set k 1) 8 2 = L.length := by
    refine Eq.trans ?_ (blk_get2 e L hl)
    exact getL_same (by rw [hl', hlen]) _ _ fun i h0 h1 => by rw [hset, if_neg (by omega)]
  have hm : manyB ((blkB e L).set k 1) = L.length := by unfold manyB; rw [g2]; omega
  have hr : readTo ((blkB e L).set k 1) L.length = L := by
    obtain ⟨a, _⟩ := readTo_blk e L hok L.length (Nat.le_refl _)
    rw [List.take_length] at a
    refine Eq.trans ?_ a
    unfold readTo
    refine List.map_congr_left fun i hi => ?_
    rw [List.mem_range] at hi
    rw [partB_set _ _ _ _ (by omega)]
  refine readBlk_no hl' hz (.inr (.inr ?_))
  rw [hm, g4, hr]
  intro h
  have h2 : (blkB e L).getD k 0 = ((blkB e L).set k 1).getD k 0 := by rw [← h]
  rw [hset, if_pos rfl, blkB_zero e L k (by omega)] at h2
  simp at h2
/-- one byte turned anywhere: never this block -/
theorem turned_no {e : Int} {L : List RecD} (hl : L.length ≤ 6) {k : Nat} (hk : k < 256) {z : Int} (hz : z ≠ (blkB e L).getD k 0) : ((blkB e L).set k z).length = 256 ∧ allZ ((blkB e L).set k z) = false ∧ (blkB e L).set k z ≠ blkB e L := by
  have hlen := blkB_len e L hl
  have hset := set_getD (blkB e L) k z (by omega)
  have hl' : ((blkB e L).set k z).length = 256 := by rw [List.length_set, hlen]
  refine ⟨hl', ?_, fun h => ?_⟩
  · cases ha : allZ ((blkB e L).set k z) with
    | false => rfl
    | true =>
      have hall : ∀ i, i < 256 → ((blkB e L).set k z).getD i 0 = 0 := fun i hi => allZ_iff.1 ha _ (by rw [getD_lt (by omega)]; exact List.getElem_mem _)
      have a0 := (blkB_low e L 0 (by omega)).trans (blkHead_m e L.length 0 (by omega))
      have a1 := (blkB_low e L 1 (by omega)).trans (blkHead_m e L.length 1 (by omega))
      have b0 := hall 0 (by omega)
      have b1 := hall 1 (by omega)
      rw [hset] at b0 b1
      simp [blkMagic] at a0 a1
      split at b0
      · split at b1
        · omega
        · simp at b1; omega
      · simp at b0; omega
  · have h2 : ((blkB e L).set k z).getD k 0 = (blkB e L).getD k 0 := by rw [h]
    rw [hset, if_pos rfl] at h2
    exact hz h2
end Go.Proofs.YtpgelebmhhcodaaDoor
