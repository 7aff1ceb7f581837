/- Plain laws: a record's bytes, read again. No program. -/
import Derived.Test.YtpgelebmhhcodaaDoorPlain
import Derived.Test.YtpgelebmhhcodaaDoorRecRow
namespace Go.Proofs.YtpgelebmhhcodaaDoor
open Go.RowKit
set_option linter.unusedVariables false

theorem recAt_step : ∀ k : Fin 9, ∀ j : Fin 9, j < k → recAt j + recSz j ≤ recAt k := by decide

theorem recTo_get (r : RecD) (k j : Nat) (hk : k ≤ 9) (hj : j < k) : getL (recTo r k) (recAt j) (recSz j) = recNo r j % 2 ^ (8 * (recSz j).toNat) := by
  induction k with
  | zero => omega
  | succ k ih =>
    have hl := recTo_length r k
    have hbk := recAt_bounds k (by omega)
    have hbj := recAt_bounds j (by omega)
    rw [recTo]
    by_cases e : j = k
    · subst e
      exact get_put_small _ _ _ _ hbj.1 (by omega) (recNo_bounds r j (by omega)).1 hbj.2.2.1 hbj.2.2.2
    · have hs : recAt j + recSz j ≤ recAt k := recAt_step ⟨k, by omega⟩ ⟨j, by omega⟩ (Fin.mk_lt_mk.2 (by omega))
      rw [get_put_before _ _ _ _ _ _ hbj.1 hs hbj.2.2.1 hbj.2.2.2 (by omega)]
      exact ih (by omega) (by omega)

/-- a byte that no number covers stays -/
theorem recTo_byte (r : RecD) (k i : Nat) (hk : k ≤ 9) (hi : i < 40) (h : ∀ j : Nat, j < k → (i : Int) < recAt j ∨ recAt j + recSz j ≤ i) : (recTo r k).getD i 0 = 0 := by
  induction k with
  | zero => rw [recTo, List.getD_eq_getElem?_getD, List.getElem?_replicate, if_pos hi]; rfl
  | succ k ih =>
    have hl := recTo_length r k
    have hbk := recAt_bounds k (by omega)
    rw [recTo, putL_other _ _ _ _ _ (by omega) (h k (by omega)) hbk.2.2.1 hbk.2.2.2]
    exact ih (by omega) (fun j hj => h j (by omega))

theorem recB_zero (r : RecD) (i : Nat) (h : i = 6 ∨ i = 7 ∨ i = 20 ∨ i = 21 ∨ i = 22 ∨ i = 23) : (recB r).getD i 0 = 0 := by
  rw [← recTo_all]
  have hd : ∀ j : Fin 9, (6 < recAt j ∨ recAt j + recSz j ≤ 6) ∧ (7 < recAt j ∨ recAt j + recSz j ≤ 7) ∧ (20 < recAt j ∨ recAt j + recSz j ≤ 20) ∧ (21 < recAt j ∨ recAt j + recSz j ≤ 21) ∧ (22 < recAt j ∨ recAt j + recSz j ≤ 22) ∧ (23 < recAt j ∨ recAt j + recSz j ≤ 23) := by decide
  rcases h with rfl | rfl | rfl | rfl | rfl | rfl
  · exact recTo_byte r 9 6 (by omega) (by omega) fun j hj => (hd ⟨j, hj⟩).1
  · exact recTo_byte r 9 7 (by omega) (by omega) fun j hj => (hd ⟨j, hj⟩).2.1
  · exact recTo_byte r 9 20 (by omega) (by omega) fun j hj => (hd ⟨j, hj⟩).2.2.1
  · exact recTo_byte r 9 21 (by omega) (by omega) fun j hj => (hd ⟨j, hj⟩).2.2.2.1
  · exact recTo_byte r 9 22 (by omega) (by omega) fun j hj => (hd ⟨j, hj⟩).2.2.2.2.1
  · exact recTo_byte r 9 23 (by omega) (by omega) fun j hj => (hd ⟨j, hj⟩).2.2.2.2.2

theorem flagsR_bounds (r : RecD) : 0 ≤ flagsR r ∧ flagsR r ≤ 3 := by unfold flagsR; cases r.had <;> cases r.has <;> decide

theorem recTo_one (r : RecD) (k : Nat) (hk : k ≤ 9) (h2 : 2 ≤ k) : (recTo r k).getD 1 0 = flagsR r := by
  induction k with
  | zero => omega
  | succ k ih =>
    have hl := recTo_length r k
    have hbk := recAt_bounds k (by omega)
    rw [recTo]
    by_cases e : k = 1
    · subst e
      have hf := flagsR_bounds r
      have e1 : recAt 1 = 1 := rfl
      have e2 : recSz 1 = 1 := rfl
      have e3 : recNo r 1 = flagsR r := rfl
      rw [e1, e2, e3, putL_get _ _ _ _ _ (by omega), if_pos (by decide)]
      simp
      omega
    · have hs : recAt 1 + recSz 1 ≤ recAt k := recAt_step ⟨k, by omega⟩ ⟨1, by omega⟩ (Fin.mk_lt_mk.2 (by omega))
      have e1 : recAt 1 = 1 := rfl
      have e2 : recSz 1 = 1 := rfl
      simp only [e1, e2] at hs
      rw [putL_other _ _ _ _ _ (by omega) (.inl (by omega)) hbk.2.2.1 hbk.2.2.2]
      exact ih (by omega) (by omega)
theorem recB_one (r : RecD) : (recB r).getD 1 0 = flagsR r := by rw [← recTo_all]; exact recTo_one r 9 (by omega) (by omega)

theorem inB_iff (n lo hi : Int) : inB n lo hi = true ↔ lo ≤ n ∧ n ≤ hi := by simp [inB]

/-- the numbers' bounds of one that may be -/
theorem okR_bounds {r : RecD} (h : okR r = true) : (1 ≤ r.kind ∧ r.kind ≤ 10) ∧ (0 ≤ r.txn ∧ r.txn ≤ 60000) ∧ (0 ≤ r.page ∧ r.page ≤ 32) ∧ (0 ≤ r.prev ∧ r.prev ≤ 1073741824) ∧ (0 ≤ r.next ∧ r.next ≤ 1073741824) ∧ (0 ≤ r.key ∧ r.key ≤ 1048575) := by
  unfold okR at h
  simp only [Bool.and_eq_true, inB_iff] at h
  obtain ⟨h1, h2, h3, h4, h5, h6, h7⟩ := h
  refine ⟨h1, ?_, ?_, ?_, ?_, ?_⟩
  · unfold txnTop at h2; split at h2 <;> omega
  · unfold pageTop at h3; split at h3 <;> omega
  · unfold prevB at h4
    split at h4
    · simp at h4; omega
    · split at h4 <;> rw [inB_iff] at h4 <;> omega
  · unfold nextB at h5
    split at h5
    · rw [inB_iff] at h5; omega
    · split at h5
      · rw [inB_iff] at h5; omega
      · simp at h5; omega
  · unfold keyB at h6
    split at h6
    · rw [inB_iff] at h6; omega
    · split at h6
      · rw [inB_iff] at h6; omega
      · simp at h6; omega

theorem i64_u64 {n : Int} (h : I64 n) : i64 (u64 n % 2 ^ 64) = n := by
  unfold I64 at h
  unfold i64 u64
  have e : (2 : Int) ^ 64 = 18446744073709551616 := by decide
  rw [e]
  split <;> omega

theorem recOf_recB {r : RecD} (h : okR r = true) (hw : r.W) : recOf (recB r) = r := by
  have hb := okR_bounds h
  have g := fun (j : Nat) (hj : j < 9) => recTo_get r 9 j (by omega) hj
  simp only [recTo_all] at g
  have g0 : getL (recB r) 0 1 = u64 r.kind % 2 ^ 8 := g 0 (by omega)
  have g2 : getL (recB r) 2 2 = u64 r.txn % 2 ^ 16 := g 2 (by omega)
  have g3 : getL (recB r) 4 2 = u64 r.page % 2 ^ 16 := g 3 (by omega)
  have g4 : getL (recB r) 8 4 = u64 r.prev % 2 ^ 32 := g 4 (by omega)
  have g5 : getL (recB r) 12 4 = u64 r.next % 2 ^ 32 := g 5 (by omega)
  have g6 : getL (recB r) 16 4 = u64 r.key % 2 ^ 32 := g 6 (by omega)
  have g7 : getL (recB r) 24 8 = u64 r.old % 2 ^ 64 := g 7 (by omega)
  have g8 : getL (recB r) 32 8 = u64 r.new % 2 ^ 64 := g 8 (by omega)
  have s : ∀ n : Int, 0 ≤ n → n ≤ 1073741824 → u64 n = n := fun n h0 h1 => by unfold u64; omega
  rw [s _ (by omega) (by omega)] at g0 g2 g3 g4 g5 g6
  have e8 : (2 : Int) ^ 8 = 256 := by decide
  have e16 : (2 : Int) ^ 16 = 65536 := by decide
  have e32 : (2 : Int) ^ 32 = 4294967296 := by decide
  rw [e8] at g0
  rw [e16] at g2 g3
  rw [e32] at g4 g5 g6
  unfold recOf
  rw [g0, g2, g3, g4, g5, g6, g7, g8, recB_one, i64_u64 hw.old, i64_u64 hw.new]
  obtain ⟨kind, txn, page, prev, next, key, had, has, old, new⟩ := r
  dsimp only at hb
  simp only [RecD.mk.injEq]
  refine ⟨by omega, by omega, by omega, by omega, by omega, by omega, ?_, ?_, trivial, trivial⟩
  · cases had <;> cases has <;> rfl
  · cases had <;> cases has <;> rfl

theorem readR_back {r : RecD} (h : okR r = true) (hw : r.W) : readR (recB r) = (r, 0) := by
  unfold readR
  rw [if_neg (by rw [recB_length]; simp), recOf_recB h hw, h]
  have : sameB (recB r) (recB r) = true := by simp [sameB]
  rw [this]; rfl
theorem readR_ok {b : List Int} (h : (readR b).2 = 0) : b = recB (readR b).1 ∧ okR (readR b).1 = true := by
  unfold readR at *
  split at h
  · simp at h
  · rename_i h1
    split at h
    · rename_i h2
      rw [if_neg h1, if_pos h2]
      simp only [Bool.and_eq_true] at h2
      exact ⟨(sameB_iff.1 h2.2).symm, h2.1⟩
    · simp at h
theorem recB_inj {a b : RecD} (ha : okR a = true) (hb : okR b = true) (wa : a.W) (wb : b.W) (h : recB a = recB b) : a = b := by
  rw [← recOf_recB ha wa, ← recOf_recB hb wb, h]
theorem recOf_W {b : List Int} (hB : IsB b) : (recOf b).W := by
  have small : ∀ at_ size, size = 1 ∨ size = 2 ∨ size = 4 → I64 (getL b at_ size) := by
    intro at_ size hs
    have hp : ∀ m : Nat, m ≤ 4 → getTo b at_ m < 2 ^ 32 := by
      intro m hm
      have := (getTo_bounds hB at_ m).2
      have h2 : (2 : Int) ^ (8 * m) ≤ 2 ^ 32 := by exact_mod_cast Nat.pow_le_pow_right (show 0 < 2 by decide) (show 8 * m ≤ 32 by omega)
      omega
    have h0 := getL_bounds hB at_ size
    have h1 : getL b at_ size < 2 ^ 32 := by
      unfold getL
      rcases hs with rfl | rfl | rfl
      · exact hp _ (by decide)
      · exact hp _ (by decide)
      · exact hp _ (by decide)
    have e32 : (2 : Int) ^ 32 = 4294967296 := by decide
    rw [e32] at h1
    unfold I64; omega
  have big : ∀ n, 0 ≤ n → n ≤ 18446744073709551615 → I64 (i64 n) := by
    intro n h0 h1; unfold I64 i64; split <;> omega
  have h8 := getL_bounds hB 24 8
  have h9 := getL_bounds hB 32 8
  exact ⟨small _ _ (by simp), small _ _ (by simp), small _ _ (by simp), small _ _ (by simp), small _ _ (by simp), small _ _ (by simp), big _ h8.1 h8.2, big _ h9.1 h9.2⟩
theorem readR_W {b : List Int} (hB : IsB b) : (readR b).1.W := by
  unfold readR
  have h0 : rec00.W := by constructor <;> simp [rec00, I64]
  split
  · exact h0
  · split
    · exact recOf_W hB
    · exact h0
/-- a byte that must be zero, and is not -/
theorem readR_zero (b : List Int) (k : Nat) (hk : k = 6 ∨ k = 7 ∨ k = 20 ∨ k = 21 ∨ k = 22 ∨ k = 23) (hb : b.getD k 0 ≠ 0) : (readR b).2 ≠ 0 := by
  intro h
  have h1 := (readR_ok h).1
  rw [h1] at hb
  exact hb (recB_zero _ k hk)
/-- a flag that is none -/
theorem readR_flag (b : List Int) (hb : 3 < b.getD 1 0) : (readR b).2 ≠ 0 := by
  intro h
  have h1 := (readR_ok h).1
  rw [h1, recB_one] at hb
  have := flagsR_bounds (readR b).1
  omega
end Go.Proofs.YtpgelebmhhcodaaDoor
