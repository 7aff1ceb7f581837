/- Plain laws on masters. No program. -/
import Derived.Test.YtabpmpaeakebmaaDoorPlain
namespace Go.Proofs.YtabpmpaeakebmaaDoor
open Go.RowKit
set_option linter.unusedVariables false

structure MasD where
  epoch : Int
  base : Int
  reset : Int
  ckpt : Int
  pages : Int
  blocks : Int
  frames : Int
deriving DecidableEq

def J64 (n : Int) : Prop := -9223372036854775808 ≤ n ∧ n ≤ 9223372036854775807
/-- its numbers are of their kinds -/
structure MasD.W (m : MasD) : Prop where
  epoch : J64 m.epoch
  base : J64 m.base
  reset : J64 m.reset
  ckpt : J64 m.ckpt
  pages : J64 m.pages
  blocks : J64 m.blocks
  frames : J64 m.frames

/-- the master as a value -/
def masV (m : MasD) : Value := .agg #[.int .i64 m.epoch, .int .i64 m.base, .int .i64 m.reset, .int .i64 m.ckpt, .int .i64 m.pages, .int .i64 m.blocks, .int .i64 m.frames]

def inM (n lo hi : Int) : Bool := decide (lo ≤ n) && decide (n ≤ hi)
/-- whether a master may be -/
def okM (m : MasD) : Bool :=
  inM m.epoch 1 1073741824 && (inM m.base 0 1073741824 && (inM m.reset 1 m.epoch && ((m.ckpt == 0 || inM m.ckpt (m.base + 1) 1073741824) && (inM m.pages 1 32 && (inM m.blocks 1 64 && inM m.frames 1 8)))))
def u64M (n : Int) : Int := n % 18446744073709551616
def masNo (m : MasD) (k : Nat) : Int := [m.epoch, m.base, m.reset, m.ckpt, m.pages, m.blocks, m.frames].getD k 0
def masHead : List Int := [80, 72, 88, 77]
/-- the first k numbers put -/
def masTo (m : MasD) : Nat → List Int
  | 0 => fillL masHead 256
  | k + 1 => putL (masTo m k) (4 + 4 * k) 4 (u64M (masNo m k))
/-- its bytes -/
def masB (m : MasD) : List Int := masTo m 7
def masOf (b : List Int) : MasD := ⟨getL b 4 4, getL b 8 4, getL b 12 4, getL b 16 4, getL b 20 4, getL b 24 4, getL b 28 4⟩
def mas0 : MasD := ⟨0, 0, 0, 0, 0, 0, 0⟩
def sameMB (a b : MasD) : Bool := decide (a = b)

theorem isB_masHead : IsB masHead := by intro x hx; simp [masHead] at hx; omega
theorem masTo_length (m : MasD) (k : Nat) : (masTo m k).length = 256 := by
  induction k with
  | zero => have := fillL_length masHead 256; simp [masTo, masHead] at this ⊢; omega
  | succ k ih => rw [masTo, putL_length, ih]
theorem isB_masTo (m : MasD) (k : Nat) : IsB (masTo m k) := by
  cases k with
  | zero => exact isB_fill isB_masHead _
  | succ k => exact isB_put (by induction k with
    | zero => exact isB_fill isB_masHead _
    | succ k ih => exact isB_put ih _ _ _) _ _ _
theorem masB_length (m : MasD) : (masB m).length = 256 := masTo_length m 7
theorem isB_masB (m : MasD) : IsB (masB m) := isB_masTo m 7

theorem u64M_small {n : Int} (h0 : 0 ≤ n) (h1 : n ≤ 1073741824) : u64M n = n := by unfold u64M; omega
theorem u64M_bounds (n : Int) : 0 ≤ u64M n ∧ u64M n ≤ 18446744073709551615 := by unfold u64M; omega

theorem get_put_far (l : List Int) (at_ b n : Int) (hb : 0 ≤ b) (hd : at_ + 4 ≤ b ∨ b + 4 ≤ at_) (hin : b + 4 ≤ l.length) : getL (putL l at_ 4 n) b 4 = getL l b 4 := by
  have e : sz 4 = 4 := by decide
  unfold getL
  rw [e]
  refine getTo_congr _ _ (putL_length _ _ _ _) fun i hi hb => ?_
  rw [putL_get _ _ _ _ _ (by omega), if_neg (by rw [e]; omega)]

theorem masTo_get (m : MasD) (k j : Nat) (hk : k ≤ 7) (hj : j < k) : getL (masTo m k) (4 + 4 * j) 4 = u64M (masNo m j) % 4294967296 := by
  induction k with
  | zero => omega
  | succ k ih =>
    rw [masTo]
    by_cases e : j = k
    · subst e
      have h := masTo_length m j
      rw [get_put_small _ _ _ _ (by omega) (by omega) (u64M_bounds _).1 (by omega) (by omega)]
      rfl
    · have h := masTo_length m k
      rw [get_put_far _ _ _ _ (by omega) (by omega) (by omega)]
      exact ih (by omega) (by omega)

/-- the numbers' bounds of one that may be -/
theorem okM_bounds {m : MasD} (h : okM m = true) : (1 ≤ m.epoch ∧ m.epoch ≤ 1073741824) ∧ (0 ≤ m.base ∧ m.base ≤ 1073741824) ∧ (1 ≤ m.reset ∧ m.reset ≤ m.epoch) ∧ (m.ckpt = 0 ∨ m.base + 1 ≤ m.ckpt ∧ m.ckpt ≤ 1073741824) ∧ (1 ≤ m.pages ∧ m.pages ≤ 32) ∧ (1 ≤ m.blocks ∧ m.blocks ≤ 64) ∧ (1 ≤ m.frames ∧ m.frames ≤ 8) := by
  unfold okM inM at h
  simpa using h
theorem okM_of_bounds {m : MasD} (h : (1 ≤ m.epoch ∧ m.epoch ≤ 1073741824) ∧ (0 ≤ m.base ∧ m.base ≤ 1073741824) ∧ (1 ≤ m.reset ∧ m.reset ≤ m.epoch) ∧ (m.ckpt = 0 ∨ m.base + 1 ≤ m.ckpt ∧ m.ckpt ≤ 1073741824) ∧ (1 ≤ m.pages ∧ m.pages ≤ 32) ∧ (1 ≤ m.blocks ∧ m.blocks ≤ 64) ∧ (1 ≤ m.frames ∧ m.frames ≤ 8)) : okM m = true := by
  unfold okM inM
  simpa using h

theorem masOf_masB {m : MasD} (h : okM m = true) : masOf (masB m) = m := by
  have hb := okM_bounds h
  have g : ∀ j : Nat, j < 7 → getL (masB m) (4 + 4 * j) 4 = u64M (masNo m j) % 4294967296 := fun j hj => masTo_get m 7 j (by omega) hj
  have s : ∀ n : Int, 0 ≤ n → n ≤ 1073741824 → u64M n % 4294967296 = n := fun n h0 h1 => by rw [u64M_small h0 h1]; omega
  have g0 := g 0 (by omega); have g1 := g 1 (by omega); have g2 := g 2 (by omega); have g3 := g 3 (by omega); have g4 := g 4 (by omega); have g5 := g 5 (by omega); have g6 := g 6 (by omega)
  simp only [masNo, List.getD_cons_zero, List.getD_cons_succ] at g0 g1 g2 g3 g4 g5 g6
  rw [s _ (by omega) (by omega)] at g0 g1 g2 g3 g4 g5 g6
  obtain ⟨e, b, r, c, p, bl, f⟩ := m
  unfold masOf
  simp only [MasD.mk.injEq]
  exact ⟨g0, g1, g2, g3, g4, g5, g6⟩

/-- what Read makes of bytes: a master and nothing, or none and an error's number -/
def readM (b : List Int) : MasD × Int :=
  if b.length ≠ 256 then (mas0, 103) else if okM (masOf b) && sameB (masB (masOf b)) b then (masOf b, 0) else (mas0, 106)

theorem readM_back {m : MasD} (h : okM m = true) : readM (masB m) = (m, 0) := by
  unfold readM
  rw [if_neg (by simp [masB_length]), masOf_masB h, h]
  simp [sameB]

theorem readM_ok {b : List Int} {m : MasD} (h : (readM b).2 = 0) : b = masB (readM b).1 ∧ okM (readM b).1 = true := by
  unfold readM at *
  split at h
  · simp at h
  · rename_i h1
    split at h
    · rename_i h2
      rw [if_neg h1, if_pos h2]
      simp only [Bool.and_eq_true] at h2
      exact ⟨(sameB_iff.1 h2.2).symm, h2.1⟩
    · simp at h
theorem put4_get (l : List Int) (at_ n : Int) (i : Nat) (hi : i < l.length) : (putL l at_ 4 n).getD i 0 = if at_ ≤ i ∧ (i : Int) < at_ + 4 then (n / 2 ^ (8 * (i - at_).toNat)) % 256 else l.getD i 0 := putL_get l at_ 4 n i hi
theorem masTo_head (m : MasD) (k : Nat) (i : Nat) (hi : i < 256) (h : i < 4 ∨ 4 + 4 * k ≤ i) : (masTo m k).getD i 0 = (fillL masHead 256).getD i 0 := by
  induction k with
  | zero => rfl
  | succ k ih =>
    have hl := masTo_length m k
    rw [masTo, put4_get _ _ _ _ (by omega), if_neg (by omega), ih (by omega)]
theorem fill_head (i : Nat) (hi : i < 4) : (fillL masHead 256).getD i 0 = masHead.getD i 0 := by
  match i, hi with
  | 0, _ | 1, _ | 2, _ | 3, _ => rfl
  | i + 4, h => omega
theorem fill_tail (i : Nat) (hi : 4 ≤ i) : (fillL masHead 256).getD i 0 = 0 := by
  unfold fillL
  rw [List.getD_eq_getElem?_getD, List.getElem?_append_right (by simpa [masHead] using hi)]
  by_cases h : i - masHead.length < (256 - (masHead.length : Int)).toNat
  · rw [List.getElem?_replicate, if_pos h]; rfl
  · rw [List.getElem?_replicate, if_neg h]; rfl
theorem masB_head (m : MasD) (i : Nat) (hi : i < 4) : (masB m).getD i 0 = masHead.getD i 0 := by
  unfold masB; rw [masTo_head m 7 i (by omega) (.inl hi), fill_head i hi]
theorem masB_tail (m : MasD) (i : Nat) (h0 : 32 ≤ i) (hi : i < 256) : (masB m).getD i 0 = 0 := by
  unfold masB; rw [masTo_head m 7 i hi (.inr (by omega)), fill_tail i (by omega)]
theorem masTo_digit (m : MasD) (k j c : Nat) (hk : k ≤ 7) (hj : j < k) (hc : c < 4) : (masTo m k).getD (4 + 4 * j + c) 0 = (u64M (masNo m j) / 2 ^ (8 * c)) % 256 := by
  induction k with
  | zero => omega
  | succ k ih =>
    have hl := masTo_length m k
    rw [masTo, put4_get _ _ _ _ (by omega)]
    by_cases e : j = k
    · subst e
      rw [if_pos (by omega), show (((4 + 4 * j + c : Nat) : Int) - (4 + 4 * (j : Int))).toNat = c from by omega]
    · rw [if_neg (by omega)]; exact ih (by omega) (by omega)
theorem masB_inj {a b : MasD} (ha : okM a = true) (hb : okM b = true) (h : masB a = masB b) : a = b := by
  rw [← masOf_masB ha, ← masOf_masB hb, h]
end Go.Proofs.YtabpmpaeakebmaaDoor
