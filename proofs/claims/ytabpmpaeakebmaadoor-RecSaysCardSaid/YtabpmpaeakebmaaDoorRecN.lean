/- Plain laws on a record's bytes. No program. -/
import Derived.Test.YtabpmpaeakebmaaDoorRecP
namespace Go.Proofs.YtabpmpaeakebmaaDoor
open Go.RowKit
set_option linter.unusedVariables false

theorem getL_smallN {l : List Int} (hl : IsB l) (at_ size : Int) (hs : size = 1 ∨ size = 2 ∨ size = 4) : 0 ≤ getL l at_ size ∧ getL l at_ size < 4294967296 := by
  unfold getL
  rcases hs with rfl | rfl | rfl
  · have := getTo_bounds hl at_ 1
    have e : (sz 1).toNat = 1 := by decide
    rw [e]; omega
  · have := getTo_bounds hl at_ 2
    have e : (sz 2).toNat = 2 := by decide
    rw [e]; omega
  · have := getTo_bounds hl at_ 4
    have e : (sz 4).toNat = 4 := by decide
    rw [e]; omega
theorem getL_eightN {l : List Int} (hl : IsB l) (at_ : Int) : 0 ≤ getL l at_ 8 ∧ getL l at_ 8 < 18446744073709551616 := getTo_bounds hl at_ 8

theorem bits_and_u8_natN (a b : Nat) (ha : a < 256) (hb : b < 256) : bits .and .u8 (a : Int) (b : Int) = ((a &&& b : Nat) : Int) := by
  have hx : a &&& b < 2 ^ 8 := Nat.and_lt_two_pow _ (by omega)
  have h1 : (BitVec.ofInt 8 (a : Int)).toNat = a := by
    rw [BitVec.ofInt_natCast, BitVec.toNat_ofNat]; exact Nat.mod_eq_of_lt (by omega)
  have h2 : (BitVec.ofInt 8 (b : Int)).toNat = b := by
    rw [BitVec.ofInt_natCast, BitVec.toNat_ofNat]; exact Nat.mod_eq_of_lt (by omega)
  show IntKind.u8.wrap ((BitVec.ofInt 8 (a : Int) &&& BitVec.ofInt 8 (b : Int)).toNat : Int) = _
  rw [BitVec.toNat_and, h1, h2, IntKind.wrap_u8]
  omega
theorem and_oneN (x : Int) (h0 : 0 ≤ x) (h1 : x ≤ 255) : bits .and .u8 x 1 = x % 2 := by
  obtain ⟨a, rfl⟩ := Int.eq_ofNat_of_zero_le h0
  rw [show (1 : Int) = ((1 : Nat) : Int) from rfl, bits_and_u8_natN _ _ (by omega) (by omega), Nat.and_one_is_mod]
  omega
theorem and_twoN (x : Int) (h0 : 0 ≤ x) (h1 : x ≤ 255) : bits .and .u8 x 2 = x / 2 % 2 * 2 := by
  obtain ⟨a, rfl⟩ := Int.eq_ofNat_of_zero_le h0
  rw [show (2 : Int) = ((2 : Nat) : Int) from rfl, bits_and_u8_natN _ _ (by omega) (by omega)]
  have ha : a < 256 := by omega
  have h : ∀ a : Fin 256, a.val &&& 2 = a.val / 2 % 2 * 2 := by decide +kernel
  have := h ⟨a, ha⟩
  simp only at this
  rw [this]
  omega

end Go.Proofs.YtabpmpaeakebmaaDoor
