/- A byte turned. No program. -/
import Derived.Test.YtpgelebmhhcodaaDoorBase
namespace Go.Proofs.YtpgelebmhhcodaaDoor
open Go.RowKit

theorem bits_xor_u8_nat (a b : Nat) (ha : a < 256) (hb : b < 256) : bits .xor .u8 (a : Int) (b : Int) = ((a ^^^ b : Nat) : Int) := by
  have hx : a ^^^ b < 2 ^ 8 := Nat.xor_lt_two_pow (by omega) (by omega)
  have h1 : (BitVec.ofInt 8 (a : Int)).toNat = a := by
    rw [BitVec.ofInt_natCast, BitVec.toNat_ofNat]; exact Nat.mod_eq_of_lt (by omega)
  have h2 : (BitVec.ofInt 8 (b : Int)).toNat = b := by
    rw [BitVec.ofInt_natCast, BitVec.toNat_ofNat]; exact Nat.mod_eq_of_lt (by omega)
  show IntKind.u8.wrap ((BitVec.ofInt 8 (a : Int) ^^^ BitVec.ofInt 8 (b : Int)).toNat : Int) = _
  rw [BitVec.toNat_xor, h1, h2, IntKind.wrap_u8]
  omega

/-- a byte, turned -/
theorem xor_byte (x y : Int) (h0 : 0 ≤ x) (h1 : x ≤ 255) (k0 : 0 ≤ y) (k1 : y ≤ 255) : ∃ z, bits .xor .u8 x y = z ∧ 0 ≤ z ∧ z ≤ 255 ∧ (y ≠ 0 → z ≠ x) := by
  obtain ⟨a, rfl⟩ := Int.eq_ofNat_of_zero_le h0
  obtain ⟨b, rfl⟩ := Int.eq_ofNat_of_zero_le k0
  have ha : a < 2 ^ 8 := by omega
  have hb : b < 2 ^ 8 := by omega
  have h := Nat.xor_lt_two_pow ha hb
  refine ⟨((a ^^^ b : Nat) : Int), bits_xor_u8_nat a b (by omega) (by omega), by omega, by omega, fun hy he => hy ?_⟩
  have h2 : a ^^^ b = a := by omega
  have h3 : a ^^^ (a ^^^ b) = a ^^^ a := by rw [h2]
  rw [← Nat.xor_assoc, Nat.xor_self, Nat.zero_xor] at h3
  omega
end Go.Proofs.YtpgelebmhhcodaaDoor
