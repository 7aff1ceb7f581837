/- Errors by their numbers: 0 (none), 101 .. 118. -/
import Derived.Test.YtoikdhfihkbcbaaDoorIs
namespace Go.Proofs.YtoikdhfihkbcbaaDoor
open Go.RowKit
set_option linter.unusedVariables false

/-- the error of such a number -/
def eC (ea : Nat → Addr) (c : Int) : Value := if c = 0 then .nilIface else eV ea (c - 101).toNat
def OkC (c : Int) : Prop := c = 0 ∨ 101 ≤ c ∧ c ≤ 118

theorem eC_zero (ea : Nat → Addr) : eC ea 0 = .nilIface := rfl
theorem eC_s (ea : Nat → Addr) (i : Nat) : eC ea (101 + i) = eV ea i := by
  unfold eC; rw [if_neg (by omega), show ((101 : Int) + i - 101).toNat = i from by omega]

/-- Is, of an error by its number -/
theorem isC {ea : Nat → Addr} (w : World) (h : Sen ea w) (c : Int) (hc : OkC c) (d : Int) :
    Calls Tryd.prog 20 #[eC ea c, .int .i64 d] w fun e w' => e = .returned (.bool (c == d)) ∧ Below w.heap.size w w' := by
  rcases hc with rfl | ⟨h1, h2⟩
  · refine (isErr w h _ .none (by exact rfl) rfl d).mono ?_
    rintro e w' ⟨rfl, hb⟩
    exact ⟨by simp [Er.code, Er.placed, Er.pos], hb⟩
  · obtain ⟨i, rfl⟩ : ∃ i : Nat, c = 101 + i := ⟨(c - 101).toNat, by omega⟩
    rw [eC_s]
    refine (isErr w h _ (.s i) ⟨by omega, rfl⟩ rfl d).mono ?_
    rintro e w' ⟨rfl, hb⟩
    exact ⟨by simp [Er.code, Er.placed, Er.pos], hb⟩
end Go.Proofs.YtoikdhfihkbcbaaDoor
