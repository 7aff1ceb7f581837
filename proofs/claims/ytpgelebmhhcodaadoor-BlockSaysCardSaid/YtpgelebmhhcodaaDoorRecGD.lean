/- Contract: the document's GoodRec, some kinds. -/
import Derived.Test.YtpgelebmhhcodaaDoorByteT
import Derived.Test.YtpgelebmhhcodaaDoorRecGA
import Derived.Test.YtpgelebmhhcodaaDoorRecGB
import Derived.Test.YtpgelebmhhcodaaDoorRecGC
namespace Go.Proofs.YtpgelebmhhcodaaDoor
open Go.RowKit
set_option linter.unusedVariables false
set_option linter.unusedSimpArgs false

set_option maxRecDepth 20000 in
set_option maxHeartbeats 3200000 in
theorem goodRec10 (txn page prev next key old new : Int) (had has : Bool) (w : World) :
    Calls Tryd.prog 23 #[.agg #[.int .i64 10, .int .i64 txn, .int .i64 page, .int .i64 prev, .int .i64 next, .int .i64 key, .bool had, .bool has, .int .i64 old, .int .i64 new]] w fun e w' => e = .returned (.bool (okR ⟨10, txn, page, prev, next, key, had, has, old, new⟩)) ∧ Below w.heap.size w w' := by
  have hb : ∀ o, Below w.heap.size w (w.alloc o) := fun o => (Below.refl _ _).alloc (Nat.le_refl _) o
  have HI := Lib.hid fromRefB
  have HB := Lib.hid hb
  clear hb
  have e6 : inB 10 1 6 = false := by decide
  have e10 : inB 10 1 10 = true := by decide
  have hok : okR ⟨10, txn, page, prev, next, key, had, has, old, new⟩ = okR ⟨10, txn, page, prev, next, key, had, has, old, new⟩ := rfl
  conv at hok => rhs; simp [okR, txnTop, pageTop, prevB, nextB, keyB, valsB, inB_zero, e10]
  rw [hok]
  clear hok
  go_enter Tryd.func23, Tryd.ntmps23
  go_wp2_with (first | (go_at_call 21; refine (HI.out _ _ _ _).mono ?_; rintro e w1 ⟨rfl, rfl⟩))
  all_goals go_ret
  all_goals refine ⟨?_, HB.out _⟩
  all_goals go_light
  all_goals clear HI HB
  all_goals first | (simp_all [inB_zero, inB_t, inB_p, inB_one]; done) | (simp_all [inB_zero, inB_t, inB_p, inB_one]; omega) | (simp_all [inB_zero, inB_t, inB_p, inB_one]; rfl) | (cases had <;> cases has <;> first | (simp_all [inB_zero, inB_t, inB_p, inB_one]; done) | (simp_all [inB_zero, inB_t, inB_p, inB_one]; omega) | (simp_all [inB_zero, inB_t, inB_p, inB_one]; rfl))


set_option maxRecDepth 20000 in
set_option maxHeartbeats 3200000 in
theorem goodRecX (kind txn page prev next key old new : Int) (had has : Bool) (hk : inB kind 1 10 = false) (w : World) :
    Calls Tryd.prog 23 #[.agg #[.int .i64 kind, .int .i64 txn, .int .i64 page, .int .i64 prev, .int .i64 next, .int .i64 key, .bool had, .bool has, .int .i64 old, .int .i64 new]] w fun e w' => e = .returned (.bool (okR ⟨kind, txn, page, prev, next, key, had, has, old, new⟩)) ∧ Below w.heap.size w w' := by
  have hb : ∀ o, Below w.heap.size w (w.alloc o) := fun o => (Below.refl _ _).alloc (Nat.le_refl _) o
  have HI := Lib.hid fromRefB
  have HB := Lib.hid hb
  clear hb
  have hok : okR ⟨kind, txn, page, prev, next, key, had, has, old, new⟩ = false := by unfold okR; rw [hk]; rfl
  have e6 : inB kind 1 6 = false := by unfold inB at *; simp at *; omega
  have e8 : (kind == 8) = false := by unfold inB at hk; simp at *; omega
  have e2 : (kind == 2) = false := by unfold inB at hk; simp at *; omega
  have e3 : (kind == 3) = false := by unfold inB at hk; simp at *; omega
  have e9 : (kind == 9) = false := by unfold inB at hk; simp at *; omega
  rw [hok]
  clear hok
  go_enter Tryd.func23, Tryd.ntmps23
  go_wp2_with (first | (go_at_call 21; refine (HI.out _ _ _ _).mono ?_; rintro e w1 ⟨rfl, rfl⟩))
  all_goals go_ret
  all_goals refine ⟨?_, HB.out _⟩
  all_goals rfl

/-- GoodRec -/
theorem goodRec (r : RecD) (w : World) :
    Calls Tryd.prog 23 #[recV r] w fun e w' => e = .returned (.bool (okR r)) ∧ Below w.heap.size w w' := by
  obtain ⟨kind, txn, page, prev, next, key, had, has, old, new⟩ := r
  by_cases hk : inB kind 1 10 = true
  · have h : kind = 1 ∨ kind = 2 ∨ kind = 3 ∨ kind = 4 ∨ kind = 5 ∨ kind = 6 ∨ kind = 7 ∨ kind = 8 ∨ kind = 9 ∨ kind = 10 := by unfold inB at hk; simp at hk; omega
    rcases h with rfl | rfl | rfl | rfl | rfl | rfl | rfl | rfl | rfl | rfl
    · exact goodRec1 _ _ _ _ _ _ _ _ _ w
    · exact goodRec2 _ _ _ _ _ _ _ _ _ w
    · exact goodRec3 _ _ _ _ _ _ _ _ _ w
    · exact goodRec4 _ _ _ _ _ _ _ _ _ w
    · exact goodRec5 _ _ _ _ _ _ _ _ _ w
    · exact goodRec6 _ _ _ _ _ _ _ _ _ w
    · exact goodRec7 _ _ _ _ _ _ _ _ _ w
    · exact goodRec8 _ _ _ _ _ _ _ _ _ w
    · exact goodRec9 _ _ _ _ _ _ _ _ _ w
    · exact goodRec10 _ _ _ _ _ _ _ _ _ w
  · exact goodRecX _ _ _ _ _ _ _ _ _ _ (by simpa using hk) w
end Go.Proofs.YtpgelebmhhcodaaDoor
