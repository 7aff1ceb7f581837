/- Contract: the document's GoodRec, some kinds. -/
import Derived.Test.YtpgelebmhhcodaaDoorByteT
namespace Go.Proofs.YtpgelebmhhcodaaDoor
open Go.RowKit
set_option linter.unusedVariables false
set_option linter.unusedSimpArgs false

set_option maxRecDepth 20000 in
set_option maxHeartbeats 3200000 in
theorem goodRec7 (txn page prev next key old new : Int) (had has : Bool) (w : World) :
    Calls Tryd.prog 23 #[.agg #[.int .i64 7, .int .i64 txn, .int .i64 page, .int .i64 prev, .int .i64 next, .int .i64 key, .bool had, .bool has, .int .i64 old, .int .i64 new]] w fun e w' => e = .returned (.bool (okR ⟨7, txn, page, prev, next, key, had, has, old, new⟩)) ∧ Below w.heap.size w w' := by
  have hb : ∀ o, Below w.heap.size w (w.alloc o) := fun o => (Below.refl _ _).alloc (Nat.le_refl _) o
  have HI := Lib.hid fromRefB
  have HB := Lib.hid hb
  clear hb
  have e6 : inB 7 1 6 = false := by decide
  have e10 : inB 7 1 10 = true := by decide
  have hok : okR ⟨7, txn, page, prev, next, key, had, has, old, new⟩ = okR ⟨7, txn, page, prev, next, key, had, has, old, new⟩ := rfl
  conv at hok => rhs; simp [okR, txnTop, pageTop, prevB, nextB, keyB, valsB, inB_zero, e10]
  rw [hok]
  clear hok
  go_enter Tryd.func23, Tryd.ntmps23
  go_wp2_with (first | (go_at_call 21; refine (HI.out _ _ _ _).mono ?_; rintro e w1 ⟨rfl, rfl⟩))
  all_goals go_ret
  all_goals refine ⟨?_, HB.out _⟩
  all_goals go_light
  all_goals clear HI HB
  all_goals first | (simp_all [inB_zero, inB_t, inB_p, inB_one]; done) | (simp_all [inB_zero, inB_t, inB_p, inB_one]; omega) | (simp_all [inB_zero, inB_t, inB_p, inB_one]; rfl) | (cases had <;> cases has <;> first | (simp_all [inB_zero, inB_t, inB_p, inB_one]; done) | (simp_all [inB_zero, inB_t, inB_p, inB_one]; omega) | (simp_all [inB_zero, inB_t, inB_p, inB_one]; rfl))


set_option maxRecDepth 20000 in
set_option maxHeartbeats 3200000 in
theorem goodRec8 (txn page prev next key old new : Int) (had has : Bool) (w : World) :
    Calls Tryd.prog 23 #[.agg #[.int .i64 8, .int .i64 txn, .int .i64 page, .int .i64 prev, .int .i64 next, .int .i64 key, .bool had, .bool has, .int .i64 old, .int .i64 new]] w fun e w' => e = .returned (.bool (okR ⟨8, txn, page, prev, next, key, had, has, old, new⟩)) ∧ Below w.heap.size w w' := by
  have hb : ∀ o, Below w.heap.size w (w.alloc o) := fun o => (Below.refl _ _).alloc (Nat.le_refl _) o
  have HI := Lib.hid fromRefB
  have HB := Lib.hid hb
  clear hb
  have e6 : inB 8 1 6 = false := by decide
  have e10 : inB 8 1 10 = true := by decide
  have hok : okR ⟨8, txn, page, prev, next, key, had, has, old, new⟩ = okR ⟨8, txn, page, prev, next, key, had, has, old, new⟩ := rfl
  conv at hok => rhs; simp [okR, txnTop, pageTop, prevB, nextB, keyB, valsB, inB_zero, e10]
  rw [hok]
  clear hok
  go_enter Tryd.func23, Tryd.ntmps23
  go_wp2_with (first | (go_at_call 21; refine (HI.out _ _ _ _).mono ?_; rintro e w1 ⟨rfl, rfl⟩))
  all_goals go_ret
  all_goals refine ⟨?_, HB.out _⟩
  all_goals go_light
  all_goals clear HI HB
  all_goals first | (simp_all [inB_zero, inB_t, inB_p, inB_one]; done) | (simp_all [inB_zero, inB_t, inB_p, inB_one]; omega) | (simp_all [inB_zero, inB_t, inB_p, inB_one]; rfl) | (cases had <;> cases has <;> first | (simp_all [inB_zero, inB_t, inB_p, inB_one]; done) | (simp_all [inB_zero, inB_t, inB_p, inB_one]; omega) | (simp_all [inB_zero, inB_t, inB_p, inB_one]; rfl))


set_option maxRecDepth 20000 in
set_option maxHeartbeats 3200000 in
theorem goodRec9 (txn page prev next key old new : Int) (had has : Bool) (w : World) :
    Calls Tryd.prog 23 #[.agg #[.int .i64 9, .int .i64 txn, .int .i64 page, .int .i64 prev, .int .i64 next, .int .i64 key, .bool had, .bool has, .int .i64 old, .int .i64 new]] w fun e w' => e = .returned (.bool (okR ⟨9, txn, page, prev, next, key, had, has, old, new⟩)) ∧ Below w.heap.size w w' := by
  have hb : ∀ o, Below w.heap.size w (w.alloc o) := fun o => (Below.refl _ _).alloc (Nat.le_refl _) o
  have HI := Lib.hid fromRefB
  have HB := Lib.hid hb
  clear hb
  have e6 : inB 9 1 6 = false := by decide
  have e10 : inB 9 1 10 = true := by decide
  have hok : okR ⟨9, txn, page, prev, next, key, had, has, old, new⟩ = okR ⟨9, txn, page, prev, next, key, had, has, old, new⟩ := rfl
  conv at hok => rhs; simp [okR, txnTop, pageTop, prevB, nextB, keyB, valsB, inB_zero, e10]
  rw [hok]
  clear hok
  go_enter Tryd.func23, Tryd.ntmps23
  go_wp2_with (first | (go_at_call 21; refine (HI.out _ _ _ _).mono ?_; rintro e w1 ⟨rfl, rfl⟩))
  all_goals go_ret
  all_goals refine ⟨?_, HB.out _⟩
  all_goals go_light
  all_goals clear HI HB
  all_goals first | (simp_all [inB_zero, inB_t, inB_p, inB_one]; done) | (simp_all [inB_zero, inB_t, inB_p, inB_one]; omega) | (simp_all [inB_zero, inB_t, inB_p, inB_one]; rfl) | (cases had <;> cases has <;> first | (simp_all [inB_zero, inB_t, inB_p, inB_one]; done) | (simp_all [inB_zero, inB_t, inB_p, inB_one]; omega) | (simp_all [inB_zero, inB_t, inB_p, inB_one]; rfl))


end Go.Proofs.YtpgelebmhhcodaaDoor
