/- Contract: chapter 5's good (a master's numbers cut to what may be). -/
import Derived.Test.YtabpmpaeakebmaaDoorMasC
import Derived.Test.YtabpmpaeakebmaaDoorMasRow
import Derived.Test.YtabpmpaeakebmaaDoorNum
import Derived.Deep.RegionWith
namespace Go.Proofs.YtabpmpaeakebmaaDoor
open Go.RowKit
set_option linter.unusedVariables false

def goodM (m : MasD) : MasD :=
  ⟨m.epoch % 1073741824 + 1, m.base % 1073741824, m.reset % (m.epoch % 1073741824 + 1) + 1, if m.ckpt = 0 then 0 else m.base % 1073741824 + 1 + m.ckpt % (1073741824 - m.base % 1073741824), m.pages % 32 + 1, m.blocks % 64 + 1, m.frames % 8 + 1⟩

theorem goodM_ok (m : MasD) : okM (goodM m) = true := by
  apply okM_of_bounds
  unfold goodM
  have h3 := Int.emod_nonneg m.reset (show m.epoch % 1073741824 + 1 ≠ 0 by omega)
  have h4 := Int.emod_lt_of_pos m.reset (show 0 < m.epoch % 1073741824 + 1 by omega)
  have h5 := Int.emod_nonneg m.ckpt (show 1073741824 - m.base % 1073741824 ≠ 0 by omega)
  have h6 := Int.emod_lt_of_pos m.ckpt (show 0 < 1073741824 - m.base % 1073741824 by omega)
  dsimp only
  generalize m.reset % (m.epoch % 1073741824 + 1) = r at *
  generalize m.ckpt % (1073741824 - m.base % 1073741824) = c at *
  refine ⟨by omega, by omega, by omega, ?_, by omega, by omega, by omega⟩
  split
  · exact .inl rfl
  · exact .inr (by omega)

theorem newRow2 {w W : World} {c d : Array Value} {T U : TypeId} (h : W = (w.alloc (.cells c T)).alloc (.cells d U)) : W.heap[w.heap.size + 1]? = some (.cells d U (0, 0)) := by
  have := heap_alloc_new (w.alloc (.cells c T)) (.cells d U)
  rw [← h] at this; simpa using this

theorem newBelow2 {w W : World} {c d : Obj} (h : W = (w.alloc c).alloc d) : Below w.heap.size w W := by
  rw [h]; exact ((Below.refl _ _).alloc (Nat.le_refl _) _).alloc (by simp) _

theorem newRow2d {w W : World} {c d : Array Value} {T U : TypeId} (h : W = ((w.alloc (.cells c T)).alloc (.cells d U)).drew) : W.heap[w.heap.size + 1]? = some (.cells d U (0, 0)) := by
  rw [h]; show ((w.alloc (.cells c T)).alloc (.cells d U)).heap[w.heap.size + 1]? = _; exact newRow2 rfl
theorem newBelow2d {w W : World} {c d : Obj} (h : W = ((w.alloc c).alloc d).drew) : Below w.heap.size w W := by
  rw [h]; exact (newBelow2 rfl).drew

set_option maxHeartbeats 2000000 in
theorem goodMas (m : MasD) (hm : m.W) (w : World) :
    Calls Tryd.prog 20 #[masV m] w fun e w' => e = .returned (masV (goodM m)) ∧ Below w.heap.size w w' := by
  obtain ⟨n0, n1, n2, n3, n4, n5, n6⟩ := m
  obtain ⟨h0, h1, h2, h3, h4, h5, h6⟩ := hm
  dsimp only at h0 h1 h2 h3 h4 h5 h6
  unfold J64 at h0 h1 h2 h3 h4 h5 h6
  dsimp only [masV, goodM]
  have b0 : 0 ≤ n0 % 1073741824 ∧ n0 % 1073741824 < 1073741824 := by omega
  have b1 : 0 ≤ n1 % 1073741824 ∧ n1 % 1073741824 < 1073741824 := by omega
  have b2 : 0 ≤ n2 % (n0 % 1073741824 + 1) ∧ n2 % (n0 % 1073741824 + 1) < n0 % 1073741824 + 1 := ⟨Int.emod_nonneg _ (by omega), Int.emod_lt_of_pos _ (by omega)⟩
  have b3 : 0 ≤ n3 % (1073741824 - n1 % 1073741824) ∧ n3 % (1073741824 - n1 % 1073741824) < 1073741824 - n1 % 1073741824 := ⟨Int.emod_nonneg _ (by omega), Int.emod_lt_of_pos _ (by omega)⟩
  have b4 : 0 ≤ n4 % 32 ∧ n4 % 32 < 32 := by omega
  have b5 : 0 ≤ n5 % 64 ∧ n5 % 64 < 64 := by omega
  have b6 : 0 ≤ n6 % 8 ∧ n6 % 8 < 8 := by omega
  have k0 := Lib.hid (fun w => number n0 1073741824 w (by omega) (by omega) h0.1 h0.2)
  have k1 := Lib.hid (fun w => number n1 1073741824 w (by omega) (by omega) h1.1 h1.2)
  have k2 := Lib.hid (fun w => number n2 (n0 % 1073741824 + 1) w (by omega) (by omega) h2.1 h2.2)
  have k3 := Lib.hid (fun w => number n3 (1073741824 - n1 % 1073741824) w (by omega) (by omega) h3.1 h3.2)
  have k4 := Lib.hid (fun w => number n4 32 w (by omega) (by omega) h4.1 h4.2)
  have k5 := Lib.hid (fun w => number n5 64 w (by omega) (by omega) h5.1 h5.2)
  have k6 := Lib.hid (fun w => number n6 8 w (by omega) (by omega) h6.1 h6.2)
  generalize n0 % 1073741824 = m0 at *
  generalize n1 % 1073741824 = m1 at *
  generalize n2 % (m0 + 1) = m2 at *
  generalize n3 % (1073741824 - m1) = m3 at *
  generalize n4 % 32 = m4 at *
  generalize n5 % 64 = m5 at *
  generalize n6 % 8 = m6 at *
  have hb : ∀ o1 o2, Below w.heap.size w ((w.alloc o1).alloc o2) := fun o1 o2 => ((Below.refl _ _).alloc (Nat.le_refl _) o1).alloc (by simp) o2
  have HB := Lib.hid hb
  clear hb h0 h1 h2 h4 h5 h6
  by_cases hz : n3 = 0
  · subst hz
    rw [if_pos rfl]
    go_enter Tryd.func20, Tryd.ntmps20
    go_wp2_with fail
    refine (k0.out _).mono ?_
    rintro e w1 ⟨rfl, rfl⟩
    go_wp2_with fail
    refine (k1.out _).mono ?_
    rintro e w1 ⟨rfl, rfl⟩
    go_wp2_with fail
    refine (k2.out _).mono ?_
    rintro e w1 ⟨rfl, rfl⟩
    go_wp2_with fail
    refine (k4.out _).mono ?_
    rintro e w1 ⟨rfl, rfl⟩
    go_wp2_with fail
    refine (k5.out _).mono ?_
    rintro e w1 ⟨rfl, rfl⟩
    go_wp2_with fail
    refine (k6.out _).mono ?_
    rintro e w1 ⟨rfl, rfl⟩
    go_wp2_with fail
    obtain ⟨W, hW⟩ : ∃ W, W = (w.alloc (.cells #[.int .i64 (m0 + 1), .int .i64 m1, .int .i64 (m2 + 1), .int .i64 0, .int .i64 (m4 + 1), .int .i64 (m5 + 1), .int .i64 (m6 + 1)] 23)).alloc (.cells #[.int .i64 (m0 + 1), .int .i64 m1, .int .i64 (m2 + 1), .int .i64 0, .int .i64 (m4 + 1), .int .i64 (m5 + 1), .int .i64 (m6 + 1)] 23) := ⟨_, rfl⟩
    rw [← hW]
    have hbw : Below w.heap.size w W := newBelow2 hW
    have hrow := newRow2 hW
    exact bodyPost_ret (results_cell_row rfl _ _ _ _ _ (0, 0) _ rfl hrow Tryd.underlying23 rfl (by kernel_rfl)) rfl ⟨rfl, hbw⟩
  · have hz1 : (n3 != 0) = true := by simp [hz]
    rw [if_neg hz]
    clear hz
    go_enter Tryd.func20, Tryd.ntmps20
    go_wp2_with fail
    refine (k0.out _).mono ?_
    rintro e w1 ⟨rfl, rfl⟩
    go_wp2_with fail
    refine (k1.out _).mono ?_
    rintro e w1 ⟨rfl, rfl⟩
    go_wp2_with fail
    refine (k2.out _).mono ?_
    rintro e w1 ⟨rfl, rfl⟩
    go_wp2_with fail
    have ew1 : IntKind.i64.wrap (1073741824 - m1) = 1073741824 - m1 := by rw [IntKind.wrap_i64]; omega
    have ew2 : IntKind.i64.wrap (m1 + 1) = m1 + 1 := by rw [IntKind.wrap_i64]; omega
    have ew3 : IntKind.i64.wrap (m1 + 1 + m3) = m1 + 1 + m3 := by rw [IntKind.wrap_i64]; omega
    go_region_with (go_at_call 22; (try rw [ew1]); refine (k3.out _).mono ?_; rintro e w1 ⟨rfl, rfl⟩)
    all_goals
      clear ew1 ew2 ew3 k0 k1 k2 k3
      go_wp2_with fail
      refine (k4.out _).mono ?_
      rintro e w1 ⟨rfl, rfl⟩
      go_wp2_with fail
      refine (k5.out _).mono ?_
      rintro e w1 ⟨rfl, rfl⟩
      go_wp2_with fail
      refine (k6.out _).mono ?_
      rintro e w1 ⟨rfl, rfl⟩
      go_wp2_with fail
      obtain ⟨W, hW⟩ : ∃ W, W = ((w.alloc (.cells #[.int .i64 (m0 + 1), .int .i64 m1, .int .i64 (m2 + 1), .int .i64 (m1 + 1 + m3), .int .i64 (m4 + 1), .int .i64 (m5 + 1), .int .i64 (m6 + 1)] 23)).alloc (.cells #[.int .i64 (m0 + 1), .int .i64 m1, .int .i64 (m2 + 1), .int .i64 (m1 + 1 + m3), .int .i64 (m4 + 1), .int .i64 (m5 + 1), .int .i64 (m6 + 1)] 23)).drew := ⟨_, rfl⟩
      rw [← hW]
      have hbw : Below w.heap.size w W := newBelow2d hW
      have hrow := newRow2d hW
      exact bodyPost_ret (results_cell_row rfl _ _ _ _ _ (0, 0) _ rfl hrow Tryd.underlying23 rfl (by kernel_rfl)) rfl ⟨rfl, hbw⟩
end Go.Proofs.YtabpmpaeakebmaaDoor
