/- Contract: phoenixmake.Rec: some record that may be. -/
import Derived.Test.YtabpmpaeakebmaaDoorProg
import Derived.Test.YtabpmpaeakebmaaDoorMk
import Derived.Test.YtabpmpaeakebmaaDoorRecP
namespace Go.Proofs.YtabpmpaeakebmaaDoor
open Go.RowKit
set_option linter.unusedVariables false

set_option maxHeartbeats 8000000 in
theorem makeRec (base q : Nat) (v : Value) (l : List Int) (w0 w : World) (hs : SeqAt w q v 0) (hn : Ns .i64 w0 v l) (hB : Below base w0 w) (hq : base ≤ q) (hl : l.length ≤ 1000) (ho : w0.heap.size ≤ base) (hb : base ≤ w.heap.size) :
    Calls Tryd.prog 30 #[.pointer (some ⟨q, 0, none⟩)] w fun e w' => (∃ r : RecD, e = .returned (recV r) ∧ r.W ∧ okR r = true) ∧ Below base w0 w' := by
  have hqs : q < w.heap.size := (Array.getElem?_eq_some_iff.1 hs).1
  have hs1 : ∀ cs T, SeqAt (w.alloc (.cells cs T)) q v 0 := fun cs T => (Below.heap_alloc w _ q hqs).trans hs
  have hn1 : ∀ cs T, Ns .i64 (w.alloc (.cells cs T)) v l := fun cs T => (hn.below (hB.mono ho)).below ((Below.refl _ _).alloc (Nat.le_refl _) _)
  have HN := Lib.hid hn1
  have HS := Lib.hid hs1
  clear hn1 hs1
  go_enter Tryd.func30, Tryd.ntmps30
  go_wp2_with fail
  refine (seqNext' q l v 0 10 _ (HS.out _ _) (HN.out _ _) (by decide) (by decide) hl (by decide) (by decide)).mono ?_
  rintro e w1 ⟨⟨x, rfl, hx0, hx1⟩, hs2, ho2, hsz2, hB2⟩
  have hz2 := (ho2 w.heap.size (by omega)).trans (heap_alloc_new w _)
  have hB3 := hB2 base w0 (hB.alloc hb _) hq
  have hsz3 : w1.heap.size = w.heap.size + 1 := by rw [hsz2]; simp
  have hst := fun cs => MK.start (p := 1) cs hs2 hz2 hB3 hn hq (by omega) ho (by omega)
  simp only [hsz3] at hst
  have HST := Lib.hid hst
  have hx : x = 0 ∨ x = 1 ∨ x = 2 ∨ x = 3 ∨ x = 4 ∨ x = 5 ∨ x = 6 ∨ x = 7 ∨ x = 8 ∨ x = 9 := by omega
  clear hst ho2 hsz2 hB2 hs2
  rcases hx with rfl | rfl | rfl | rfl | rfl | rfl | rfl | rfl | rfl | rfl
  · go_wp2_with fail
    refine (MK.next (b := 5) (HST.out _) (by decide) (by decide) hl (by decide) (by decide)).mono ?_
    skip
    rintro e v0 ⟨⟨y0, rfl, hy0, gy0⟩, m0, ⟨c0, c1, c2, c3, c4, c5, c6, c7, c8, c9⟩, ⟨f0, f1, f2, f3, f4, f5, f6, f7, f8, f9⟩, ⟨r0, r1, r2, r3, r4, r5, r6, r7, r8, r9⟩, ⟨s0, s1, s2, s3, s4, s5, s6, s7, s8, s9⟩⟩
    go_wp2_with fail
    exact bodyPost_ret (v := .agg #[.int .i64 1, .int .i64 (1 + y0), .int .i64 0, .int .i64 0, .int .i64 0, .int .i64 0, .bool false, .bool false, .int .i64 0, .int .i64 0]) (by simp [results, Tryd.results30, go_sem, *]) rfl ⟨⟨⟨1, 1 + y0, 0, 0, 0, 0, false, false, 0, 0⟩, rfl, by constructor <;> simp [I64] <;> omega, by simp [okR, inB, txnTop, pageTop, prevB, nextB, keyB, valsB] <;> omega⟩, MK.done (m0.set 1 (.int .i64 (1 + y0))) hb _ _ _ _ _ _ _ _ _ _⟩
  · go_wp2_with fail
    refine (MK.next (b := 5) (HST.out _) (by decide) (by decide) hl (by decide) (by decide)).mono ?_
    skip
    rintro e v0 ⟨⟨y0, rfl, hy0, gy0⟩, m0, ⟨c0, c1, c2, c3, c4, c5, c6, c7, c8, c9⟩, ⟨f0, f1, f2, f3, f4, f5, f6, f7, f8, f9⟩, ⟨r0, r1, r2, r3, r4, r5, r6, r7, r8, r9⟩, ⟨s0, s1, s2, s3, s4, s5, s6, s7, s8, s9⟩⟩
    go_wp2_with fail
    refine (MK.next (b := 4) (m0.set 1 (.int .i64 (1 + y0))) (by decide) (by decide) hl (by decide) (by decide)).mono ?_
    clear c0 c1 c2 c3 c4 c5 c6 c7 c8 c9 f0 f1 f2 f3 f4 f5 f6 f7 f8 f9 r0 r1 r2 r3 r4 r5 r6 r7 r8 r9 s0 s1 s2 s3 s4 s5 s6 s7 s8 s9
    rintro e v1 ⟨⟨y1, rfl, hy1, gy1⟩, m1, ⟨c0, c1, c2, c3, c4, c5, c6, c7, c8, c9⟩, ⟨f0, f1, f2, f3, f4, f5, f6, f7, f8, f9⟩, ⟨r0, r1, r2, r3, r4, r5, r6, r7, r8, r9⟩, ⟨s0, s1, s2, s3, s4, s5, s6, s7, s8, s9⟩⟩
    go_wp2_with fail
    refine (MK.next (b := 20) (m1.set 2 (.int .i64 (1 + y1))) (by decide) (by decide) hl (by decide) (by decide)).mono ?_
    clear c0 c1 c2 c3 c4 c5 c6 c7 c8 c9 f0 f1 f2 f3 f4 f5 f6 f7 f8 f9 r0 r1 r2 r3 r4 r5 r6 r7 r8 r9 s0 s1 s2 s3 s4 s5 s6 s7 s8 s9
    rintro e v2 ⟨⟨y2, rfl, hy2, gy2⟩, m2, ⟨c0, c1, c2, c3, c4, c5, c6, c7, c8, c9⟩, ⟨f0, f1, f2, f3, f4, f5, f6, f7, f8, f9⟩, ⟨r0, r1, r2, r3, r4, r5, r6, r7, r8, r9⟩, ⟨s0, s1, s2, s3, s4, s5, s6, s7, s8, s9⟩⟩
    go_wp2_with fail
    refine (MK.next (b := 40) (m2.set 3 (.int .i64 (y2))) (by decide) (by decide) hl (by decide) (by decide)).mono ?_
    clear c0 c1 c2 c3 c4 c5 c6 c7 c8 c9 f0 f1 f2 f3 f4 f5 f6 f7 f8 f9 r0 r1 r2 r3 r4 r5 r6 r7 r8 r9 s0 s1 s2 s3 s4 s5 s6 s7 s8 s9
    rintro e v3 ⟨⟨y3, rfl, hy3, gy3⟩, m3, ⟨c0, c1, c2, c3, c4, c5, c6, c7, c8, c9⟩, ⟨f0, f1, f2, f3, f4, f5, f6, f7, f8, f9⟩, ⟨r0, r1, r2, r3, r4, r5, r6, r7, r8, r9⟩, ⟨s0, s1, s2, s3, s4, s5, s6, s7, s8, s9⟩⟩
    go_wp2_with fail
    refine (MK.next (b := 3) (m3.set 5 (.int .i64 (y3))) (by decide) (by decide) hl (by decide) (by decide)).mono ?_
    clear c0 c1 c2 c3 c4 c5 c6 c7 c8 c9 f0 f1 f2 f3 f4 f5 f6 f7 f8 f9 r0 r1 r2 r3 r4 r5 r6 r7 r8 r9 s0 s1 s2 s3 s4 s5 s6 s7 s8 s9
    rintro e v4 ⟨⟨y4, rfl, hy4, gy4⟩, m4, ⟨c0, c1, c2, c3, c4, c5, c6, c7, c8, c9⟩, ⟨f0, f1, f2, f3, f4, f5, f6, f7, f8, f9⟩, ⟨r0, r1, r2, r3, r4, r5, r6, r7, r8, r9⟩, ⟨s0, s1, s2, s3, s4, s5, s6, s7, s8, s9⟩⟩
    by_cases hh : 0 < y4
    · have dh : decide (0 < y4) = true := by simpa using hh
      go_wp2_with fail
      refine (MK.next (b := 1000) (m4.set 7 (.bool true)) (by decide) (by decide) hl (by decide) (by decide)).mono ?_
      clear c0 c1 c2 c3 c4 c5 c6 c7 c8 c9 f0 f1 f2 f3 f4 f5 f6 f7 f8 f9 r0 r1 r2 r3 r4 r5 r6 r7 r8 r9 s0 s1 s2 s3 s4 s5 s6 s7 s8 s9
      rintro e v5 ⟨⟨y5, rfl, hy5, gy5⟩, m5, ⟨c0, c1, c2, c3, c4, c5, c6, c7, c8, c9⟩, ⟨f0, f1, f2, f3, f4, f5, f6, f7, f8, f9⟩, ⟨r0, r1, r2, r3, r4, r5, r6, r7, r8, r9⟩, ⟨s0, s1, s2, s3, s4, s5, s6, s7, s8, s9⟩⟩
      go_wp2_with fail
      refine (MK.next (b := 2) (m5.set 9 (.int .i64 (y5 - 500))) (by decide) (by decide) hl (by decide) (by decide)).mono ?_
      clear c0 c1 c2 c3 c4 c5 c6 c7 c8 c9 f0 f1 f2 f3 f4 f5 f6 f7 f8 f9 r0 r1 r2 r3 r4 r5 r6 r7 r8 r9 s0 s1 s2 s3 s4 s5 s6 s7 s8 s9
      rintro e v6 ⟨⟨y6, rfl, hy6, gy6⟩, m6, ⟨c0, c1, c2, c3, c4, c5, c6, c7, c8, c9⟩, ⟨f0, f1, f2, f3, f4, f5, f6, f7, f8, f9⟩, ⟨r0, r1, r2, r3, r4, r5, r6, r7, r8, r9⟩, ⟨s0, s1, s2, s3, s4, s5, s6, s7, s8, s9⟩⟩
      by_cases h6 : y6 = 0
      · subst h6
        go_wp2_with fail
        refine (MK.next (b := 1000) (m6.set 6 (.bool true)) (by decide) (by decide) hl (by decide) (by decide)).mono ?_
        clear c0 c1 c2 c3 c4 c5 c6 c7 c8 c9 f0 f1 f2 f3 f4 f5 f6 f7 f8 f9 r0 r1 r2 r3 r4 r5 r6 r7 r8 r9 s0 s1 s2 s3 s4 s5 s6 s7 s8 s9
        rintro e v7 ⟨⟨y7, rfl, hy7, gy7⟩, m7, ⟨c0, c1, c2, c3, c4, c5, c6, c7, c8, c9⟩, ⟨f0, f1, f2, f3, f4, f5, f6, f7, f8, f9⟩, ⟨r0, r1, r2, r3, r4, r5, r6, r7, r8, r9⟩, ⟨s0, s1, s2, s3, s4, s5, s6, s7, s8, s9⟩⟩
        go_wp2_with fail
        exact bodyPost_ret (v := .agg #[.int .i64 2, .int .i64 (1 + y0), .int .i64 (1 + y1), .int .i64 y2, .int .i64 0, .int .i64 y3, .bool true, .bool true, .int .i64 (y7 - 500), .int .i64 (y5 - 500)]) (by simp [results, Tryd.results30, go_sem, *]) rfl ⟨⟨⟨2, 1 + y0, 1 + y1, y2, 0, y3, true, true, y7 - 500, y5 - 500⟩, rfl, by constructor <;> simp [I64] <;> omega, by simp [okR, inB, txnTop, pageTop, prevB, nextB, keyB, valsB] <;> omega⟩, MK.done (m7.set 8 (.int .i64 (y7 - 500))) hb _ _ _ _ _ _ _ _ _ _⟩
      · have d6 : (y6 == 0) = false := by simpa using h6
        go_wp2_with fail
        exact bodyPost_ret (v := .agg #[.int .i64 2, .int .i64 (1 + y0), .int .i64 (1 + y1), .int .i64 y2, .int .i64 0, .int .i64 y3, .bool false, .bool true, .int .i64 0, .int .i64 (y5 - 500)]) (by simp [results, Tryd.results30, go_sem, *]) rfl ⟨⟨⟨2, 1 + y0, 1 + y1, y2, 0, y3, false, true, 0, y5 - 500⟩, rfl, by constructor <;> simp [I64] <;> omega, by simp [okR, inB, txnTop, pageTop, prevB, nextB, keyB, valsB] <;> omega⟩, MK.done (m6.set 6 (.bool false)) hb _ _ _ _ _ _ _ _ _ _⟩
    · have dh : decide (0 < y4) = false := by simpa using hh
      go_wp2_with fail
      refine (MK.next (b := 2) (m4.set 7 (.bool false)) (by decide) (by decide) hl (by decide) (by decide)).mono ?_
      clear c0 c1 c2 c3 c4 c5 c6 c7 c8 c9 f0 f1 f2 f3 f4 f5 f6 f7 f8 f9 r0 r1 r2 r3 r4 r5 r6 r7 r8 r9 s0 s1 s2 s3 s4 s5 s6 s7 s8 s9
      rintro e v5 ⟨⟨y5, rfl, hy5, gy5⟩, m5, ⟨c0, c1, c2, c3, c4, c5, c6, c7, c8, c9⟩, ⟨f0, f1, f2, f3, f4, f5, f6, f7, f8, f9⟩, ⟨r0, r1, r2, r3, r4, r5, r6, r7, r8, r9⟩, ⟨s0, s1, s2, s3, s4, s5, s6, s7, s8, s9⟩⟩
      by_cases h6 : y5 = 0
      · subst h6
        go_wp2_with fail
        refine (MK.next (b := 1000) (m5.set 6 (.bool true)) (by decide) (by decide) hl (by decide) (by decide)).mono ?_
        clear c0 c1 c2 c3 c4 c5 c6 c7 c8 c9 f0 f1 f2 f3 f4 f5 f6 f7 f8 f9 r0 r1 r2 r3 r4 r5 r6 r7 r8 r9 s0 s1 s2 s3 s4 s5 s6 s7 s8 s9
        rintro e v7 ⟨⟨y7, rfl, hy7, gy7⟩, m7, ⟨c0, c1, c2, c3, c4, c5, c6, c7, c8, c9⟩, ⟨f0, f1, f2, f3, f4, f5, f6, f7, f8, f9⟩, ⟨r0, r1, r2, r3, r4, r5, r6, r7, r8, r9⟩, ⟨s0, s1, s2, s3, s4, s5, s6, s7, s8, s9⟩⟩
        go_wp2_with fail
        exact bodyPost_ret (v := .agg #[.int .i64 2, .int .i64 (1 + y0), .int .i64 (1 + y1), .int .i64 y2, .int .i64 0, .int .i64 y3, .bool true, .bool false, .int .i64 (y7 - 500), .int .i64 0]) (by simp [results, Tryd.results30, go_sem, *]) rfl ⟨⟨⟨2, 1 + y0, 1 + y1, y2, 0, y3, true, false, y7 - 500, 0⟩, rfl, by constructor <;> simp [I64] <;> omega, by simp [okR, inB, txnTop, pageTop, prevB, nextB, keyB, valsB] <;> omega⟩, MK.done (m7.set 8 (.int .i64 (y7 - 500))) hb _ _ _ _ _ _ _ _ _ _⟩
      · have d6 : (y5 == 0) = false := by simpa using h6
        go_wp2_with fail
        refine (MK.next (b := 1000) (m5.set 6 (.bool true)) (by decide) (by decide) hl (by decide) (by decide)).mono ?_
        clear c0 c1 c2 c3 c4 c5 c6 c7 c8 c9 f0 f1 f2 f3 f4 f5 f6 f7 f8 f9 r0 r1 r2 r3 r4 r5 r6 r7 r8 r9 s0 s1 s2 s3 s4 s5 s6 s7 s8 s9
        rintro e v7 ⟨⟨y7, rfl, hy7, gy7⟩, m7, ⟨c0, c1, c2, c3, c4, c5, c6, c7, c8, c9⟩, ⟨f0, f1, f2, f3, f4, f5, f6, f7, f8, f9⟩, ⟨r0, r1, r2, r3, r4, r5, r6, r7, r8, r9⟩, ⟨s0, s1, s2, s3, s4, s5, s6, s7, s8, s9⟩⟩
        go_wp2_with fail
        exact bodyPost_ret (v := .agg #[.int .i64 2, .int .i64 (1 + y0), .int .i64 (1 + y1), .int .i64 y2, .int .i64 0, .int .i64 y3, .bool true, .bool false, .int .i64 (y7 - 500), .int .i64 0]) (by simp [results, Tryd.results30, go_sem, *]) rfl ⟨⟨⟨2, 1 + y0, 1 + y1, y2, 0, y3, true, false, y7 - 500, 0⟩, rfl, by constructor <;> simp [I64] <;> omega, by simp [okR, inB, txnTop, pageTop, prevB, nextB, keyB, valsB] <;> omega⟩, MK.done (m7.set 8 (.int .i64 (y7 - 500))) hb _ _ _ _ _ _ _ _ _ _⟩
  · go_wp2_with fail
    refine (MK.next (b := 5) (HST.out _) (by decide) (by decide) hl (by decide) (by decide)).mono ?_
    skip
    rintro e v0 ⟨⟨y0, rfl, hy0, gy0⟩, m0, ⟨c0, c1, c2, c3, c4, c5, c6, c7, c8, c9⟩, ⟨f0, f1, f2, f3, f4, f5, f6, f7, f8, f9⟩, ⟨r0, r1, r2, r3, r4, r5, r6, r7, r8, r9⟩, ⟨s0, s1, s2, s3, s4, s5, s6, s7, s8, s9⟩⟩
    go_wp2_with fail
    refine (MK.next (b := 4) (m0.set 1 (.int .i64 (1 + y0))) (by decide) (by decide) hl (by decide) (by decide)).mono ?_
    clear c0 c1 c2 c3 c4 c5 c6 c7 c8 c9 f0 f1 f2 f3 f4 f5 f6 f7 f8 f9 r0 r1 r2 r3 r4 r5 r6 r7 r8 r9 s0 s1 s2 s3 s4 s5 s6 s7 s8 s9
    rintro e v1 ⟨⟨y1, rfl, hy1, gy1⟩, m1, ⟨c0, c1, c2, c3, c4, c5, c6, c7, c8, c9⟩, ⟨f0, f1, f2, f3, f4, f5, f6, f7, f8, f9⟩, ⟨r0, r1, r2, r3, r4, r5, r6, r7, r8, r9⟩, ⟨s0, s1, s2, s3, s4, s5, s6, s7, s8, s9⟩⟩
    go_wp2_with fail
    refine (MK.next (b := 20) (m1.set 2 (.int .i64 (1 + y1))) (by decide) (by decide) hl (by decide) (by decide)).mono ?_
    clear c0 c1 c2 c3 c4 c5 c6 c7 c8 c9 f0 f1 f2 f3 f4 f5 f6 f7 f8 f9 r0 r1 r2 r3 r4 r5 r6 r7 r8 r9 s0 s1 s2 s3 s4 s5 s6 s7 s8 s9
    rintro e v2 ⟨⟨y2, rfl, hy2, gy2⟩, m2, ⟨c0, c1, c2, c3, c4, c5, c6, c7, c8, c9⟩, ⟨f0, f1, f2, f3, f4, f5, f6, f7, f8, f9⟩, ⟨r0, r1, r2, r3, r4, r5, r6, r7, r8, r9⟩, ⟨s0, s1, s2, s3, s4, s5, s6, s7, s8, s9⟩⟩
    go_wp2_with fail
    refine (MK.next (b := 40) (m2.set 3 (.int .i64 (y2))) (by decide) (by decide) hl (by decide) (by decide)).mono ?_
    clear c0 c1 c2 c3 c4 c5 c6 c7 c8 c9 f0 f1 f2 f3 f4 f5 f6 f7 f8 f9 r0 r1 r2 r3 r4 r5 r6 r7 r8 r9 s0 s1 s2 s3 s4 s5 s6 s7 s8 s9
    rintro e v3 ⟨⟨y3, rfl, hy3, gy3⟩, m3, ⟨c0, c1, c2, c3, c4, c5, c6, c7, c8, c9⟩, ⟨f0, f1, f2, f3, f4, f5, f6, f7, f8, f9⟩, ⟨r0, r1, r2, r3, r4, r5, r6, r7, r8, r9⟩, ⟨s0, s1, s2, s3, s4, s5, s6, s7, s8, s9⟩⟩
    go_wp2_with fail
    refine (MK.next (b := 3) (m3.set 5 (.int .i64 (y3))) (by decide) (by decide) hl (by decide) (by decide)).mono ?_
    clear c0 c1 c2 c3 c4 c5 c6 c7 c8 c9 f0 f1 f2 f3 f4 f5 f6 f7 f8 f9 r0 r1 r2 r3 r4 r5 r6 r7 r8 r9 s0 s1 s2 s3 s4 s5 s6 s7 s8 s9
    rintro e v4 ⟨⟨y4, rfl, hy4, gy4⟩, m4, ⟨c0, c1, c2, c3, c4, c5, c6, c7, c8, c9⟩, ⟨f0, f1, f2, f3, f4, f5, f6, f7, f8, f9⟩, ⟨r0, r1, r2, r3, r4, r5, r6, r7, r8, r9⟩, ⟨s0, s1, s2, s3, s4, s5, s6, s7, s8, s9⟩⟩
    by_cases hh : 0 < y4
    · have dh : decide (0 < y4) = true := by simpa using hh
      go_wp2_with fail
      refine (MK.next (b := 1000) (m4.set 7 (.bool true)) (by decide) (by decide) hl (by decide) (by decide)).mono ?_
      clear c0 c1 c2 c3 c4 c5 c6 c7 c8 c9 f0 f1 f2 f3 f4 f5 f6 f7 f8 f9 r0 r1 r2 r3 r4 r5 r6 r7 r8 r9 s0 s1 s2 s3 s4 s5 s6 s7 s8 s9
      rintro e v5 ⟨⟨y5, rfl, hy5, gy5⟩, m5, ⟨c0, c1, c2, c3, c4, c5, c6, c7, c8, c9⟩, ⟨f0, f1, f2, f3, f4, f5, f6, f7, f8, f9⟩, ⟨r0, r1, r2, r3, r4, r5, r6, r7, r8, r9⟩, ⟨s0, s1, s2, s3, s4, s5, s6, s7, s8, s9⟩⟩
      go_wp2_with fail
      refine (MK.next (b := 20) ((m5.set 9 (.int .i64 (y5 - 500))).set 6 (.bool true)) (by decide) (by decide) hl (by decide) (by decide)).mono ?_
      clear c0 c1 c2 c3 c4 c5 c6 c7 c8 c9 f0 f1 f2 f3 f4 f5 f6 f7 f8 f9 r0 r1 r2 r3 r4 r5 r6 r7 r8 r9 s0 s1 s2 s3 s4 s5 s6 s7 s8 s9
      rintro e v6 ⟨⟨y6, rfl, hy6, gy6⟩, m6, ⟨c0, c1, c2, c3, c4, c5, c6, c7, c8, c9⟩, ⟨f0, f1, f2, f3, f4, f5, f6, f7, f8, f9⟩, ⟨r0, r1, r2, r3, r4, r5, r6, r7, r8, r9⟩, ⟨s0, s1, s2, s3, s4, s5, s6, s7, s8, s9⟩⟩
      go_wp2_with fail
      refine (MK.next (b := 20) (m6.set 8 (.int .i64 (1 + y6))) (by decide) (by decide) hl (by decide) (by decide)).mono ?_
      clear c0 c1 c2 c3 c4 c5 c6 c7 c8 c9 f0 f1 f2 f3 f4 f5 f6 f7 f8 f9 r0 r1 r2 r3 r4 r5 r6 r7 r8 r9 s0 s1 s2 s3 s4 s5 s6 s7 s8 s9
      rintro e v7 ⟨⟨y7, rfl, hy7, gy7⟩, m7, ⟨c0, c1, c2, c3, c4, c5, c6, c7, c8, c9⟩, ⟨f0, f1, f2, f3, f4, f5, f6, f7, f8, f9⟩, ⟨r0, r1, r2, r3, r4, r5, r6, r7, r8, r9⟩, ⟨s0, s1, s2, s3, s4, s5, s6, s7, s8, s9⟩⟩
      go_wp2_with fail
      exact bodyPost_ret (v := .agg #[.int .i64 3, .int .i64 (1 + y0), .int .i64 (1 + y1), .int .i64 y2, .int .i64 y7, .int .i64 y3, .bool true, .bool true, .int .i64 (1 + y6), .int .i64 (y5 - 500)]) (by simp [results, Tryd.results30, go_sem, *]) rfl ⟨⟨⟨3, 1 + y0, 1 + y1, y2, y7, y3, true, true, 1 + y6, y5 - 500⟩, rfl, by constructor <;> simp [I64] <;> omega, by simp [okR, inB, txnTop, pageTop, prevB, nextB, keyB, valsB] <;> omega⟩, MK.done (m7.set 4 (.int .i64 (y7))) hb _ _ _ _ _ _ _ _ _ _⟩
    · have dh : decide (0 < y4) = false := by simpa using hh
      go_wp2_with fail
      refine (MK.next (b := 20) ((m4.set 7 (.bool false)).set 6 (.bool true)) (by decide) (by decide) hl (by decide) (by decide)).mono ?_
      clear c0 c1 c2 c3 c4 c5 c6 c7 c8 c9 f0 f1 f2 f3 f4 f5 f6 f7 f8 f9 r0 r1 r2 r3 r4 r5 r6 r7 r8 r9 s0 s1 s2 s3 s4 s5 s6 s7 s8 s9
      rintro e v6 ⟨⟨y6, rfl, hy6, gy6⟩, m6, ⟨c0, c1, c2, c3, c4, c5, c6, c7, c8, c9⟩, ⟨f0, f1, f2, f3, f4, f5, f6, f7, f8, f9⟩, ⟨r0, r1, r2, r3, r4, r5, r6, r7, r8, r9⟩, ⟨s0, s1, s2, s3, s4, s5, s6, s7, s8, s9⟩⟩
      go_wp2_with fail
      refine (MK.next (b := 20) (m6.set 8 (.int .i64 (1 + y6))) (by decide) (by decide) hl (by decide) (by decide)).mono ?_
      clear c0 c1 c2 c3 c4 c5 c6 c7 c8 c9 f0 f1 f2 f3 f4 f5 f6 f7 f8 f9 r0 r1 r2 r3 r4 r5 r6 r7 r8 r9 s0 s1 s2 s3 s4 s5 s6 s7 s8 s9
      rintro e v7 ⟨⟨y7, rfl, hy7, gy7⟩, m7, ⟨c0, c1, c2, c3, c4, c5, c6, c7, c8, c9⟩, ⟨f0, f1, f2, f3, f4, f5, f6, f7, f8, f9⟩, ⟨r0, r1, r2, r3, r4, r5, r6, r7, r8, r9⟩, ⟨s0, s1, s2, s3, s4, s5, s6, s7, s8, s9⟩⟩
      go_wp2_with fail
      exact bodyPost_ret (v := .agg #[.int .i64 3, .int .i64 (1 + y0), .int .i64 (1 + y1), .int .i64 y2, .int .i64 y7, .int .i64 y3, .bool true, .bool false, .int .i64 (1 + y6), .int .i64 0]) (by simp [results, Tryd.results30, go_sem, *]) rfl ⟨⟨⟨3, 1 + y0, 1 + y1, y2, y7, y3, true, false, 1 + y6, 0⟩, rfl, by constructor <;> simp [I64] <;> omega, by simp [okR, inB, txnTop, pageTop, prevB, nextB, keyB, valsB] <;> omega⟩, MK.done (m7.set 4 (.int .i64 (y7))) hb _ _ _ _ _ _ _ _ _ _⟩
  · go_wp2_with fail
    refine (MK.next (b := 5) (HST.out _) (by decide) (by decide) hl (by decide) (by decide)).mono ?_
    skip
    rintro e v0 ⟨⟨y0, rfl, hy0, gy0⟩, m0, ⟨c0, c1, c2, c3, c4, c5, c6, c7, c8, c9⟩, ⟨f0, f1, f2, f3, f4, f5, f6, f7, f8, f9⟩, ⟨r0, r1, r2, r3, r4, r5, r6, r7, r8, r9⟩, ⟨s0, s1, s2, s3, s4, s5, s6, s7, s8, s9⟩⟩
    go_wp2_with fail
    refine (MK.next (b := 20) (m0.set 1 (.int .i64 (1 + y0))) (by decide) (by decide) hl (by decide) (by decide)).mono ?_
    clear c0 c1 c2 c3 c4 c5 c6 c7 c8 c9 f0 f1 f2 f3 f4 f5 f6 f7 f8 f9 r0 r1 r2 r3 r4 r5 r6 r7 r8 r9 s0 s1 s2 s3 s4 s5 s6 s7 s8 s9
    rintro e v1 ⟨⟨y1, rfl, hy1, gy1⟩, m1, ⟨c0, c1, c2, c3, c4, c5, c6, c7, c8, c9⟩, ⟨f0, f1, f2, f3, f4, f5, f6, f7, f8, f9⟩, ⟨r0, r1, r2, r3, r4, r5, r6, r7, r8, r9⟩, ⟨s0, s1, s2, s3, s4, s5, s6, s7, s8, s9⟩⟩
    go_wp2_with fail
    exact bodyPost_ret (v := .agg #[.int .i64 4, .int .i64 (1 + y0), .int .i64 0, .int .i64 y1, .int .i64 0, .int .i64 0, .bool false, .bool false, .int .i64 0, .int .i64 0]) (by simp [results, Tryd.results30, go_sem, *]) rfl ⟨⟨⟨4, 1 + y0, 0, y1, 0, 0, false, false, 0, 0⟩, rfl, by constructor <;> simp [I64] <;> omega, by simp [okR, inB, txnTop, pageTop, prevB, nextB, keyB, valsB] <;> omega⟩, MK.done (m1.set 3 (.int .i64 (y1))) hb _ _ _ _ _ _ _ _ _ _⟩
  · go_wp2_with fail
    refine (MK.next (b := 5) (HST.out _) (by decide) (by decide) hl (by decide) (by decide)).mono ?_
    skip
    rintro e v0 ⟨⟨y0, rfl, hy0, gy0⟩, m0, ⟨c0, c1, c2, c3, c4, c5, c6, c7, c8, c9⟩, ⟨f0, f1, f2, f3, f4, f5, f6, f7, f8, f9⟩, ⟨r0, r1, r2, r3, r4, r5, r6, r7, r8, r9⟩, ⟨s0, s1, s2, s3, s4, s5, s6, s7, s8, s9⟩⟩
    go_wp2_with fail
    refine (MK.next (b := 20) (m0.set 1 (.int .i64 (1 + y0))) (by decide) (by decide) hl (by decide) (by decide)).mono ?_
    clear c0 c1 c2 c3 c4 c5 c6 c7 c8 c9 f0 f1 f2 f3 f4 f5 f6 f7 f8 f9 r0 r1 r2 r3 r4 r5 r6 r7 r8 r9 s0 s1 s2 s3 s4 s5 s6 s7 s8 s9
    rintro e v1 ⟨⟨y1, rfl, hy1, gy1⟩, m1, ⟨c0, c1, c2, c3, c4, c5, c6, c7, c8, c9⟩, ⟨f0, f1, f2, f3, f4, f5, f6, f7, f8, f9⟩, ⟨r0, r1, r2, r3, r4, r5, r6, r7, r8, r9⟩, ⟨s0, s1, s2, s3, s4, s5, s6, s7, s8, s9⟩⟩
    go_wp2_with fail
    exact bodyPost_ret (v := .agg #[.int .i64 5, .int .i64 (1 + y0), .int .i64 0, .int .i64 y1, .int .i64 0, .int .i64 0, .bool false, .bool false, .int .i64 0, .int .i64 0]) (by simp [results, Tryd.results30, go_sem, *]) rfl ⟨⟨⟨5, 1 + y0, 0, y1, 0, 0, false, false, 0, 0⟩, rfl, by constructor <;> simp [I64] <;> omega, by simp [okR, inB, txnTop, pageTop, prevB, nextB, keyB, valsB] <;> omega⟩, MK.done (m1.set 3 (.int .i64 (y1))) hb _ _ _ _ _ _ _ _ _ _⟩
  · go_wp2_with fail
    refine (MK.next (b := 5) (HST.out _) (by decide) (by decide) hl (by decide) (by decide)).mono ?_
    skip
    rintro e v0 ⟨⟨y0, rfl, hy0, gy0⟩, m0, ⟨c0, c1, c2, c3, c4, c5, c6, c7, c8, c9⟩, ⟨f0, f1, f2, f3, f4, f5, f6, f7, f8, f9⟩, ⟨r0, r1, r2, r3, r4, r5, r6, r7, r8, r9⟩, ⟨s0, s1, s2, s3, s4, s5, s6, s7, s8, s9⟩⟩
    go_wp2_with fail
    refine (MK.next (b := 20) (m0.set 1 (.int .i64 (1 + y0))) (by decide) (by decide) hl (by decide) (by decide)).mono ?_
    clear c0 c1 c2 c3 c4 c5 c6 c7 c8 c9 f0 f1 f2 f3 f4 f5 f6 f7 f8 f9 r0 r1 r2 r3 r4 r5 r6 r7 r8 r9 s0 s1 s2 s3 s4 s5 s6 s7 s8 s9
    rintro e v1 ⟨⟨y1, rfl, hy1, gy1⟩, m1, ⟨c0, c1, c2, c3, c4, c5, c6, c7, c8, c9⟩, ⟨f0, f1, f2, f3, f4, f5, f6, f7, f8, f9⟩, ⟨r0, r1, r2, r3, r4, r5, r6, r7, r8, r9⟩, ⟨s0, s1, s2, s3, s4, s5, s6, s7, s8, s9⟩⟩
    go_wp2_with fail
    exact bodyPost_ret (v := .agg #[.int .i64 6, .int .i64 (1 + y0), .int .i64 0, .int .i64 y1, .int .i64 0, .int .i64 0, .bool false, .bool false, .int .i64 0, .int .i64 0]) (by simp [results, Tryd.results30, go_sem, *]) rfl ⟨⟨⟨6, 1 + y0, 0, y1, 0, 0, false, false, 0, 0⟩, rfl, by constructor <;> simp [I64] <;> omega, by simp [okR, inB, txnTop, pageTop, prevB, nextB, keyB, valsB] <;> omega⟩, MK.done (m1.set 3 (.int .i64 (y1))) hb _ _ _ _ _ _ _ _ _ _⟩
  · have hm := HST.out #[.int .i64 7, .int .i64 0, .int .i64 0, .int .i64 0, .int .i64 0, .int .i64 0, .bool false, .bool false, .int .i64 0, .int .i64 0]
    have s0 := RecAt.frozen hz2 0
    have s1 := RecAt.frozen hz2 1
    have s2 := RecAt.frozen hz2 2
    have s3 := RecAt.frozen hz2 3
    have s4 := RecAt.frozen hz2 4
    have s5 := RecAt.frozen hz2 5
    have s6 := RecAt.frozen hz2 6
    have s7 := RecAt.frozen hz2 7
    have s8 := RecAt.frozen hz2 8
    have s9 := RecAt.frozen hz2 9
    have r0 := RecAt.cell hz2 0
    have r1 := RecAt.cell hz2 1
    have r2 := RecAt.cell hz2 2
    have r3 := RecAt.cell hz2 3
    have r4 := RecAt.cell hz2 4
    have r5 := RecAt.cell hz2 5
    have r6 := RecAt.cell hz2 6
    have r7 := RecAt.cell hz2 7
    have r8 := RecAt.cell hz2 8
    have r9 := RecAt.cell hz2 9
    simp only [List.getElem?_toArray, List.getElem?_cons_zero, List.getElem?_cons_succ] at r0 r1 r2 r3 r4 r5 r6 r7 r8 r9
    go_wp2_with fail
    exact bodyPost_ret (v := .agg #[.int .i64 7, .int .i64 0, .int .i64 0, .int .i64 0, .int .i64 0, .int .i64 0, .bool false, .bool false, .int .i64 0, .int .i64 0]) (by simp [results, Tryd.results30, go_sem, *]) rfl ⟨⟨⟨7, 0, 0, 0, 0, 0, false, false, 0, 0⟩, rfl, by constructor <;> simp [I64] <;> omega, by simp [okR, inB, txnTop, pageTop, prevB, nextB, keyB, valsB] <;> omega⟩, below_ten_alloc hB3 hb (by omega) _ _ _ _ _ _ _ _ _ _ _⟩
  · go_wp2_with fail
    refine (MK.next (b := 5) (HST.out _) (by decide) (by decide) hl (by decide) (by decide)).mono ?_
    skip
    rintro e v0 ⟨⟨y0, rfl, hy0, gy0⟩, m0, ⟨c0, c1, c2, c3, c4, c5, c6, c7, c8, c9⟩, ⟨f0, f1, f2, f3, f4, f5, f6, f7, f8, f9⟩, ⟨r0, r1, r2, r3, r4, r5, r6, r7, r8, r9⟩, ⟨s0, s1, s2, s3, s4, s5, s6, s7, s8, s9⟩⟩
    go_wp2_with fail
    refine (MK.next (b := 20) (m0.set 1 (.int .i64 (1 + y0))) (by decide) (by decide) hl (by decide) (by decide)).mono ?_
    clear c0 c1 c2 c3 c4 c5 c6 c7 c8 c9 f0 f1 f2 f3 f4 f5 f6 f7 f8 f9 r0 r1 r2 r3 r4 r5 r6 r7 r8 r9 s0 s1 s2 s3 s4 s5 s6 s7 s8 s9
    rintro e v1 ⟨⟨y1, rfl, hy1, gy1⟩, m1, ⟨c0, c1, c2, c3, c4, c5, c6, c7, c8, c9⟩, ⟨f0, f1, f2, f3, f4, f5, f6, f7, f8, f9⟩, ⟨r0, r1, r2, r3, r4, r5, r6, r7, r8, r9⟩, ⟨s0, s1, s2, s3, s4, s5, s6, s7, s8, s9⟩⟩
    go_wp2_with fail
    refine (MK.next (b := 3) (m1.set 3 (.int .i64 (y1))) (by decide) (by decide) hl (by decide) (by decide)).mono ?_
    clear c0 c1 c2 c3 c4 c5 c6 c7 c8 c9 f0 f1 f2 f3 f4 f5 f6 f7 f8 f9 r0 r1 r2 r3 r4 r5 r6 r7 r8 r9 s0 s1 s2 s3 s4 s5 s6 s7 s8 s9
    rintro e v2 ⟨⟨y2, rfl, hy2, gy2⟩, m2, ⟨c0, c1, c2, c3, c4, c5, c6, c7, c8, c9⟩, ⟨f0, f1, f2, f3, f4, f5, f6, f7, f8, f9⟩, ⟨r0, r1, r2, r3, r4, r5, r6, r7, r8, r9⟩, ⟨s0, s1, s2, s3, s4, s5, s6, s7, s8, s9⟩⟩
    go_wp2_with fail
    refine (MK.next (b := 20) (m2.set 5 (.int .i64 (y2))) (by decide) (by decide) hl (by decide) (by decide)).mono ?_
    clear c0 c1 c2 c3 c4 c5 c6 c7 c8 c9 f0 f1 f2 f3 f4 f5 f6 f7 f8 f9 r0 r1 r2 r3 r4 r5 r6 r7 r8 r9 s0 s1 s2 s3 s4 s5 s6 s7 s8 s9
    rintro e v3 ⟨⟨y3, rfl, hy3, gy3⟩, m3, ⟨c0, c1, c2, c3, c4, c5, c6, c7, c8, c9⟩, ⟨f0, f1, f2, f3, f4, f5, f6, f7, f8, f9⟩, ⟨r0, r1, r2, r3, r4, r5, r6, r7, r8, r9⟩, ⟨s0, s1, s2, s3, s4, s5, s6, s7, s8, s9⟩⟩
    go_wp2_with fail
    exact bodyPost_ret (v := .agg #[.int .i64 8, .int .i64 (1 + y0), .int .i64 0, .int .i64 y1, .int .i64 y3, .int .i64 y2, .bool false, .bool false, .int .i64 0, .int .i64 0]) (by simp [results, Tryd.results30, go_sem, *]) rfl ⟨⟨⟨8, 1 + y0, 0, y1, y3, y2, false, false, 0, 0⟩, rfl, by constructor <;> simp [I64] <;> omega, by simp [okR, inB, txnTop, pageTop, prevB, nextB, keyB, valsB] <;> omega⟩, MK.done (m3.set 4 (.int .i64 (y3))) hb _ _ _ _ _ _ _ _ _ _⟩
  · go_wp2_with fail
    refine (MK.next (b := 4) (HST.out _) (by decide) (by decide) hl (by decide) (by decide)).mono ?_
    skip
    rintro e v0 ⟨⟨y0, rfl, hy0, gy0⟩, m0, ⟨c0, c1, c2, c3, c4, c5, c6, c7, c8, c9⟩, ⟨f0, f1, f2, f3, f4, f5, f6, f7, f8, f9⟩, ⟨r0, r1, r2, r3, r4, r5, r6, r7, r8, r9⟩, ⟨s0, s1, s2, s3, s4, s5, s6, s7, s8, s9⟩⟩
    go_wp2_with fail
    refine (MK.next (b := 20) (m0.set 2 (.int .i64 (1 + y0))) (by decide) (by decide) hl (by decide) (by decide)).mono ?_
    clear c0 c1 c2 c3 c4 c5 c6 c7 c8 c9 f0 f1 f2 f3 f4 f5 f6 f7 f8 f9 r0 r1 r2 r3 r4 r5 r6 r7 r8 r9 s0 s1 s2 s3 s4 s5 s6 s7 s8 s9
    rintro e v1 ⟨⟨y1, rfl, hy1, gy1⟩, m1, ⟨c0, c1, c2, c3, c4, c5, c6, c7, c8, c9⟩, ⟨f0, f1, f2, f3, f4, f5, f6, f7, f8, f9⟩, ⟨r0, r1, r2, r3, r4, r5, r6, r7, r8, r9⟩, ⟨s0, s1, s2, s3, s4, s5, s6, s7, s8, s9⟩⟩
    go_wp2_with fail
    exact bodyPost_ret (v := .agg #[.int .i64 9, .int .i64 0, .int .i64 (1 + y0), .int .i64 (1 + y1), .int .i64 0, .int .i64 0, .bool false, .bool false, .int .i64 0, .int .i64 0]) (by simp [results, Tryd.results30, go_sem, *]) rfl ⟨⟨⟨9, 0, 1 + y0, 1 + y1, 0, 0, false, false, 0, 0⟩, rfl, by constructor <;> simp [I64] <;> omega, by simp [okR, inB, txnTop, pageTop, prevB, nextB, keyB, valsB] <;> omega⟩, MK.done (m1.set 3 (.int .i64 (1 + y1))) hb _ _ _ _ _ _ _ _ _ _⟩
  · go_wp2_with fail
    refine (MK.next (b := 9) (HST.out _) (by decide) (by decide) hl (by decide) (by decide)).mono ?_
    skip
    rintro e v0 ⟨⟨y0, rfl, hy0, gy0⟩, m0, ⟨c0, c1, c2, c3, c4, c5, c6, c7, c8, c9⟩, ⟨f0, f1, f2, f3, f4, f5, f6, f7, f8, f9⟩, ⟨r0, r1, r2, r3, r4, r5, r6, r7, r8, r9⟩, ⟨s0, s1, s2, s3, s4, s5, s6, s7, s8, s9⟩⟩
    go_wp2_with fail
    exact bodyPost_ret (v := .agg #[.int .i64 10, .int .i64 0, .int .i64 0, .int .i64 0, .int .i64 y0, .int .i64 0, .bool false, .bool false, .int .i64 0, .int .i64 0]) (by simp [results, Tryd.results30, go_sem, *]) rfl ⟨⟨⟨10, 0, 0, 0, y0, 0, false, false, 0, 0⟩, rfl, by constructor <;> simp [I64] <;> omega, by simp [okR, inB, txnTop, pageTop, prevB, nextB, keyB, valsB] <;> omega⟩, MK.done (m0.set 4 (.int .i64 (y0))) hb _ _ _ _ _ _ _ _ _ _⟩
end Go.Proofs.YtabpmpaeakebmaaDoor
