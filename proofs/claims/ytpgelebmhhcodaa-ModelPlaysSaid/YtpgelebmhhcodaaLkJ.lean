/- Contracts: slices.DeleteFunc over holds, Free. -/
import Derived.Test.YtpgelebmhhcodaaLkH
namespace Go.Proofs.Ytpgelebmhhcodaa
open Go.RowKit
set_option linter.unusedVariables false

theorem take_flatH : ∀ (T : List HoldD) (k : Nat), (T.flatMap holdCl).take (k * 3) = (T.take k).flatMap holdCl
  | [], k => by simp
  | x :: T, 0 => by simp
  | x :: T, k + 1 => by
    rw [List.flatMap_cons, List.take_succ_cons, List.flatMap_cons, show (k + 1) * 3 = (holdCl x).length + k * 3 from by simp [holdCl]; omega, List.take_length_add_append, take_flatH T k]
theorem holdsUnder : Try.prog.underlying 24 = some (.slice (Try.prog.elem 24)) := by kernel_rfl
theorem holds_from (g n cap i : Nat) (hi : i < n) (hc : n ≤ cap) (W : World) : (Instr.sliceAt 24 (.slice (some ⟨g, 0, none⟩) n cap) (some (.int .i64 (i : Int))) none none).run Try.prog W = .ok (.slice (some ⟨g, i * 3, none⟩) (n - i) (cap - i)) W := by
  have hsz : (sizeOf (Try.prog.elem 24)).run Try.prog W = .ok 3 W := by kernel_rfl
  rw [run_sliceAt_slice W 24 _ _ _ _ holdsUnder, run_slice_l W 24 _ _ _ holdsUnder .i64 (i : Int) (by omega) (by omega), hsz]
  have hci : cap ≠ i := by omega
  simp only [Result.andThen, sliced, Int.toNat_natCast, if_neg hci]
  simp [Addr.add]
  intro h
  omega
theorem holds_upto (g n cap i : Nat) (hi : i ≤ n) (hc : n ≤ cap) (hcp : 0 < cap) (W : World) : (Instr.sliceAt 24 (.slice (some ⟨g, 0, none⟩) n cap) none (some (.int .i64 (i : Int))) none).run Try.prog W = .ok (.slice (some ⟨g, 0, none⟩) i cap) W := by
  have hsz : (sizeOf (Try.prog.elem 24)).run Try.prog W = .ok 3 W := by kernel_rfl
  rw [run_sliceAt_slice W 24 _ _ _ _ holdsUnder, run_slice_h W 24 _ _ _ holdsUnder .i64 (i : Int) (by omega) (by omega), hsz]
  have hci : cap ≠ 0 := by omega
  simp [Result.andThen, sliced, Addr.add, hci]

set_option maxRecDepth 20000 in
set_option maxHeartbeats 4000000 in
theorem deleteFree {base : Nat} {w : World} {v : Value} {T : List HoldD} (h : Ho base w v T) (hl : T.length ≤ 10000) (s : Int) (p3 : Addr) (c3 : w.cell? p3 = some (.int .i64 s)) (hp : v.ownBlock ≠ some p3.block) :
    Calls Try.prog 64 #[v, .func (.func 65) #[] #[.pointer (some p3)]] w fun e w' => ∃ v', e = .returned v' ∧ v'.ownBlock = v.ownBlock ∧ Ho base w' v' (freeT T s) ∧ w.grownBy w' v.ownBlock := by
  have hidx := indexFree h hl s p3 c3
  have HH := Lib.hid h
  have HIDX := Lib.hid hidx
  have HC3 := Lib.hid c3
  obtain ⟨o, cap, rfl, h1, h2, h3, h4⟩ := h.form
  rcases idxF_spec s T 0 with ⟨e, f⟩ | ⟨k, hk, e, f1, f2⟩
  · rw [e] at HIDX
    have HF := Lib.hid f
    unfold maxLen at h2
    clear hidx h c3 e f h3 h4
    go_enter Try.func64, Try.ntmps64
    go_wp2_with fail
    refine HIDX.out.mono ?_
    rintro e w2 ⟨rfl, hb2⟩
    have HB2 := Lib.hid hb2
    clear hb2
    go_wp2_with fail
    go_ret
    exact ⟨_, rfl, rfl, by rw [HF.out]; exact HH.out.below HB2.out, grownBy_below HB2.out⟩
  · rw [e, Nat.zero_add] at HIDX
    rcases HH.out.2.2 with ⟨hv, hn0⟩ | ⟨g, cap', cur, hv, hbg, hg, hn, hcm, hcs, ht⟩
    · simp only [Value.slice.injEq] at hv
      omega
    · simp only [Value.slice.injEq] at hv
      obtain ⟨rfl, _, rfl⟩ := hv
      have HG := Lib.hid hg
      have hgp : p3.block ≠ g := fun e => hp (by rw [e]; rfl)
      have HGP := Lib.hid hgp
      have hD0 : DelSt w w g cap T s k (k + 1) := ⟨⟨cur, hg, hcs, by
          rw [f2, ← take_flatH T k, ← ht, List.take_take, Nat.min_eq_left (by omega)], fun x hx1 hx2 => by
          rw [← Array.getElem?_toList, ← ht, List.getElem?_take, if_pos hx2]⟩, by rw [f2, List.length_take]; omega, World.grownBy.refl _ _, by omega⟩
      have HD0 := Lib.hid hD0
      have HBG := Lib.hid hbg
      unfold maxLen at h2
      have HCM := Lib.hid hcm
      have hkm : ((k : Int) == -1) = false := by simp
      clear hidx h c3 e f1 f2 h3 h4 hg hgp hD0 hn hcs ht hbg hcm hp
      go_enter Try.func64, Try.ntmps64
      go_wp2_with fail
      refine HIDX.out.mono ?_
      clear HIDX
      rintro e w2 ⟨rfl, hb2⟩
      have HD2 := Lib.hid (HD0.out.below hb2)
      clear hb2 HD0
      go_wp2_with fail
      clear hkm
      go_loopw [5, 6] (fun s5 s6 wr => ∃ i j : Nat, s5 = .int .i64 i ∧ s6 = .int .i64 j ∧ i < j ∧ j ≤ T.length ∧ Hid (DelSt w wr g cap T s i j)) (fun _ s6 _ => T.length - (intOf s6).toNat)
      case atStart => exact ⟨k, k + 1, rfl, by go_num, by omega, by omega, HD2⟩
      case round =>
        obtain ⟨i, j, rfl, rfl, hij, hj, HD⟩ := hrel
        clear HD2
        by_cases hjn : (j : Int) < T.length
        · have hr : T[j]? = some T[j] := List.getElem?_eq_getElem (by omega)
          obtain ⟨q0, q1, q2⟩ := HD.out.cells hr
          generalize T[j] = r at hr q0 q1 q2
          have HRR := Lib.hid hr
          obtain ⟨W1, hW1⟩ : ∃ W, W = wr.alloc (.cells #[.int .i64 r.s, .int .i64 r.key, .int .i64 r.mode] 91) := ⟨_, rfl⟩
          have hb1 : Below wr.heap.size wr W1 := by rw [hW1]; exact (Below.refl _ _).alloc (Nat.le_refl _) _
          have HD1 := Lib.hid (HD.out.below hb1)
          have f0 : W1.cell? ⟨wr.heap.size, 0, none⟩ = some (.int .i64 r.s) := by rw [hW1]; exact cell_of_row _ _ 0 _ _ (0, 0) (heap_alloc_new wr _)
          have f1 : W1.cell? ⟨wr.heap.size, 1, none⟩ = some (.int .i64 r.key) := by rw [hW1]; exact cell_of_row _ _ 1 _ _ (0, 0) (heap_alloc_new wr _)
          have f2 : W1.cell? ⟨wr.heap.size, 2, none⟩ = some (.int .i64 r.mode) := by rw [hW1]; exact cell_of_row _ _ 2 _ _ (0, 0) (heap_alloc_new wr _)
          have hc3 : W1.cell? p3 = some (.int .i64 s) := (World.cell?_of_block (a := p3) (HD1.out.grown.block _ (Below.lt HC3.out) fun e => HGP.out (by simpa using e))).trans HC3.out
          have hcl := freeHere r s p3 W1 hc3
          have HCL := Lib.hid hcl
          have HW1 := Lib.hid hW1
          obtain ⟨rs, rk, rm⟩ := r
          dsimp only [holdV] at q0 q1 q2 f0 f1 f2 HCL HW1
          clear hr hb1 hc3 hcl hW1 HD
          go_upto_region 8 with fail
          rw [← HW1.out]
          generalize wr.heap.size = A at f0 f1 f2 ⊢
          clear HW1 q0 q1 q2
          go_wp2_with fail
          refine HCL.out.mono ?_
          clear HCL
          rintro e w3 ⟨rfl, hb3⟩
          have HD3 := Lib.hid (HD1.out.below hb3)
          have e0 := (hb3.cell (Below.lt f0)).trans f0
          have e1 := (hb3.cell (Below.lt f1)).trans f1
          have e2 := (hb3.cell (Below.lt f2)).trans f2
          clear hb3 f0 f1 f2 HD1
          cases hs : (rs == s) with
          | true =>
            have HDN := Lib.hid (HD3.out.skip HRR.out hs)
            clear hs e0 e1 e2
            go_wp2_with fail
            go_roundw
            case rel => exact ⟨i, j + 1, rfl, by go_num, by omega, by omega, HDN⟩
            case measure => simp [intOf]; omega
          | false =>
            have HDN := Lib.hid (HD3.out.keep h1 HRR.out hs)
            obtain ⟨u0, t0⟩ := HD3.out.some_ (x := i * 3) (by omega)
            obtain ⟨u1, t1⟩ := HD3.out.some_ (x := i * 3 + 1) (by omega)
            obtain ⟨u2, t2⟩ := HD3.out.some_ (x := i * 3 + 2) (by omega)
            have z0 := HD3.out.frozen (i * 3)
            have z1 := HD3.out.frozen (i * 3 + 1)
            have z2 := HD3.out.frozen (i * 3 + 2)
            have hiT : (i : Int) < T.length := by omega
            clear hs
            go_wp2_with fail
            go_roundw
            case rel => exact ⟨i + 1, j + 1, by go_num, by go_num, by omega, by omega, HDN⟩
            case measure => simp [intOf]; omega
        · obtain rfl : j = T.length := by omega
          obtain ⟨w4, hrun, ho4, hg4⟩ := HD.out.clear h1 HCM.out HBG.out HH.out.1 (cap - i)
          have sl1 := holds_from g T.length cap i hij h1
          have sl2 := holds_upto g T.length cap i (by omega) h1 (by omega)
          have HO4 := Lib.hid ho4
          have HG4 := Lib.hid hg4
          have hiT : (i : Int) ≤ T.length := by omega
          have hiL : (i : Int) < T.length := by omega
          clear ho4 hg4
          go_wp2_with fail
          go_ret
          exact ⟨_, rfl, rfl, HO4.out, HG4.out⟩
end Go.Proofs.Ytpgelebmhhcodaa
