/- The walk of the law ModelPlays. -/
import Derived.Test.YtpgelebmhhcodaaDmK
import Derived.Test.YtpgelebmhhcodaaDoR
import Derived.Test.YtpgelebmhhcodaaNum
import Derived.Deep.CutBlock
namespace Go.Proofs.Ytpgelebmhhcodaa
open Go.RowKit
set_option linter.unusedVariables false

set_option maxRecDepth 20000 in
set_option maxHeartbeats 4000000 in
theorem modelPlays_walk {w : World} {s0 : Int} {o : Option Addr} {n cap : Nat} (hs0 : I64L s0) (h0 : Do4 w o n cap) :
    Calls Try.prog 12 #[.int .i64 s0, .slice o n cap] w fun e w' => e = .returned (.bool true) ∧ Below w.heap.size w w' := by
  have HF := Lib.hid (modelFirst w)
  obtain ⟨h1, h2, h3⟩ := h0
  have HC := Lib.hid h3
  unfold maxLen at h2
  clear h3
  by_cases hl : (n : Int) > 80
  · clear hs0
    go_enter Try.func12, Try.ntmps12
    go_wp2_with fail
    refine HF.out.mono ?_
    clear HF
    rintro e w1 ⟨rfl, hb1⟩
    have HB1 := Lib.hid hb1
    clear hb1
    go_wp2_with fail
    go_ret
    exact ⟨rfl, HB1.out⟩
  · have hn80 : n ≤ 80 := by omega
    obtain ⟨N, hN⟩ : ∃ N : Nat, s0 % 6 = N := ⟨(s0 % 6).toNat, by omega⟩
    have hN6 : N < 6 := by omega
    have nn := fun W => number s0 6 W (by omega) (by omega) hs0.1 hs0.2
    simp only [hN] at nn
    have NN := Lib.hid nn
    clear nn hN hs0
    go_enter Try.func12, Try.ntmps12
    go_wp2_with fail
    refine HF.out.mono ?_
    clear HF
    rintro e w1 ⟨rfl, hb1⟩
    have HNM := Lib.hid (Mo.new (N : Int) (Fz.of_below hb1))
    clear hb1
    go_wp2_with fail
    refine (NN.out _).mono ?_
    clear NN
    rintro e w2 ⟨rfl, rfl⟩
    go_wp2_with fail
    refine HNM.out.mono ?_
    clear HNM
    rintro e w3 ⟨X, rfl, hm3, _⟩
    have HM3 := Lib.hid hm3
    have HNX := Lib.hid (refNew N (by omega) w3)
    clear hm3
    go_wp2_with fail
    refine HNX.out.mono ?_
    clear HNX
    rintro e w4 ⟨P, rfl, hx4, hb4⟩
    have HST := Lib.hid (St.new HM3.out hx4 hb4)
    clear hx4 hb4 HM3
    go_wp2_with fail
    go_loopw [8] (fun s8 wr => ∃ i : Nat, s8 = .int .i64 i ∧ i ≤ n ∧ Hid (St w wr X P N i)) (fun s8 _ => n - (intOf s8).toNat)
    case atStart => exact ⟨0, rfl, by omega, HST⟩
    case round =>
      obtain ⟨i, rfl, hi, HT⟩ := hrel
      clear HST
      by_cases hin : (i : Int) < n
      · obtain ⟨g, off, x0, x1, x2, x3, rfl, hx0, hx1, hx2, hx3, c0, c1, c2, c3⟩ := HC.out i (by omega)
        have d0 := (HT.out.bel.cell (Below.lt c0)).trans c0
        have d1 := (HT.out.bel.cell (Below.lt c1)).trans c1
        have d2 := (HT.out.bel.cell (Below.lt c2)).trans c2
        have d3 := (HT.out.bel.cell (Below.lt c3)).trans c3
        obtain ⟨q, hq⟩ : ∃ q : Nat, x0 % 11 = q := ⟨(x0 % 11).toNat, by omega⟩
        obtain ⟨s, hs⟩ : ∃ s : Nat, x1 % 8 = s := ⟨(x1 % 8).toNat, by omega⟩
        obtain ⟨k, hk⟩ : ∃ k : Nat, x2 % 9 = k := ⟨(x2 % 9).toNat, by omega⟩
        have hq11 : q < 11 := by omega
        have hs8 : s < 8 := by omega
        have hk9 : k < 9 := by omega
        have n0 := fun W => number x0 11 W (by omega) (by omega) hx0.1 hx0.2
        have n1 := fun W => number x1 8 W (by omega) (by omega) hx1.1 hx1.2
        have n2 := fun W => number x2 9 W (by omega) (by omega) hx2.1 hx2.2
        simp only [hq] at n0
        simp only [hs] at n1
        simp only [hk] at n2
        have N0 := Lib.hid n0
        have N1 := Lib.hid n1
        have N2 := Lib.hid n2
        have HX3 := Lib.hid hx3
        have HSI : Hid (I64L ((s : Int) - 1)) := Lib.hid (L_small (by omega) (by omega))
        have HKI : Hid (I64L (k : Int)) := Lib.hid (L_small (by omega) (by omega))
        have hal : Below wr.heap.size wr (wr.alloc (.cells #[.int .i64 x0, .int .i64 x1, .int .i64 x2, .int .i64 x3] 81)) := (Below.refl _ _).alloc (Nat.le_refl _) _
        have hbx := heap_alloc_new wr (.cells #[.int .i64 x0, .int .i64 x1, .int .i64 x2, .int .i64 x3] 81)
        have hcc : ∀ W, Below (wr.alloc (.cells #[.int .i64 x0, .int .i64 x1, .int .i64 x2, .int .i64 x3] 81)).heap.size (wr.alloc (.cells #[.int .i64 x0, .int .i64 x1, .int .i64 x2, .int .i64 x3] 81)) W → W.cell? ⟨wr.heap.size, 0, none⟩ = some (.int .i64 x0) ∧ W.cell? ⟨wr.heap.size, 1, none⟩ = some (.int .i64 x1) ∧ W.cell? ⟨wr.heap.size, 2, none⟩ = some (.int .i64 x2) ∧ W.cell? ⟨wr.heap.size, 3, none⟩ = some (.int .i64 x3) := fun W hb => by
          have e := (hb.block wr.heap.size (by simp)).trans hbx
          refine ⟨?_, ?_, ?_, ?_⟩ <;> rw [cell_of_row W _ _ _ _ (0, 0) e] <;> rfl
        have HCC := Lib.hid hcc
        have HTz := Lib.hid (StZ.new (Z := wr.heap.size) HT.out hal (Nat.le_refl _) (by simp))
        have HTb := Lib.hid HTz.out.st
        clear n0 n1 n2 hq hs hk hx0 hx1 hx2 hx3 c0 c1 c2 c3 hbx hcc hal
        go_upto_region 15 with fail
        clear d0 d1 d2 d3
        generalize hwb : (wr.alloc (.cells #[.int .i64 x0, .int .i64 x1, .int .i64 x2, .int .i64 x3] 81)) = wb at *
        clear hwb
        generalize wr.heap.size = Z at *
        obtain ⟨e0, e1, e2, e3⟩ := HCC.out wb (Below.refl _ _)
        have hi80 : i < 80 := by omega
        go_upto_block 2 with (go_at_call 14; ((with_reducible first | refine (N0.out _).mono ?_ | refine (N1.out _).mono ?_ | refine (N2.out _).mono ?_); rintro e w5 ⟨rfl, rfl⟩))
        go_cut [12, 13, 14, 15, 16, 17, 18, 19, 20, 21, 22, 23, 24] from 57 to 188 (fun s12 s13 s14 s15 s16 s17 s18 s19 s20 s21 s22 s23 s24 W => s12 = .bool true ∧ Hid (St w W X P N (i + 1)))
        case first =>
          by_cases q0 : q = 0
          · subst q0
            obtain ⟨R, hR⟩ := stBegin HTb.out hi80 HSI.out
            have HR := Lib.hid hR
            clear hR
            go_wp2_with fail
            refine HR.out.mono ?_
            clear HR
            rintro e w6 ⟨rfl, h6⟩
            have H6 := Lib.hid h6
            clear h6
            go_wp2_with fail
            refine H6.out.mono ?_
            clear H6
            rintro e w7 ⟨rfl, h7⟩
            have H7 := Lib.hid h7
            clear h7
            go_wp2_with fail
            go_meet
            exact ⟨rfl, H7⟩
          · by_cases q4 : q = 4
            · subst q4
              obtain ⟨⟨R1, R2⟩, hR⟩ := stDelete HTb.out hi80 HSI.out HKI.out
              dsimp only at hR
              have HR := Lib.hid hR
              clear hR
              go_wp2_with fail
              refine HR.out.mono ?_
              clear HR
              rintro e w6 ⟨rfl, h6⟩
              have H6 := Lib.hid h6
              clear h6
              go_wp2_with fail
              refine H6.out.mono ?_
              clear H6
              rintro e w7 ⟨rfl, h7⟩
              have H7 := Lib.hid h7
              clear h7
              go_wp2_with fail
              go_meet
              exact ⟨rfl, H7⟩
            · by_cases q5 : q = 5
              · subst q5
                obtain ⟨⟨R1, R2⟩, hR⟩ := stGet HTb.out hi80 HSI.out HKI.out
                dsimp only at hR
                have HR := Lib.hid hR
                clear hR
                go_wp2_with fail
                refine HR.out.mono ?_
                clear HR
                rintro e w6 ⟨rfl, h6⟩
                have H6 := Lib.hid h6
                clear h6
                go_wp2_with fail
                refine H6.out.mono ?_
                clear H6
                rintro e w7 ⟨rfl, h7⟩
                have H7 := Lib.hid h7
                clear h7
                go_wp2_with fail
                go_meet
                exact ⟨rfl, H7⟩
              · by_cases q6 : q = 6
                · subst q6
                  obtain ⟨R, hR⟩ := stSave HTb.out hi80 HSI.out
                  have HR := Lib.hid hR
                  clear hR
                  go_wp2_with fail
                  refine HR.out.mono ?_
                  clear HR
                  rintro e w6 ⟨rfl, h6⟩
                  have H6 := Lib.hid h6
                  clear h6
                  go_wp2_with fail
                  refine H6.out.mono ?_
                  clear H6
                  rintro e w7 ⟨rfl, h7⟩
                  have H7 := Lib.hid h7
                  clear h7
                  go_wp2_with fail
                  go_meet
                  exact ⟨rfl, H7⟩
                · by_cases q7 : q = 7
                  · subst q7
                    obtain ⟨R, hR⟩ := stBack HTb.out hi80 HSI.out (t := (k : Int) - 1)
                    have HR := Lib.hid hR
                    clear hR
                    go_wp2_with fail
                    refine HR.out.mono ?_
                    clear HR
                    rintro e w6 ⟨rfl, h6⟩
                    have H6 := Lib.hid h6
                    clear h6
                    go_wp2_with fail
                    refine H6.out.mono ?_
                    clear H6
                    rintro e w7 ⟨rfl, h7⟩
                    have H7 := Lib.hid h7
                    clear h7
                    go_wp2_with fail
                    go_meet
                    exact ⟨rfl, H7⟩
                  · by_cases q8 : q = 8
                    · subst q8
                      obtain ⟨R, hR⟩ := stCommit HTb.out hi80 HSI.out
                      have HR := Lib.hid hR
                      clear hR
                      go_wp2_with fail
                      refine HR.out.mono ?_
                      clear HR
                      rintro e w6 ⟨rfl, h6⟩
                      have H6 := Lib.hid h6
                      clear h6
                      go_wp2_with fail
                      refine H6.out.mono ?_
                      clear H6
                      rintro e w7 ⟨rfl, h7⟩
                      have H7 := Lib.hid h7
                      clear h7
                      go_wp2_with fail
                      go_meet
                      exact ⟨rfl, H7⟩
                    · by_cases q9 : q = 9
                      · subst q9
                        obtain ⟨R, hR⟩ := stAbort HTb.out hi80 HSI.out
                        have HR := Lib.hid hR
                        clear hR
                        go_wp2_with fail
                        refine HR.out.mono ?_
                        clear HR
                        rintro e w6 ⟨rfl, h6⟩
                        have H6 := Lib.hid h6
                        clear h6
                        go_wp2_with fail
                        refine H6.out.mono ?_
                        clear H6
                        rintro e w7 ⟨rfl, h7⟩
                        have H7 := Lib.hid h7
                        clear h7
                        go_wp2_with fail
                        go_meet
                        exact ⟨rfl, H7⟩
                      · by_cases q10 : q = 10
                        · subst q10
                          have HR := Lib.hid (stCrash HTb.out hi80 (by omega))
                          go_wp2_with fail
                          refine HR.out.mono ?_
                          clear HR
                          rintro e w6 ⟨rfl, h6⟩
                          have H6 := Lib.hid h6
                          clear h6
                          go_wp2_with fail
                          refine H6.out.mono ?_
                          clear H6
                          rintro e w7 ⟨rfl, h7⟩
                          have H7 := Lib.hid h7
                          clear h7
                          go_wp2_with fail
                          go_meet
                          exact ⟨rfl, H7⟩
                        · have m0 : ¬ ((q : Int) = 0) := by omega
                          have m4 : ¬ ((q : Int) = 4) := by omega
                          have m5 : ¬ ((q : Int) = 5) := by omega
                          have m6 : ¬ ((q : Int) = 6) := by omega
                          have m7 : ¬ ((q : Int) = 7) := by omega
                          have m8 : ¬ ((q : Int) = 8) := by omega
                          have m9 : ¬ ((q : Int) = 9) := by omega
                          have m10 : ¬ ((q : Int) = 10) := by omega
                          clear q0 q4 q5 q6 q7 q8 q9 q10
                          obtain ⟨⟨R1, R2⟩, hR⟩ := stPutZ HTz.out hi80 HSI.out HKI.out HX3.out
                          dsimp only at hR
                          have HR := Lib.hid hR
                          clear hR
                          go_wp2_with fail
                          refine HR.out.mono ?_
                          clear HR
                          rintro e w6 ⟨rfl, hz6, h6⟩
                          have H6 := Lib.hid h6
                          have f3 : w6.cell? ⟨Z, 3, none⟩ = some (.int .i64 x3) := (World.cell?_of_block (a := ⟨Z, 3, none⟩) hz6).trans e3
                          clear h6 hz6
                          go_wp2_with fail
                          refine H6.out.mono ?_
                          clear H6
                          rintro e w7 ⟨rfl, h7⟩
                          have H7 := Lib.hid h7
                          clear h7
                          go_wp2_with fail
                          go_meet
                          exact ⟨rfl, H7⟩
        case rest =>
          obtain ⟨rfl, HT7⟩ := hcut
          obtain ⟨b, vL, nT, l1, l2, l3, l4⟩ := HT7.out.last (by omega) HSI.out
          have d0 := (fun {W : World} (h : Hid (St w W X P N (i + 1))) => (Below.refl W.heap.size W).drew) HT7
          have L1 := Lib.hid l1
          have L2 := Lib.hid l2
          have L3 := Lib.hid l3
          have L4 := Lib.hid l4
          clear l1 l2 l3 l4 e0 e1 e2 e3 N0 N1 N2 HTz HTb HX3 HCC HKI
          go_wp2_with fail
          go_region_held3 (fun W => W.cell? ⟨P, 0, none⟩ = some vL)
            (first | exact L1.out _ d0 | exact L1.out _ d1 | exact L1.out _ d2 | exact L1.out _ d3 | exact L1.out _ d4)
            ((first
              | (go_simp; go_at_call 51; with_reducible refine (L2.out _ d0).mono ?_; rintro e w1 ⟨rfl, c1⟩; have d1 := d0.trans (c1.mono d0.size))
              | (go_simp; go_at_call 63; with_reducible refine (L3.out _ d1).mono ?_; rintro e w2 ⟨rfl, c2⟩; have d2 := d1.trans (c2.mono d1.size))
              | (go_simp; go_at_call 31; with_reducible refine (L4.out _ d2).mono ?_; rintro e w3 ⟨o3, cp3, rfl, c3, hse⟩; have d3 := d2.trans (c3.mono d2.size))
              | (go_simp; go_at_call 52; with_reducible refine (hse _ (Below.refl _ _)).mono ?_; rintro e w4 ⟨rfl, c4⟩; have d4 := d3.trans (c4.mono d3.size))))
          have HT8 := Lib.hid (HT7.out.below d4)
          clear hse c1 c2 c3 c4 d0 d1 d2 d3 d4 L1 L2 L3 L4 HT7
          go_wp2_with fail
          go_roundw
          case rel => exact ⟨i + 1, by go_num, by omega, HT8⟩
          case measure => simp [intOf]; omega
      · obtain rfl : i = n := by omega
        go_wp2_with fail
        go_ret
        exact ⟨rfl, HT.out.bel⟩
end Go.Proofs.Ytpgelebmhhcodaa
