/- The walk of the law ChainLoops. -/
import Derived.Test.YtccfiohcblecoaaDoorChL
import Derived.Test.YtccfiohcblecoaaDoorNum
import Derived.Deep.CutRange
namespace Go.Proofs.YtccfiohcblecoaaDoor
open Go.RowKit
set_option linter.unusedVariables false

def ckR : RecD := ⟨7, 0, 0, 0, 0, 0, false, false, 0, 0⟩
def loopR (clr : Bool) (tt : Int) : RecD := if clr then ⟨3, 1, 1, 0, tt, 0, true, false, 1, 0⟩ else ⟨5, 1, 0, tt, 0, 0, false, false, 0, 0⟩
def loopL (m : Nat) (clr : Bool) (tt : Int) : List RecD := List.replicate m ckR ++ [loopR clr tt]
theorem ckR_w : ckR.W := by constructor <;> simp [ckR, I64]
theorem ckR_ok : okR ckR = true := by decide
theorem loopR_w (clr : Bool) (tt : Int) (h0 : 0 ≤ tt) (h1 : tt ≤ 1000) : (loopR clr tt).W := by
  cases clr <;> (unfold loopR; constructor <;> simp [I64] <;> omega)
theorem loopR_ok (clr : Bool) (tt : Int) (h0 : 0 ≤ tt) (h1 : tt ≤ 1000) : okR (loopR clr tt) = true := by
  cases clr <;> (simp [loopR, okR, inB, txnTop, pageTop, prevB, nextB, keyB, valsB]; omega)
theorem loopR_on (clr : Bool) (tt : Int) : goesOn (loopR clr tt) ∧ onOf (loopR clr tt) = tt := by
  cases clr <;> simp [loopR, goesOn, onOf]
theorem loopL_len (m : Nat) (clr : Bool) (tt : Int) : (loopL m clr tt).length = m + 1 := by simp [loopL]
theorem loopL_ok (m : Nat) (clr : Bool) (tt : Int) (h0 : 0 ≤ tt) (h1 : tt ≤ 1000) : ∀ r ∈ loopL m clr tt, okR r = true := by
  intro r hr
  rcases List.mem_append.1 hr with h | h
  · rw [(List.mem_replicate.1 h).2]; exact ckR_ok
  · rw [List.mem_singleton.1 h]; exact loopR_ok clr tt h0 h1
theorem loopL_norm (m : Nat) (clr : Bool) (tt : Int) (h0 : (m : Int) + 1 ≤ tt) :
    (norm 0 (loopL m clr tt) (m + 1)).2 = some ((m : Int) + 1) ∧ (chain 0 (loopL m clr tt) [] (m + 1)).2 = some ((m : Int) + 1) ∧ (norm 0 (loopL m clr tt) (m + 1 + 1)).2 = some ((m : Int) + 1 + 1) ∧ (norm 0 (loopL m clr tt) (-tt)).2 = some (-tt) ∧ (1 ≤ m → (norm 0 (loopL m clr tt) 1).2 = some 1) := by
  have hr : recAtN 0 (loopL m clr tt) ((m : Int) + 1) = some (loopR clr tt) := by
    unfold recAtN
    rw [if_pos (by rw [loopL_len]; omega)]
    have e : ((m : Int) + 1 - 0 - 1).toNat = m := by omega
    rw [e]; unfold loopL
    rw [List.getElem?_append_right (by simp)]; simp
  obtain ⟨hg, ho⟩ := loopR_on clr tt
  have hn := norm_back (show (m : Int) + 1 ≠ 0 by omega) hr hg (by rw [ho]; omega)
  refine ⟨by rw [hn], by rw [chain_bad hn], ?_, ?_, fun hm => ?_⟩
  · rw [norm_none (by omega) (recAtN_none (by rw [loopL_len]; omega))]
  · rw [norm_none (by omega) (recAtN_none (by omega))]
  · have h1 : recAtN 0 (loopL m clr tt) 1 = some ckR := by
      unfold recAtN
      rw [if_pos (by rw [loopL_len]; omega)]
      have e : ((1 : Int) - 0 - 1).toNat = 0 := by omega
      rw [e]; unfold loopL
      rw [List.getElem?_append_left (by simp; omega), List.getElem?_replicate, if_pos (by omega)]
    rw [norm_other (by omega) h1 (by decide) (by decide) (by decide)]

set_option maxRecDepth 20000 in
set_option maxHeartbeats 4000000 in
theorem chainLoops_walk {ea : Nat → Addr} (n0 t0 : Int) (clr : Bool) (b1 : -9223372036854775808 ≤ n0) (b2 : n0 ≤ 9223372036854775807) (c1 : -9223372036854775808 ≤ t0) (c2 : t0 ≤ 9223372036854775807) (w : World) (hs : Sen ea w) :
    Calls Tryd.prog 8 #[.int .i64 n0, .int .i64 t0, .bool clr] w fun e w' => e = .returned (.bool true) ∧ Below w.heap.size w w' := by
  have HS := Lib.hid hs
  have HF := Lib.hid (chainFirst w hs)
  have hm0 := Int.emod_nonneg n0 (show (20 : Int) ≠ 0 by omega)
  have hm1 := Int.emod_lt_of_pos n0 (show (0 : Int) < 20 by omega)
  have HN1 := Lib.hid (fun W => number n0 20 W (by omega) (by omega) b1 b2)
  generalize n0 % 20 = q at hm0 hm1 HN1
  obtain ⟨m, rfl⟩ := Int.eq_ofNat_of_zero_le hm0
  have hk0 := Int.emod_nonneg t0 (show (5 : Int) ≠ 0 by omega)
  have hk1 := Int.emod_lt_of_pos t0 (show (0 : Int) < 5 by omega)
  have HN2 := Lib.hid (fun W => number t0 5 W (by omega) (by omega) c1 c2)
  generalize t0 % 5 = k at hk0 hk1 HN2
  obtain ⟨tt, htt⟩ : ∃ tt, tt = (m : Int) + 1 + k := ⟨_, rfl⟩
  have ht1 : (m : Int) + 1 ≤ tt := by omega
  have ht2 : tt ≤ 100 := by omega
  have HTT := Lib.hid htt
  obtain ⟨q1, q2, q3, q4, q5⟩ := loopL_norm m clr tt ht1
  have Q1 := Lib.hid q1
  have Q2 := Lib.hid q2
  have Q3 := Lib.hid q3
  have Q4 := Lib.hid q4
  have Q5 := Lib.hid q5
  have HOK := Lib.hid (loopL_ok m clr tt (by omega) (by omega))
  have HLR := Lib.hid (show loopR clr tt = if clr then ⟨3, 1, 1, 0, tt, 0, true, false, 1, 0⟩ else ⟨5, 1, 0, tt, 0, 0, false, false, 0, 0⟩ from rfl)
  have HLW := Lib.hid (loopR_w clr tt (by omega) (by omega))
  have HLL := Lib.hid (show loopL m clr tt = List.replicate m ckR ++ [loopR clr tt] from rfl)
  have HLN := Lib.hid (loopL_len m clr tt)
  clear hs q1 q2 q3 q4 q5 htt b1 b2 c1 c2
  generalize loopL m clr tt = LL at Q1 Q2 Q3 Q4 Q5 HOK HLL HLN
  go_enter Tryd.func8, Tryd.ntmps8
  go_wp2_with fail
  refine HF.out.mono ?_
  clear HF
  rintro e w1 ⟨rfl, hb1⟩
  have HB1 := Lib.hid hb1
  clear hb1
  go_wp2_with fail
  refine (HN1.out _).mono ?_
  clear HN1
  rintro e w2 ⟨rfl, rfl⟩
  go_wp2_with fail
  refine (HN2.out _).mono ?_
  clear HN2
  rintro e w2 ⟨rfl, rfl⟩
  go_upto_region 6 with fail
  rw [← HTT.out]
  go_wp2_with fail
  go_loopw [8, 9] (fun s i wr => ∃ j : Nat, i = .int .i64 ((j : Int) + 1) ∧ (j : Int) ≤ m ∧ ∃ o cap, s = .slice o j cap ∧ Hid (Below w.heap.size w wr) ∧ Hid (Og w.heap.size wr (.slice o j cap) (List.replicate j ckR))) (fun _ i _ => (m + 1 - intOf i).toNat)
  case atStart => exact ⟨0, by go_num, by omega, none, 0, rfl, HB1, Lib.hid Og.nil⟩
  case round =>
    obtain ⟨j, rfl, hj, o, cap, rfl, HBR, HOR⟩ := hrel
    clear HB1
    by_cases hjm : (j : Int) + 1 < (m : Int) + 1
    · have hal : Below wr.heap.size wr (wr.alloc (.cells (recCs ckR) 33)) := (Below.refl _ _).alloc (Nat.le_refl _) _
      have hoa := HOR.out.below hal
      have hsz := HBR.out.size
      obtain ⟨gb, cap2, w3, hrun, ho3, hg3, _, _, hca, hcb⟩ := hoa.append1 ckR ckR_w (by simp; omega) (by simp; omega) wr.heap.size (RW.new wr _) 1 60
      rw [List.length_replicate] at hrun ho3 hca
      have HB3 := Lib.hid (hoa.grown hg3 (HBR.out.alloc hsz _) (Nat.le_refl _) (by simp; omega))
      have HO3 : Hid (Og w.heap.size w3 (.slice (some ⟨gb, 0, none⟩) (j + 1) cap2) (List.replicate (j + 1) ckR)) := Lib.hid (by rw [List.replicate_succ']; exact ho3)
      unfold maxLen at hcb
      dsimp only [recCs, ckR] at hrun
      clear hal hoa hsz ho3 hg3 HBR HOR
      go_wp2_with (at_builtin; refine Lib.wpList_append_run _ rfl _ _ _ _ rfl _ _ rfl rfl _ _ hrun ?_)
      go_roundw
      case rel => exact ⟨j + 1, by (congr 1 <;> omega), by omega, _, _, rfl, HB3, HO3⟩
      case measure => simp [intOf]; omega
    · obtain rfl : j = m := by omega
      have hsz := HBR.out.size
      have hal0 : Below wr.heap.size wr (wr.alloc (.cells (recCs (loopR clr tt)) 33)) := (Below.refl _ _).alloc (Nat.le_refl _) _
      obtain ⟨W, hW⟩ : ∃ W, W = wr.alloc (.cells (recCs (loopR clr tt)) 33) := ⟨_, rfl⟩
      have hrw : RW wr.heap.size (recCs (loopR clr tt)) W := by rw [hW]; exact RW.new wr _
      rw [← hW] at hal0
      have HBW := Lib.hid (HBR.out.trans (hal0.mono HBR.out.size))
      have hal : Below W.heap.size W (W.alloc (.cells (recCs (loopR clr tt)) 33)) := (Below.refl _ _).alloc (Nat.le_refl _) _
      have hoa := (HOR.out.below hal0).below hal
      obtain ⟨gb, cap2, w3, hrun, ho3, hg3, _, _, hca, hcb⟩ := hoa.append1 (loopR clr tt) HLW.out (by have := HBW.out.size; simp; omega) (by simp; omega) W.heap.size (RW.new W _) 1 60
      rw [List.length_replicate] at hrun ho3 hca
      rw [← HLL.out] at ho3
      have HB3 := Lib.hid (hoa.grown hg3 (HBW.out.alloc HBW.out.size _) (Nat.le_refl _) (by have := HBW.out.size; simp; omega))
      have HLG := Lib.hid (chainLogs (ea := ea) _ LL 0 w3 (HS.out.below HB3.out) ho3.gs HOK.out (by rw [HLN.out]; omega) (by omega) (by omega))
      have HRW := Lib.hid hrw
      have HW := Lib.hid hW
      unfold maxLen at hcb
      clear hal0 hal hoa hsz ho3 hg3 HBR HOR hrw hW
      cases clr
      all_goals
        simp only [loopR, recCs, if_true, if_false, Bool.false_eq_true] at hrun HRW HW
        go_upto_region 14 with fail
        rw [← HW.out]
        obtain ⟨c0, c1, c2, c3, c4, c5, c6, c7, c8, c9⟩ := HRW.out.cells
        generalize wr.heap.size = A at HRW c0 c1 c2 c3 c4 c5 c6 c7 c8 c9 ⊢
        clear HW HBW HRW HLW HLR HLL
        go_wp2_with (at_builtin; refine Lib.wpList_append_run _ rfl _ _ _ _ rfl _ _ rfl rfl _ _ hrun ?_)
        refine HLG.out.mono ?_
        clear HLG hrun c0 c1 c2 c3 c4 c5 c6 c7 c8 c9
        rintro e w4 ⟨X, Y, dx, dy, vx, vy, rfl, ht⟩
        have HX := Lib.hid ht.x
        have HB4 := Lib.hid (HB3.out.trans (ht.bel.mono HB3.out.size))
        clear ht HB3
        have HQ1 := Lib.hid (normBad HX.out (HS.out.below HB4.out) ((j : Int) + 1) ((j : Int) + 1) (by omega) (by omega) Q1.out)
        go_wp2_with fail
        refine HQ1.out.mono ?_
        clear HQ1
        rintro e w5 ⟨a5, rfl, hb5, hev5⟩
        have HB5 := Lib.hid (HB4.out.trans (hb5.mono HB4.out.size))
        have HX5 := Lib.hid (HX.out.below hb5)
        have HE1 := Lib.hid hev5
        have HQ2 := Lib.hid (allBad HX5.out (HS.out.below HB5.out) ((j : Int) + 1) ((j : Int) + 1) (by omega) (by omega) Q2.out)
        clear hb5 hev5 HX HB4
        go_wp2_with fail
        refine HQ2.out.mono ?_
        clear HQ2
        rintro e w6 ⟨a6, rfl, hb6, hev6⟩
        have HB6 := Lib.hid (HB5.out.trans (hb6.mono HB5.out.size))
        have HX6 := Lib.hid (HX5.out.below hb6)
        have HE1' := Lib.hid (HE1.out.below hb6)
        have HE2 := Lib.hid hev6
        have HQ3 := Lib.hid (normBad HX6.out (HS.out.below HB6.out) ((j : Int) + 1 + 1) ((j : Int) + 1 + 1) (by omega) (by omega) Q3.out)
        clear hb6 hev6 HX5 HB5 HE1
        go_wp2_with fail
        refine HQ3.out.mono ?_
        clear HQ3
        rintro e w7 ⟨a7, rfl, hb7, hev7⟩
        have HB7 := Lib.hid (HB6.out.trans (hb7.mono HB6.out.size))
        have HX7 := Lib.hid (HX6.out.below hb7)
        have HE1 := Lib.hid (HE1'.out.below hb7)
        have HE2' := Lib.hid (HE2.out.below hb7)
        have HE3 := Lib.hid hev7
        have HQ4 := Lib.hid (normBad HX7.out (HS.out.below HB7.out) (-tt) (-tt) (by omega) (by omega) Q4.out)
        clear hb7 hev7 HX6 HB6 HE1' HE2
        go_wp2_with fail
        refine HQ4.out.mono ?_
        clear HQ4
        rintro e w8 ⟨a8, rfl, hb8, hev8⟩
        have HB8 := Lib.hid (HB7.out.trans (hb8.mono HB7.out.size))
        have HX8 := Lib.hid (HX7.out.below hb8)
        have HV1 := Lib.hid (HE1.out.below hb8)
        have HV2 := Lib.hid (HE2'.out.below hb8)
        have HV3 := Lib.hid (HE3.out.below hb8)
        have HV4 := Lib.hid hev8
        clear hb8 hev8 HX7 HB7 HE1 HE2' HE3
        by_cases h1 : 1 ≤ j
        have hgt : decide ((1 : Int) < (j : Int) + 1) = true := by simp; omega
        have hgu : decide ((0 : Int) < (j : Int)) = true := by simp; omega
        have HQ5 := Lib.hid (normBad HX8.out (HS.out.below HB8.out) 1 1 (by omega) (by omega) (Q5.out h1))
        go_wp2_with fail
        refine HQ5.out.mono ?_
        clear HQ5
        rintro e w9 ⟨a9, rfl, hb9, hev9⟩
        have HB9 := Lib.hid hb9
        have HV5 := Lib.hid hev9
        clear hb9 hev9
        go_wp2_with fail
        refine (placed 108 1 (by omega) _).mono ?_
        rintro e w10 ⟨rfl, hb10⟩
        have HB10 := Lib.hid (HB9.out.trans (hb10.mono HB9.out.size))
        have HQ6 := Lib.hid (sameAt w10 (HS.out.below (HB8.out.trans (HB10.out.mono HB8.out.size))) _ 1 (HV5.out.below hb10))
        clear hb10
        go_wp2_with fail
        refine HQ6.out.mono ?_
        clear HQ6
        rintro e w11 ⟨rfl, hb11⟩
        have hcut := Lib.hid (HB10.out.trans (hb11.mono HB10.out.size))
        clear hb11
        rotate_left
        have hgt : decide ((1 : Int) < (j : Int) + 1) = false := by simp; omega
        have hgu : decide ((0 : Int) < (j : Int)) = false := by simp; omega
        have hcut := Lib.hid (Below.refl w8.heap.size w8)
        all_goals
          have HB12 := Lib.hid (HB8.out.trans (hcut.out.mono HB8.out.size))
          have HE1 := Lib.hid (HV1.out.below hcut.out)
          have HE2 := Lib.hid (HV2.out.below hcut.out)
          have HE3 := Lib.hid (HV3.out.below hcut.out)
          have HE4 := Lib.hid (HV4.out.below hcut.out)
          clear hcut HV1 HV2 HV3 HV4 HX8 HB8
          go_wp2_with fail
          refine (placed 108 ((j : Int) + 1) (by omega) _).mono ?_
          rintro e w13 ⟨rfl, hb13⟩
          have HB13 := Lib.hid (HB12.out.trans (hb13.mono HB12.out.size))
          have HQ6 := Lib.hid (sameAt w13 (HS.out.below HB13.out) _ ((j : Int) + 1) (HE1.out.below hb13))
          have HV2 := Lib.hid (HE2.out.below hb13)
          have HV3 := Lib.hid (HE3.out.below hb13)
          have HV4 := Lib.hid (HE4.out.below hb13)
          clear hb13 HB12 HE1 HE2 HE3 HE4
          go_wp2_with fail
          refine HQ6.out.mono ?_
          clear HQ6
          rintro e w14 ⟨rfl, hb14⟩
          have HB14 := Lib.hid (HB13.out.trans (hb14.mono HB13.out.size))
          have HE2 := Lib.hid (HV2.out.below hb14)
          have HE3 := Lib.hid (HV3.out.below hb14)
          have HE4 := Lib.hid (HV4.out.below hb14)
          clear hb14 HB13 HV2 HV3 HV4
          go_wp2_with fail
          refine (placed 108 ((j : Int) + 1) (by omega) _).mono ?_
          rintro e w15 ⟨rfl, hb15⟩
          have HB15 := Lib.hid (HB14.out.trans (hb15.mono HB14.out.size))
          have HQ6 := Lib.hid (sameAt w15 (HS.out.below HB15.out) _ ((j : Int) + 1) (HE2.out.below hb15))
          have HV3 := Lib.hid (HE3.out.below hb15)
          have HV4 := Lib.hid (HE4.out.below hb15)
          clear hb15 HB14 HE2 HE3 HE4
          go_wp2_with fail
          refine HQ6.out.mono ?_
          clear HQ6
          rintro e w16 ⟨rfl, hb16⟩
          have HB16 := Lib.hid (HB15.out.trans (hb16.mono HB15.out.size))
          have HE3 := Lib.hid (HV3.out.below hb16)
          have HE4 := Lib.hid (HV4.out.below hb16)
          clear hb16 HB15 HV3 HV4
          go_wp2_with fail
          refine (placed 108 ((j : Int) + 1 + 1) (by omega) _).mono ?_
          rintro e w17 ⟨rfl, hb17⟩
          have HB17 := Lib.hid (HB16.out.trans (hb17.mono HB16.out.size))
          have HQ6 := Lib.hid (sameAt w17 (HS.out.below HB17.out) _ ((j : Int) + 1 + 1) (HE3.out.below hb17))
          have HV4 := Lib.hid (HE4.out.below hb17)
          clear hb17 HB16 HE3 HE4
          go_wp2_with fail
          refine HQ6.out.mono ?_
          clear HQ6
          rintro e w18 ⟨rfl, hb18⟩
          have HB18 := Lib.hid (HB17.out.trans (hb18.mono HB17.out.size))
          have HE4 := Lib.hid (HV4.out.below hb18)
          clear hb18 HB17 HV4
          go_wp2_with fail
          refine (placed 108 (-tt) (by omega) _).mono ?_
          rintro e w19 ⟨rfl, hb19⟩
          have HB19 := Lib.hid (HB18.out.trans (hb19.mono HB18.out.size))
          have HQ6 := Lib.hid (sameAt w19 (HS.out.below HB19.out) _ (-tt) (HE4.out.below hb19))
          clear hb19 HB18 HE4
          go_wp2_with fail
          refine HQ6.out.mono ?_
          clear HQ6
          rintro e w20 ⟨rfl, hb20⟩
          have HB20 := Lib.hid (HB19.out.trans (hb20.mono HB19.out.size))
          clear hb20 HB19
          go_wp2_with fail
          go_ret
          exact ⟨rfl, HB20.out⟩
end Go.Proofs.YtccfiohcblecoaaDoor
