/- The walk of the law WalEnds. -/
import Derived.Test.YtoikdhfihkbcbaaDoorWlF
import Derived.Test.YtoikdhfihkbcbaaDoorWlP
import Derived.Test.YtoikdhfihkbcbaaDoorWalD
import Derived.Test.YtoikdhfihkbcbaaDoorNum
namespace Go.Proofs.YtoikdhfihkbcbaaDoor
open Go.RowKit
set_option linter.unusedVariables false

def endR : RecD := ⟨7, 0, 0, 0, 0, 0, false, false, 0, 0⟩
theorem endR_w : endR.W := by constructor <;> simp [endR, I64]
theorem endR_ok : okR endR = true := by decide

set_option maxRecDepth 20000 in
set_option maxHeartbeats 2000000 in
theorem walEnds_walk {ea : Nat → Addr} (n more : Int) (b1 : -9223372036854775808 ≤ n) (b2 : n ≤ 9223372036854775807) (w : World) (hs : Sen ea w) :
    Calls Tryd.prog 6 #[.int .i64 n, .int .i64 more] w fun e w' => e = .returned (.bool true) ∧ Below w.heap.size w w' := by
  have HS := Lib.hid hs
  have hm0 := Int.emod_nonneg n (show (9 : Int) ≠ 0 by omega)
  have hm1 := Int.emod_lt_of_pos n (show (0 : Int) < 9 by omega)
  have HN1 := Lib.hid (fun W => number n 9 W (by omega) (by omega) b1 b2)
  generalize n % 9 = q at hm0 hm1 HN1
  obtain ⟨k, rfl⟩ := Int.eq_ofNat_of_zero_le hm0
  clear b1 b2 hs hm0
  go_enter Tryd.func6, Tryd.ntmps6
  go_wp2_with fail
  refine (walFirst w).mono ?_
  rintro e w1 ⟨rfl, hb1⟩
  have HB1 := Lib.hid hb1
  clear hb1
  go_wp2_with fail
  refine (HN1.out _).mono ?_
  clear HN1
  rintro e w1' ⟨rfl, rfl⟩
  go_wp2_with fail
  refine (dskNew 4 w1).mono ?_
  rintro e w2 ⟨⟨H, g, rfl, hd2, hl2⟩, hb2⟩
  have HB2 := Lib.hid (HB1.out.trans (hb2.mono HB1.out.size))
  have hlen : (newD 4).l.length = 4 := newD_len 4
  have hW3 := WL.new HB2.out hd2 (fun b hb => Nat.le_trans HB1.out.size (hl2 b hb)) ⟨.pointer (some ⟨H, 0, none⟩), 0, 4, 1073741824 - k, 1, 0⟩ ⟨by dsimp only; omega, by dsimp only; omega, by dsimp only; omega, by dsimp only; omega, by dsimp only; omega, by dsimp only; omega⟩ rfl
  have HNW := Lib.hid (walNew (.pointer (some ⟨H, 0, none⟩)) 0 4 (1073741824 - k) 1 w2 _ rfl)
  have hrm : ∀ m : Nat, m ≤ k → roomN ⟨.pointer (some ⟨H, 0, none⟩), 0, 4, 1073741824 - k, 1, 0⟩ (m : Int) = k - m := fun m hm => by unfold roomN; dsimp only; omega
  have HRM := Lib.hid hrm
  have hon : OnD (newD 4) := OnD.new 4
  obtain ⟨d, hd⟩ : ∃ d, d = newD 4 := ⟨_, rfl⟩
  rw [← hd] at hW3 hlen hon
  have hlo : ∀ s, (d.sec s).loose.length ≤ 500000 := fun s => by
    rw [hd]
    by_cases h : s < newN 4
    · unfold DiskD.sec newD; simp [List.getD_eq_getElem?_getD, h, sec0]
    · unfold DiskD.sec newD; simp [List.getD_eq_getElem?_getD, h, sec0]
  have HLO := Lib.hid hlo
  have HON := Lib.hid hon
  have HW3 := Lib.hid hW3
  have HLEN := Lib.hid hlen
  obtain ⟨X, hX⟩ : ∃ X, X = w2.heap.size := ⟨_, rfl⟩
  rw [← hX] at HW3 HNW
  clear hb2 hd2 hl2 hlen hrm hon hlo hd hW3 HB1 HB2 hX
  go_wp2_with fail
  refine HNW.out.mono ?_
  clear HNW
  rintro e w3 ⟨rfl, rfl⟩
  generalize w2.alloc (.cells (headCs ⟨.pointer (some ⟨H, 0, none⟩), 0, 4, 1073741824 - k, 1, 0⟩ (.slice none 0 0)) 97) = w3 at HW3 ⊢
  have hro := walRoom HW3.out.lg
  rw [show roomN ⟨.pointer (some ⟨H, 0, none⟩), 0, 4, 1073741824 - (k : Int), 1, 0⟩ (([] : List RecD).length : Int) = k from by have := HRM.out 0 (by omega); simpa using this] at hro
  have HRO := Lib.hid hro
  clear hro
  go_wp2_with fail
  refine HRO.out.mono ?_
  clear HRO
  rintro e w4 ⟨rfl, hq4⟩
  have HW4 := Lib.hid (HW3.out.below (hq4.below _))
  clear hq4 HW3
  go_wp2_with fail
  go_loopw [8] (fun s wr => ∃ i : Nat, s = .int .i64 i ∧ i ≤ k ∧ ∃ v, Hid (WL w X H wr ⟨.pointer (some ⟨H, 0, none⟩), 0, 4, 1073741824 - k, 1, 0⟩ v (List.replicate i endR) d g)) (fun s _ => k - (intOf s).toNat)
  case atStart => exact ⟨0, rfl, by omega, _, HW4⟩
  case round =>
    obtain ⟨i, rfl, hi, v, HWR⟩ := hrel
    clear HW4
    have HSR := Lib.hid (HS.out.below HWR.out.bel)
    by_cases hik : (i : Int) < k
    · have happ := walAppend HWR.out.lg HSR.out endR endR_w endR_ok (by rw [List.length_replicate, HRM.out i hi]; omega) (by rw [List.length_replicate]; omega)
      have HAPP := Lib.hid happ
      have HRP : Hid (List.replicate i endR ++ [endR] = List.replicate (i + 1) endR) := Lib.hid (by rw [List.replicate_succ'])
      clear happ
      dsimp only [recV, endR] at HAPP
      go_wp2_with fail
      refine HAPP.out.mono ?_
      clear HAPP
      rintro e w5 ⟨rfl, v5, hl5, hx5⟩
      have hw5 := HWR.out.log hl5 hx5 (fun r hr => by
        rcases List.mem_append.1 hr with h | h
        · exact HWR.out.ok r h
        · rw [List.mem_singleton] at h; subst h; decide)
      rw [show (⟨7, 0, 0, 0, 0, 0, false, false, 0, 0⟩ : RecD) = endR from rfl, HRP.out] at hw5
      have HW5 := Lib.hid hw5
      clear hl5 hx5 hw5 HWR HRP HSR
      go_wp2_with fail
      go_roundw
      case rel => exact ⟨i + 1, by go_num, by omega, v5, HW5⟩
      case measure => simp [intOf]; omega
    · obtain rfl : i = k := by omega
      have hfull := walAppendFull HWR.out.lg HSR.out endR endR_ok (by rw [List.length_replicate, HRM.out i hi]; omega)
      rw [show eC ea 109 = .iface 124 (.pointer (some (ea 8))) from rfl] at hfull
      have HFULL := Lib.hid hfull
      clear hfull
      dsimp only [recV, endR] at HFULL
      go_wp2_with fail
      refine HFULL.out.mono ?_
      clear HFULL
      rintro e w5 ⟨rfl, hb5⟩
      have HW5 := Lib.hid (HWR.out.below hb5)
      have hS5 := HS.out.below HW5.out.bel
      have his : Calls Tryd.prog 20 #[.iface 124 (.pointer (some (ea 8))), .int .i64 109] w5 fun e w' => e = .returned (.bool true) ∧ Below w5.heap.size w5 w' := isC w5 hS5 109 (by unfold OkC; omega) 109
      have HIS := Lib.hid his
      clear hb5 HWR HSR hS5 his
      go_wp2_with fail
      refine HIS.out.mono ?_
      clear HIS
      rintro e w6 ⟨rfl, hb6⟩
      have HW6 := Lib.hid (HW5.out.below hb6)
      have hla := walLast HW6.out.lg
      rw [List.length_replicate] at hla
      try dsimp only at hla
      rw [show (1073741824 : Int) - (i : Int) + (i : Int) = 1073741824 from by omega] at hla
      have HLA := Lib.hid hla
      clear hb6 HW5 hla
      go_wp2_with fail
      refine HLA.out.mono ?_
      clear HLA
      rintro e w7 ⟨rfl, hq7⟩
      have HW7 := Lib.hid (HW6.out.below (hq7.below _))
      obtain ⟨f1, f2, f3, f4⟩ := flushD_on ⟨.pointer (some ⟨H, 0, none⟩), 0, 4, 1073741824 - i, 1, 0⟩ 0 rfl (List.replicate i endR) d HON.out (by dsimp only; omega) (by dsimp only; omega) (by rw [List.length_replicate, HLEN.out]; unfold blocksN; omega)
      have hfl := walFlush HW7.out HS.out.d3 (by dsimp only; omega) (by dsimp only; omega) (by dsimp only; omega) (by dsimp only; omega) HLO.out
      rw [f1, f2, eC_zero] at hfl
      have HFL := Lib.hid hfl
      clear hq7 HW6 hfl f1 f2 f3 f4
      go_wp2_with fail
      refine HFL.out.mono ?_
      clear HFL
      rintro e w8 ⟨rfl, g8, hw8⟩
      rw [List.length_replicate] at hw8
      try dsimp only at hw8
      have hdo := walDone hw8.lg (by dsimp only; omega) (by dsimp only; omega)
      try dsimp only at hdo
      rw [show (1073741824 : Int) - (i : Int) + (i : Int) = 1073741824 from by omega] at hdo
      have HDO := Lib.hid hdo
      have HB8 := Lib.hid hw8.bel
      clear hdo hw8 HW7
      go_wp2_with fail
      refine HDO.out.mono ?_
      clear HDO
      rintro e w9 ⟨rfl, hq9⟩
      have HB9 := Lib.hid (HB8.out.trans ((hq9.below _).mono HB8.out.size))
      clear hq9
      go_wp2_with fail
      go_ret
      exact ⟨rfl, HB9.out⟩
end Go.Proofs.YtoikdhfihkbcbaaDoor
