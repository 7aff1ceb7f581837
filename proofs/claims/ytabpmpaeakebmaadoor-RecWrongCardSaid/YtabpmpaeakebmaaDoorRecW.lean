/- The walk of the law RecWrong. -/
import Derived.Test.YtabpmpaeakebmaaDoorRecWP
import Derived.Test.YtabpmpaeakebmaaDoorRecRow
import Derived.Test.YtabpmpaeakebmaaDoorErC
import Derived.Deep.Cut
namespace Go.Proofs.YtabpmpaeakebmaaDoor
open Go.RowKit
set_option linter.unusedVariables false

def setR : RecD := ⟨2, 1, 1, 5, 0, 7, false, true, 0, 9⟩
def clrR : RecD := ⟨3, 1, 1, 5, 3, 7, true, false, 4, 0⟩
theorem setR_ok : okR setR = true := by decide
theorem clrR_ok : okR clrR = true := by decide

set_option maxRecDepth 20000 in
set_option maxHeartbeats 4000000 in
theorem recWrong_walk {ea : Nat → Addr} (which v : Int) (w : World) (hs : Sen ea w) (h1 : -9223372036854775808 ≤ which) (h2 : which ≤ 9223372036854775807) (h3 : -9223372036854775808 ≤ v) (h4 : v ≤ 9223372036854775807) :
    Calls Tryd.prog 7 #[.int .i64 which, .int .i64 v] w fun e w' => e = .returned (.bool true) ∧ Below w.heap.size w w' := by
  have hf0 : 0 ≤ v % 100 := Int.emod_nonneg _ (by decide)
  have hf1 : v % 100 < 100 := Int.emod_lt_of_pos _ (by decide)
  have hF := recFirst w _ _ (hs.cell 1 (by decide))
  have HF := Lib.hid hF
  have HNF := Lib.hid (fun w' => number v 100 w' (by decide) (by decide) h3 h4)
  have HNW := Lib.hid (fun w' => number which 20 w' (by decide) (by decide) h1 h2)
  have HBAD := Lib.hid (fun (r : RecD) w' (hb : Below w.heap.size w w') (h : okR r = false) => recBytesBad r w' 0 _ _ ((hs.below hb).cell 1 (by decide)) h)
  have HCK := Lib.hid (fun (r : RecD) w' (hb : Below w.heap.size w w') => recCheck r w' _ ((hs.below hb).cell 1 (by decide)))
  have hi1 : ∀ W, Below w.heap.size w W → Calls Tryd.prog 16 #[.iface 98 (.pointer (some (ea 1))), .int .i64 102] W fun e w' => e = .returned (.bool true) ∧ Below W.heap.size W w' :=
    fun W hb => isC W (hs.below hb) 102 (by unfold OkC; omega) 102
  have HI1 := Lib.hid hi1
  generalize v % 100 = far at hf0 hf1 HNF
  have hw0 := Int.emod_nonneg which (show (20 : Int) ≠ 0 by omega)
  have hw1 := Int.emod_lt_of_pos which (show (0 : Int) < 20 by omega)
  obtain ⟨n, hn⟩ := Int.eq_ofNat_of_zero_le hw0
  rw [hn] at hw1 HNW
  clear hF hi1 hs hn hw0 h1 h2 h3 h4
  have hn20 : n < 20 := by omega
  go_enter Tryd.func7, Tryd.ntmps7
  go_wp2_with fail
  refine HF.out.mono ?_
  rintro e w1 ⟨rfl, hb1⟩
  have HB1 := Lib.hid hb1
  clear hb1 HF
  go_upto_region 6 with fail
  obtain ⟨w2, hw2⟩ : ∃ w2, w2 = (w1.alloc (.cells #[.int .i64 2, .int .i64 1, .int .i64 1, .int .i64 5, .int .i64 0, .int .i64 7, .bool false, .bool true, .int .i64 0, .int .i64 9] 50)).alloc (.cells #[.int .i64 3, .int .i64 1, .int .i64 1, .int .i64 5, .int .i64 3, .int .i64 7, .bool true, .bool false, .int .i64 4, .int .i64 0] 50) := ⟨_, rfl⟩
  rw [← hw2]
  have HB2 : Hid (Below w.heap.size w w2) := by rw [hw2]; exact (HB1.out.alloc HB1.out.size _).alloc (by have := HB1.out.size; simp; omega) _
  have HRS2 : Hid (RW w1.heap.size #[.int .i64 2, .int .i64 1, .int .i64 1, .int .i64 5, .int .i64 0, .int .i64 7, .bool false, .bool true, .int .i64 0, .int .i64 9] w2) := by
    rw [hw2]; exact (RW.new w1 _).below ((Below.refl _ _).alloc (Nat.le_refl _) _)
  have HRC2 : Hid (RW (w1.heap.size + 1) #[.int .i64 3, .int .i64 1, .int .i64 1, .int .i64 5, .int .i64 3, .int .i64 7, .bool true, .bool false, .int .i64 4, .int .i64 0] w2) := by
    have h := RW.new (w1.alloc (.cells #[.int .i64 2, .int .i64 1, .int .i64 1, .int .i64 5, .int .i64 0, .int .i64 7, .bool false, .bool true, .int .i64 0, .int .i64 9] 50)) #[.int .i64 3, .int .i64 1, .int .i64 1, .int .i64 5, .int .i64 3, .int .i64 7, .bool true, .bool false, .int .i64 4, .int .i64 0]
    rw [← hw2] at h; exact Lib.hid (by simpa using h)
  generalize w1.heap.size = A1 at HRS2 HRC2 ⊢
  clear hw2 HB1
  go_wp2_with fail
  refine (HNF.out _).mono ?_
  rintro e w3 ⟨rfl, rfl⟩
  go_upto_region 7 with fail
  go_cut [9] from 13 (fun s9 wx => s9 = .slice (some ⟨w2.heap.size, 0, none⟩) 20 20 ∧ Hid (rowIs wx w2.heap.size wrongA ∧ Below w2.heap.size w2 wx))
  case first =>
    obtain ⟨c0, c1, c2, c3, c4, c5, c6, c7, c8, c9⟩ := HRS2.out.cells
    obtain ⟨d0, d1, d2, d3, d4, d5, d6, d7, d8, d9⟩ := HRC2.out.cells
    go_wp2_with (refine wpList_buildSlice_ex w2 rfl _ _ _ rfl _ (by kernel_rfl) _ _ (recWrong_laid w2) ?_; rintro w3 ⟨hrow, hb3, hsz3⟩; have HROW := Lib.hid (And.intro hrow hb3); clear hrow hb3 hsz3)
    go_meet
    exact ⟨rfl, HROW⟩
  obtain ⟨rfl, HROW⟩ := hcut
  generalize wc = w4 at HROW ⊢
  obtain ⟨G, hG⟩ : ∃ G, G = w2.heap.size := ⟨_, rfl⟩
  have hrow := HROW.out.1
  have hb24 := HROW.out.2
  rw [← hG] at hrow ⊢
  have HB24 := Lib.hid hb24
  have HG := Lib.hid (show w2.heap.size ≤ G by omega)
  have HGN := Lib.hid hrow
  obtain ⟨⟨e0, e1, e2, e3, e4, e5, e6, e7, e8, e9⟩, f0, f1, f2, f3, f4, f5, f6, f7, f8, f9⟩ := recWrong_spots hrow
  clear HROW hrow hb24 hG
  go_upto_region 18 with fail
  have hrow5 := recWrong_stored far HGN.out
  obtain ⟨w5, hw5⟩ : ∃ w5, w5 = ((((((((((w4.setCell ⟨G, 1, none⟩ (.int .i64 0)).setCell ⟨G, 12, none⟩ (.int .i64 33)).setCell ⟨G, 23, none⟩ (.int .i64 (1073741825 + far))).setCell ⟨G, 34, none⟩ (.int .i64 1)).setCell ⟨G, 45, none⟩ (.int .i64 1048576)).setCell ⟨G, 58, none⟩ (.int .i64 3)).setCell ⟨G, 67, none⟩ (.bool false)).setCell ⟨G, 76, none⟩ (.bool false)).setCell ⟨G, 88, none⟩ (.int .i64 0)).setCell ⟨G, 99, none⟩ (.int .i64 4)) := ⟨_, rfl⟩
  rw [← hw5] at hrow5 ⊢
  have hb25 : Below w2.heap.size w2 w5 := by rw [hw5]; exact (Below.setCell (p := ⟨G, 99, none⟩) (Below.setCell (p := ⟨G, 88, none⟩) (Below.setCell (p := ⟨G, 76, none⟩) (Below.setCell (p := ⟨G, 67, none⟩) (Below.setCell (p := ⟨G, 58, none⟩) (Below.setCell (p := ⟨G, 45, none⟩) (Below.setCell (p := ⟨G, 34, none⟩) (Below.setCell (p := ⟨G, 23, none⟩) (Below.setCell (p := ⟨G, 12, none⟩) (Below.setCell (p := ⟨G, 1, none⟩) HB24.out HG.out _) HG.out _) HG.out _) HG.out _) HG.out _) HG.out _) HG.out _) HG.out _) HG.out _) HG.out _)
  have HB5 := Lib.hid (HB2.out.trans (hb25.mono HB2.out.size))
  have HRS5 := Lib.hid (HRS2.out.below hb25)
  have HRC5 := Lib.hid (HRC2.out.below hb25)
  have HROW5 := Lib.hid hrow5
  clear hw5 hb25 hrow5 HB24 HGN HG HB2 HRS2 HRC2 e0 e1 e2 e3 e4 e5 e6 e7 e8 e9 f0 f1 f2 f3 f4 f5 f6 f7 f8 f9
  go_wp2_with fail
  refine (HNW.out _).mono ?_
  rintro e w6 ⟨rfl, rfl⟩
  obtain ⟨r, hr, e0, e1, e2, e3, e4, e5, e6, e7, e8, e9⟩ := recWrong_at far n hn20 w5 G HROW5.out
  have hbad := recWrong_bad far hf0 n r hr
  have hbr := HBAD.out r w5 HB5.out hbad
  have hckr := fun w' hb => HCK.out r w' hb
  rw [hbad] at hckr
  have hcks := fun w' hb => HCK.out setR w' hb
  rw [setR_ok] at hcks
  have hckc := fun w' hb => HCK.out clrR w' hb
  rw [clrR_ok] at hckc
  dsimp only [recV, errIf, setR, clrR] at hbr hckr hcks hckc
  simp only [Bool.false_eq_true, if_false, if_true] at hckr hcks hckc
  have HBR := Lib.hid hbr
  have HCKR := Lib.hid hckr
  have HCKS := Lib.hid hcks
  have HCKC := Lib.hid hckc
  have HRR := Lib.hid hr
  clear hbr hckr hcks hckc hbad hr HBAD HCK HNW
  go_wp2_with fail
  refine HBR.out.mono ?_
  rintro e w7 ⟨rfl, hb7⟩
  have HB7 := Lib.hid (HB5.out.trans (hb7.mono HB5.out.size))
  have HRS7 := Lib.hid (HRS5.out.below hb7)
  have HRC7 := Lib.hid (HRC5.out.below hb7)
  have HROW7 : Hid (rowIs w7 G (wrongB far)) := Lib.hid (by have h := HROW5.out; unfold rowIs at h ⊢; rw [hb7.block _ (Array.getElem?_eq_some_iff.1 h).1]; exact h)
  obtain ⟨c0, c1, c2, c3, c4, c5, c6, c7, c8, c9⟩ := HRS7.out.cells
  clear hb7 HB5 HRS5 HRC5 HROW5 HBR e0 e1 e2 e3 e4 e5 e6 e7 e8 e9
  go_wp2_with fail
  refine (HCKS.out _ HB7.out).mono ?_
  rintro e w8 ⟨rfl, hb8⟩
  have HB8 := Lib.hid (HB7.out.trans (hb8.mono HB7.out.size))
  have HRC8 := Lib.hid (HRC7.out.below hb8)
  have HROW8 : Hid (rowIs w8 G (wrongB far)) := Lib.hid (by have h := HROW7.out; unfold rowIs at h ⊢; rw [hb8.block _ (Array.getElem?_eq_some_iff.1 h).1]; exact h)
  clear hb8 HB7 HRS7 HRC7 HROW7 c0 c1 c2 c3 c4 c5 c6 c7 c8 c9
  obtain ⟨c0, c1, c2, c3, c4, c5, c6, c7, c8, c9⟩ := HRC8.out.cells
  go_wp2_with fail
  refine (HCKC.out _ HB8.out).mono ?_
  rintro e w9 ⟨rfl, hb9⟩
  have HB9 := Lib.hid (HB8.out.trans (hb9.mono HB8.out.size))
  have HROW9 : Hid (rowIs w9 G (wrongB far)) := Lib.hid (by have h := HROW8.out; unfold rowIs at h ⊢; rw [hb9.block _ (Array.getElem?_eq_some_iff.1 h).1]; exact h)
  clear hb9 HB8 HRC8 HROW8 c0 c1 c2 c3 c4 c5 c6 c7 c8 c9
  go_wp2_with fail
  refine (HI1.out _ HB9.out).mono ?_
  rintro e w10 ⟨rfl, hb10⟩
  have HB10 := Lib.hid (HB9.out.trans (hb10.mono HB9.out.size))
  have hrow10 : rowIs w10 G (wrongB far) := by have h := HROW9.out; unfold rowIs at h ⊢; rw [hb10.block _ (Array.getElem?_eq_some_iff.1 h).1]; exact h
  obtain ⟨r', hr', e0, e1, e2, e3, e4, e5, e6, e7, e8, e9⟩ := recWrong_at far n hn20 w10 G hrow10
  obtain rfl : r' = r := Option.some.inj (hr'.symm.trans HRR.out)
  clear hb10 hr' hrow10 HB9 HROW9
  go_wp2_with fail
  refine (HCKR.out _ HB10.out).mono ?_
  rintro e w11 ⟨rfl, hb11⟩
  have HB11 := Lib.hid (HB10.out.trans (hb11.mono HB10.out.size))
  clear hb11 HB10 e0 e1 e2 e3 e4 e5 e6 e7 e8 e9
  go_wp2_with fail
  refine (HI1.out _ HB11.out).mono ?_
  rintro e w12 ⟨rfl, hb12⟩
  have HB12 := Lib.hid (HB11.out.trans (hb12.mono HB11.out.size))
  clear hb12 HB11
  go_wp2_with fail
  go_ret
  exact ⟨rfl, HB12.out⟩
end Go.Proofs.YtabpmpaeakebmaaDoor
