/- The walk of the law DiskErrors. -/
import Derived.Test.YtcpicfahajhplaaDoorDskF
import Derived.Test.YtcpicfahajhplaaDoorFilled
import Derived.Test.YtcpicfahajhplaaDoorNum
namespace Go.Proofs.YtcpicfahajhplaaDoor
open Go.RowKit
set_option linter.unusedVariables false

theorem newD_empty (n : Int) (i : Nat) : ((newD n).sec i).loose.length = 0 := by
  by_cases h : i < newN n
  · rw [newD_sec h]; rfl
  · have : (newD n).l.length ≤ i := by rw [newD_len]; omega
    unfold DiskD.sec
    rw [getD_ge this]; rfl

set_option maxRecDepth 20000 in
set_option maxHeartbeats 4000000 in
theorem diskErrors_walk {ea : Nat → Addr} (n at_ size : Int) (n1 : -9223372036854775808 ≤ n) (n2 : n ≤ 9223372036854775807) (a1 : -9223372036854775808 ≤ at_) (a2 : at_ ≤ 9223372036854775807) (s1 : -9223372036854775808 ≤ size) (s2 : size ≤ 9223372036854775807) (w : World) (hs : Sen ea w) :
    Calls Tryd.prog 3 #[.int .i64 n, .int .i64 at_, .int .i64 size] w fun e w' => e = .returned (.bool true) ∧ Below w.heap.size w w' := by
  have hF := dskFirst w hs.d3
  have HF := Lib.hid hF
  have HS3 := Lib.hid hs.d3
  have hi2 : ∀ W, Below w.heap.size w W → Calls Tryd.prog 20 #[.iface 123 (.pointer (some (ea 1))), .int .i64 102] W fun e w' => e = .returned (.bool true) ∧ Below W.heap.size W w' :=
    fun W hb => isC W (hs.below hb) 102 (by unfold OkC; omega) 102
  have hi3 : ∀ W, Below w.heap.size w W → Calls Tryd.prog 20 #[.iface 123 (.pointer (some (ea 2))), .int .i64 103] W fun e w' => e = .returned (.bool true) ∧ Below W.heap.size W w' :=
    fun W hb => isC W (hs.below hb) 103 (by unfold OkC; omega) 103
  have HI2 := Lib.hid hi2
  have HI3 := Lib.hid hi3
  have hnn := fun W => number n 20 W (by omega) (by omega) n1 n2
  have hna := fun W => number at_ 100 W (by omega) (by omega) a1 a2
  have hns := fun W => number size 300 W (by omega) (by omega) s1 s2
  obtain ⟨k, hk⟩ := Int.eq_ofNat_of_zero_le (Int.emod_nonneg n (show (20 : Int) ≠ 0 by omega))
  have hk1 := Int.emod_lt_of_pos n (show (0 : Int) < 20 by omega)
  obtain ⟨a, ha⟩ := Int.eq_ofNat_of_zero_le (Int.emod_nonneg at_ (show (100 : Int) ≠ 0 by omega))
  have ha1 := Int.emod_lt_of_pos at_ (show (0 : Int) < 100 by omega)
  obtain ⟨z, hz⟩ := Int.eq_ofNat_of_zero_le (Int.emod_nonneg size (show (300 : Int) ≠ 0 by omega))
  have hz1 := Int.emod_lt_of_pos size (show (0 : Int) < 300 by omega)
  rw [hk] at hnn hk1
  rw [ha] at hna ha1
  rw [hz] at hns hz1
  have HNN := Lib.hid hnn
  have HNA := Lib.hid hna
  have HNS := Lib.hid hns
  clear hF hs hi2 hi3 hnn hna hns hk ha hz n1 n2 a1 a2 s1 s2
  have hnew := fun W => dskNew ((k : Int) + 1) W
  have hlen : (newD ((k : Int) + 1)).l.length = k + 1 := by rw [newD_len]; unfold newN; omega
  have hoff : (newD ((k : Int) + 1)).off = false := rfl
  have hfuse : (newD ((k : Int) + 1)).fuse = -1 := rfl
  have hemp := newD_empty ((k : Int) + 1)
  generalize newD ((k : Int) + 1) = d at *
  have hh1 : d.has (-1 - (a : Int)) = false := by unfold DiskD.has; rw [hlen]; simp; omega
  have hh2 : d.has ((k : Int) + 1 + (a : Int)) = false := by unfold DiskD.has; rw [hlen]; simp; omega
  have HR1 : Hid (readC d (-1 - (a : Int)) = 102) := Lib.hid (by simp [readC, hoff, hh1])
  have HR2 : Hid (readC d ((k : Int) + 1 + (a : Int)) = 102) := Lib.hid (by simp [readC, hoff, hh2])
  have HW1 : Hid (∀ b, writeC d (-1 - (a : Int)) b = 102 ∧ writeD d (-1 - (a : Int)) b = d) := Lib.hid (fun b => ⟨by simp [writeC, hoff, hh1], by simp [writeD, hoff, hh1]⟩)
  have HW2 : Hid (∀ b, writeC d ((k : Int) + 1 + (a : Int)) b = 102 ∧ writeD d ((k : Int) + 1 + (a : Int)) b = d) := Lib.hid (fun b => ⟨by simp [writeC, hoff, hh2], by simp [writeD, hoff, hh2]⟩)
  obtain ⟨r, hr⟩ : ∃ r, r = a % (k + 1) := ⟨_, rfl⟩
  have hrl : r < k + 1 := by rw [hr]; exact Nat.mod_lt _ (by omega)
  have htm : (a : Int).tmod ((k : Int) + 1) = (r : Int) := by rw [hr]; exact_mod_cast (Int.ofNat_tmod a (k + 1)).symm
  have hh3 : d.has (r : Int) = true := by unfold DiskD.has; rw [hlen]; simp; omega
  have HW3 : Hid (∀ b : List Int, b.length = z → writeC d (r : Int) b = if z = 256 then 0 else 103) := Lib.hid (fun b hb => by simp [writeC, hoff, hh3, hb, spendB, hfuse])
  have HEMP := Lib.hid hemp
  have HLEN := Lib.hid hlen
  clear hr hh1 hh2 hh3 hoff hfuse hemp hlen
  have HNEW := Lib.hid hnew
  clear hnew
  go_enter Tryd.func3, Tryd.ntmps3
  go_wp2_with fail
  refine HF.out.mono ?_
  rintro e w1 ⟨rfl, hb1⟩
  have HB1 := Lib.hid hb1
  clear hb1 HF
  go_wp2_with fail
  refine (HNN.out _).mono ?_
  rintro e w2 ⟨rfl, rfl⟩
  go_wp2_with fail
  refine (HNA.out _).mono ?_
  rintro e w2 ⟨rfl, rfl⟩
  go_wp2_with fail
  refine (HNS.out _).mono ?_
  rintro e w2 ⟨rfl, rfl⟩
  go_wp2_with fail
  refine (HNEW.out _).mono ?_
  clear HNEW HNN HNA HNS
  rintro e w2 ⟨⟨H, g, rfl, hd2, hlow⟩, hb2⟩
  have HB2 := Lib.hid (HB1.out.trans (hb2.mono HB1.out.size))
  have HD2 := Lib.hid hd2
  have HLOW : Hid (∀ b, g.F H d.l.length b → w.heap.size ≤ b) := Lib.hid (fun b hb => Nat.le_trans HB1.out.size (hlow b hb))
  have HOFF : Hid (¬ g.F H d.l.length 0) := Lib.hid (fun hf => by have h1 := hlow _ hf; have h2 := Below.lt HS3.out.o; have h3 := HB1.out.size; simp only at h2; omega)
  clear hd2 hlow hb2 HB1
  go_wp2_with fail
  refine (dskSize HD2.out).mono ?_
  rintro e w3 ⟨rfl, rfl⟩
  rw [HLEN.out]
  go_wp2_with fail
  refine (dskRead HD2.out (HS3.out.below HB2.out) (-1 - (a : Int)) (by omega) (by omega)).mono ?_
  rintro e w3 ⟨⟨x, rfl, _⟩, hb3⟩
  rw [HR1.out, show eC ea 102 = .iface 123 (.pointer (some (ea 1))) from rfl]
  have HB3 := Lib.hid (HB2.out.trans (hb3.mono HB2.out.size))
  have HD3 := Lib.hid (HD2.out.below hb3)
  clear hb3 HB2 HD2 HR1
  go_wp2_with fail
  refine (dskRead HD3.out (HS3.out.below HB3.out) ((k : Int) + 1 + (a : Int)) (by omega) (by omega)).mono ?_
  rintro e w4 ⟨⟨y, rfl, _⟩, hb4⟩
  rw [HR2.out, show eC ea 102 = .iface 123 (.pointer (some (ea 1))) from rfl]
  have HB4 := Lib.hid (HB3.out.trans (hb4.mono HB3.out.size))
  have HD4 := Lib.hid (HD3.out.below hb4)
  clear hb4 HB3 HD3 HR2
  go_wp2_with fail
  refine (filled 1 _).mono ?_
  rintro e w5 ⟨⟨f, rfl, hf⟩, hb5⟩
  have HB5 := Lib.hid (HB4.out.trans (hb5.mono HB4.out.size))
  have HD5 := Lib.hid (HD4.out.below hb5)
  have hfb := hf.bs
  generalize List.replicate 256 ((1 : Int) % 256) = fb at hfb
  have HFB := Lib.hid hfb
  clear hb5 HB4 HD4 hf hfb
  go_wp2_with fail
  refine (dskWrite HD5.out (HS3.out.below HB5.out) HOFF.out ((k : Int) + 1 + (a : Int)) (by omega) (by omega) f fb HFB.out (by rw [HEMP.out]; omega)).mono ?_
  rintro e w6 ⟨rfl, g6, hd6, hx6⟩
  rw [(HW2.out fb).2] at hd6 hx6
  rw [(HW2.out fb).1, show eC ea 102 = .iface 123 (.pointer (some (ea 1))) from rfl]
  have HB6 := Lib.hid (HB5.out.trans (hx6.below HLOW.out HB5.out.size))
  have HLOW6 := Lib.hid (hx6.low HLOW.out HB5.out.size)
  have HOFF6 : Hid (¬ g6.F H d.l.length 0) := Lib.hid (fun hf => by have h1 := HLOW6.out _ hf; have h2 := Below.lt HS3.out.o; simp only at h2; omega)
  have HD6 := Lib.hid hd6
  clear hd6 hx6 HB5 HD5 HW2 HLOW HOFF HFB
  obtain ⟨cur, hmk, hob⟩ := byteT.make w6 w6.heap.size .i64 .i64 z z (by omega) (by omega) (by omega) (Nat.le_refl _)
  have ez : ((z : Int)).toNat = z := Int.toNat_natCast z
  rw [ez] at hmk hob
  have HOB := Lib.hid hob
  have hal6 : Below w6.heap.size w6 (w6.alloc (.cells cur 5)) := (Below.refl _ _).alloc (Nat.le_refl _) _
  have HB7 := Lib.hid (HB6.out.trans (hal6.mono HB6.out.size))
  have HD7 := Lib.hid (HD6.out.below hal6)
  clear hob hal6 HB6 HD6 ez
  go_wp2_with fail
  refine (dskWrite HD7.out (HS3.out.below HB7.out) HOFF6.out (-1 - (a : Int)) (by omega) (by omega) _ _ HOB.out.bs (by rw [HEMP.out]; omega)).mono ?_
  rintro e w8 ⟨rfl, g8, hd8, hx8⟩
  rw [(HW1.out _).2] at hd8 hx8
  rw [(HW1.out _).1, show eC ea 102 = .iface 123 (.pointer (some (ea 1))) from rfl]
  have HB8 := Lib.hid (HB7.out.trans (hx8.below HLOW6.out HB7.out.size))
  have HLOW8 := Lib.hid (hx8.low HLOW6.out HB7.out.size)
  have HOFF8 : Hid (¬ g8.F H d.l.length 0) := Lib.hid (fun hf => by have h1 := HLOW8.out _ hf; have h2 := Below.lt HS3.out.o; simp only at h2; omega)
  have HD8 := Lib.hid hd8
  clear hd8 hx8 HB7 HD7 HW1 HLOW6 HOFF6 HOB hmk
  obtain ⟨cur2, hmk, hob⟩ := byteT.make w8.drew w8.heap.size .i64 .i64 z z (by omega) (by omega) (by omega) (Nat.le_refl _)
  have ez : ((z : Int)).toNat = z := Int.toNat_natCast z
  rw [ez] at hmk hob
  have hal8 : Below w8.heap.size w8 (w8.drew.alloc (.cells cur2 5)) := ((Below.refl _ _).drew).alloc (Nat.le_refl _) _
  have hb9 := HB8.out.trans (hal8.mono HB8.out.size)
  have hwr := dskWrite (HD8.out.below hal8) (HS3.out.below hb9) HOFF8.out (r : Int) (by omega) (by omega) _ _ hob.bs (by rw [HEMP.out]; omega)
  rw [HW3.out _ List.length_replicate] at hwr
  have HB9 := Lib.hid hb9
  have hk0 : ((k : Int) + 1 == 0) = false := by simp; omega
  have hk00 : ¬ ((k : Int) + 1 = 0) := by omega
  have HNA := Lib.hid (fun W => dskNew 1000 W)
  have HNB := Lib.hid (fun W => dskNew (-5) W)
  have HLA : Hid ((newD 1000).l.length = 200) := Lib.hid (by rw [newD_len]; rfl)
  have HLB : Hid ((newD (-5)).l.length = 1) := Lib.hid (by rw [newD_len]; rfl)
  generalize newD 1000 = da at HNA HLA
  generalize newD (-5) = db at HNB HLB
  clear hob hal8 hb9 HB8 HD8 HOFF8 HW3 ez
  by_cases hz256 : z = 256
  · rw [if_pos hz256, eC_zero] at hwr
    have hzz : ((z : Int) == 256) = true := by simp [hz256]
    clear hz256
    have HWR := Lib.hid hwr
    clear hwr
    go_wp2_with fail
    go_region_law ((first | (go_simp; go_at_call 18; refine HWR.out.mono ?_; rintro e w10 ⟨rfl, g10, hd10, hx10⟩)))
    have HB10 := Lib.hid (HB9.out.trans (hx10.below HLOW8.out HB9.out.size))
    clear hd10 hx10 HWR HB9 HLOW8 htm hmk hk0 hk00
    go_wp2_with fail
    refine (HNA.out _).mono ?_
    rintro e w11 ⟨⟨Ha, ga, rfl, hda, _⟩, hb11⟩
    have HB11 := Lib.hid (HB10.out.trans (hb11.mono HB10.out.size))
    have HDA11 := Lib.hid hda
    clear hda hb11 HB10
    go_wp2_with fail
    refine (HNB.out _).mono ?_
    rintro e w13 ⟨⟨Hb, gb, rfl, hdb, _⟩, hb13⟩
    have HB13 := Lib.hid (HB11.out.trans (hb13.mono HB11.out.size))
    have HDA13 := Lib.hid (HDA11.out.below hb13)
    have HDB13 := Lib.hid hdb
    clear hdb hb13 HB11 HDA11
    go_wp2_with fail
    refine (HI2.out _ HB13.out).mono ?_
    rintro e w14 ⟨rfl, hb14⟩
    have HB14 := Lib.hid (HB13.out.trans (hb14.mono HB13.out.size))
    have HDA14 := Lib.hid (HDA13.out.below hb14)
    have HDB14 := Lib.hid (HDB13.out.below hb14)
    clear hb14 HB13 HDA13 HDB13
    go_wp2_with fail
    refine (HI2.out _ HB14.out).mono ?_
    rintro e w15 ⟨rfl, hb15⟩
    have HB15 := Lib.hid (HB14.out.trans (hb15.mono HB14.out.size))
    have HDA15 := Lib.hid (HDA14.out.below hb15)
    have HDB15 := Lib.hid (HDB14.out.below hb15)
    clear hb15 HB14 HDA14 HDB14
    go_wp2_with fail
    refine (HI2.out _ HB15.out).mono ?_
    rintro e w16 ⟨rfl, hb16⟩
    have HB16 := Lib.hid (HB15.out.trans (hb16.mono HB15.out.size))
    have HDA16 := Lib.hid (HDA15.out.below hb16)
    have HDB16 := Lib.hid (HDB15.out.below hb16)
    clear hb16 HB15 HDA15 HDB15
    go_wp2_with fail
    refine (HI2.out _ HB16.out).mono ?_
    rintro e w17 ⟨rfl, hb17⟩
    have HB17 := Lib.hid (HB16.out.trans (hb17.mono HB16.out.size))
    have HDA17 := Lib.hid (HDA16.out.below hb17)
    have HDB17 := Lib.hid (HDB16.out.below hb17)
    clear hb17 HB16 HDA16 HDB16
    go_wp2_with fail
    refine (dskSize HDA17.out).mono ?_
    rintro e w19 ⟨rfl, rfl⟩
    rw [HLA.out]
    go_wp2_with fail
    refine (dskSize HDB17.out).mono ?_
    rintro e w20 ⟨rfl, rfl⟩
    rw [HLB.out]
    go_wp2_with fail
    go_ret
    exact ⟨rfl, HB17.out⟩
  · rw [if_neg hz256, show eC ea 103 = .iface 123 (.pointer (some (ea 2))) from rfl] at hwr
    have hzz : ((z : Int) == 256) = false := by simp; omega
    clear hz256
    have HWR := Lib.hid hwr
    clear hwr
    go_wp2_with fail
    go_region_law ((first | (go_simp; go_at_call 18; refine HWR.out.mono ?_; rintro e w10 ⟨rfl, g10, hd10, hx10⟩)))
    have HB10 := Lib.hid (HB9.out.trans (hx10.below HLOW8.out HB9.out.size))
    clear hd10 hx10 HWR HB9 HLOW8 htm hmk hk0 hk00
    go_wp2_with fail
    refine (HNA.out _).mono ?_
    rintro e w11 ⟨⟨Ha, ga, rfl, hda, _⟩, hb11⟩
    have HB11 := Lib.hid (HB10.out.trans (hb11.mono HB10.out.size))
    have HDA11 := Lib.hid hda
    clear hda hb11 HB10
    go_wp2_with fail
    refine (HNB.out _).mono ?_
    rintro e w13 ⟨⟨Hb, gb, rfl, hdb, _⟩, hb13⟩
    have HB13 := Lib.hid (HB11.out.trans (hb13.mono HB11.out.size))
    have HDA13 := Lib.hid (HDA11.out.below hb13)
    have HDB13 := Lib.hid hdb
    clear hdb hb13 HB11 HDA11
    go_wp2_with fail
    refine (HI2.out _ HB13.out).mono ?_
    rintro e w14 ⟨rfl, hb14⟩
    have HB14 := Lib.hid (HB13.out.trans (hb14.mono HB13.out.size))
    have HDA14 := Lib.hid (HDA13.out.below hb14)
    have HDB14 := Lib.hid (HDB13.out.below hb14)
    clear hb14 HB13 HDA13 HDB13
    go_wp2_with fail
    refine (HI2.out _ HB14.out).mono ?_
    rintro e w15 ⟨rfl, hb15⟩
    have HB15 := Lib.hid (HB14.out.trans (hb15.mono HB14.out.size))
    have HDA15 := Lib.hid (HDA14.out.below hb15)
    have HDB15 := Lib.hid (HDB14.out.below hb15)
    clear hb15 HB14 HDA14 HDB14
    go_wp2_with fail
    refine (HI2.out _ HB15.out).mono ?_
    rintro e w16 ⟨rfl, hb16⟩
    have HB16 := Lib.hid (HB15.out.trans (hb16.mono HB15.out.size))
    have HDA16 := Lib.hid (HDA15.out.below hb16)
    have HDB16 := Lib.hid (HDB15.out.below hb16)
    clear hb16 HB15 HDA15 HDB15
    go_wp2_with fail
    refine (HI2.out _ HB16.out).mono ?_
    rintro e w17 ⟨rfl, hb17⟩
    have HB17 := Lib.hid (HB16.out.trans (hb17.mono HB16.out.size))
    have HDA17 := Lib.hid (HDA16.out.below hb17)
    have HDB17 := Lib.hid (HDB16.out.below hb17)
    clear hb17 HB16 HDA16 HDB16
    go_wp2_with fail
    refine (HI3.out _ HB17.out).mono ?_
    rintro e w18 ⟨rfl, hb18⟩
    have HB18 := Lib.hid (HB17.out.trans (hb18.mono HB17.out.size))
    have HDA18 := Lib.hid (HDA17.out.below hb18)
    have HDB18 := Lib.hid (HDB17.out.below hb18)
    clear hb18 HB17 HDA17 HDB17
    go_wp2_with fail
    refine (dskSize HDA18.out).mono ?_
    rintro e w19 ⟨rfl, rfl⟩
    rw [HLA.out]
    go_wp2_with fail
    refine (dskSize HDB18.out).mono ?_
    rintro e w20 ⟨rfl, rfl⟩
    rw [HLB.out]
    go_wp2_with fail
    go_ret
    exact ⟨rfl, HB18.out⟩
end Go.Proofs.YtcpicfahajhplaaDoor
