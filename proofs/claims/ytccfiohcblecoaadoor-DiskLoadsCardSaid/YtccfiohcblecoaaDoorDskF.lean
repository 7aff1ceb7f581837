/- Contract of phoenixlaw2's first. -/
import Derived.Test.YtccfiohcblecoaaDoorDskI
namespace Go.Proofs.YtccfiohcblecoaaDoor
open Go.RowKit
set_option linter.unusedVariables false

theorem newD_sec {n : Int} {i : Nat} (h : i < newN n) : (newD n).sec i = sec0 := by simp [DiskD.sec, newD, List.getD_eq_getElem?_getD, h]
theorem topS_sec0 : topS sec0 = List.replicate 256 0 := rfl
theorem getD_rep (m i : Nat) (h : i < m) : (List.replicate m (0 : Int)).getD i 0 = 0 := by rw [List.getD_eq_getElem?_getD, List.getElem?_replicate, if_pos h]; rfl

set_option maxRecDepth 20000 in
set_option maxHeartbeats 1000000 in
theorem dskFirst {ea : Nat → Addr} (w : World) (hs : D3 ea w) :
    Calls Tryd.prog 27 #[] w fun e w' => e = .returned (.bool true) ∧ Below w.heap.size w w' := by
  have hnw := dskNew 2 w
  have hlen : (newD 2).l.length = 2 := newD_len 2
  have hsec : (newD 2).sec 0 = sec0 := newD_sec (by unfold newN; omega)
  have hrc : readC (newD 2) 0 = 0 := by unfold readC DiskD.has; rw [hlen]; rfl
  have hrl : readL (newD 2) 0 = List.replicate 256 0 := by
    unfold readL DiskD.has; rw [hlen]; show topS ((newD 2).sec 0) = _; rw [hsec]; exact topS_sec0
  have him : (imageD (newD 2)).length = 2 := by unfold imageD; rw [List.length_map, hlen]
  generalize newD 2 = d at *
  have HNW := Lib.hid hnw
  have HLEN := Lib.hid hlen
  have HRC := Lib.hid hrc
  have HRL := Lib.hid hrl
  have HIM := Lib.hid him
  have HS := Lib.hid hs
  have HREP := Lib.hid (show (List.replicate 256 (0 : Int)).length = 256 from List.length_replicate)
  have HRG := Lib.hid (getD_rep 256 0 (by omega))
  clear hnw hlen hsec hrc hrl him hs
  go_enter Tryd.func27, Tryd.ntmps27
  go_wp2_with fail
  refine HNW.out.mono ?_
  clear HNW
  rintro e w1 ⟨⟨H, g, rfl, hd, hlow⟩, hb1⟩
  have HD := Lib.hid hd
  have HB1 := Lib.hid hb1
  clear hd hlow hb1
  go_wp2_with fail
  refine (dskRead HD.out (HS.out.below HB1.out) 0 (by omega) (by omega)).mono ?_
  rintro e w2 ⟨⟨x, rfl, hx⟩, hb2⟩
  rw [HRL.out] at hx
  rw [HRC.out, eC_zero]
  have HB2 := Lib.hid (HB1.out.trans (hb2.mono HB1.out.size))
  have HD2 := Lib.hid (HD.out.below hb2)
  generalize List.replicate 256 (0 : Int) = l at hx HREP HRG
  obtain ⟨gx, cx, hxv, _, _, hcx, hcm⟩ := hx.row (ne_nil_of_lt (k := 0) (by rw [HREP.out]; omega))
  rw [HREP.out] at hxv hcx
  subst hxv
  unfold maxLen at hcm
  have c0 := hx.cell (i := 0) (by rw [HREP.out]; omega)
  rw [HRG.out] at c0
  clear hb2 hx HD HB1
  go_wp2_with fail
  refine (dskSize HD2.out).mono ?_
  rintro e w3 ⟨rfl, rfl⟩
  rw [HLEN.out]
  go_wp2_with fail
  refine (dskImage HD2.out).mono ?_
  rintro e w4 ⟨⟨v, rfl, hv⟩, hb4⟩
  have HB4 := Lib.hid (HB2.out.trans (hb4.mono HB2.out.size))
  obtain ⟨ov, cv, hvv, hl1, hl2⟩ := hv.form
  rw [HIM.out] at hvv hl1
  subst hvv
  unfold maxLen at hl2
  clear hv hb4 HB2 HD2 c0
  go_wp2_with fail
  go_ret
  exact ⟨rfl, HB4.out⟩
end Go.Proofs.YtccfiohcblecoaaDoor
