/- The walk of the law RecSays. (Printed by this repo's mkrecsays.py.) -/
import Derived.Test.YtabpmpaeakebmaaDoorRecY
import Derived.Test.YtabpmpaeakebmaaDoorRecM
import Derived.Test.YtabpmpaeakebmaaDoorRecF
import Derived.Test.YtabpmpaeakebmaaDoorRecR
import Derived.Test.YtabpmpaeakebmaaDoorRecS
import Derived.Test.YtabpmpaeakebmaaDoorRecQ
import Derived.Test.YtabpmpaeakebmaaDoorBytesR
import Derived.Test.YtabpmpaeakebmaaDoorNum
import Derived.Test.YtabpmpaeakebmaaDoorXor
namespace Go.Proofs.YtabpmpaeakebmaaDoor
open Go.RowKit
set_option linter.unusedVariables false

theorem recSays_idle (r : RecD) (v u : Value) (m l : List Int) (at_ by_ : Int) (w : World) {ea : Nat → Addr} (hs : Sen ea w) (hv : Bs w v m) (hu : Ns .i64 w u l) (hbig : (60 : Int) < m.length ∨ (60 : Int) < l.length) :
    Calls Tryd.prog 11 #[recV r, v, u, .int .i64 at_, .int .u8 by_] w fun e w' => e = .returned (.bool true) ∧ Below w.heap.size w w' := by
  obtain ⟨_, o, cap, rfl, hc1, hc2, hc3, _⟩ := hv
  obtain ⟨_, o', cap', rfl, hd1, hd2, hd3, _⟩ := hu
  unfold maxLen at hc2 hd2
  have HF := Lib.hid (fun w' (hb : Below w.heap.size w w') => recFirst w' _ _ ((hs.below hb).cell 1 (by decide)))
  clear hs
  generalize m.length = n at *
  generalize l.length = k at *
  obtain ⟨p0, p1, p2, p3, p4, p5, p6, p7, p8, p9⟩ := r
  dsimp only [recV]
  have HB1 := Lib.hid (show Below w.heap.size w (w.alloc (.cells #[.int .i64 p0, .int .i64 p1, .int .i64 p2, .int .i64 p3, .int .i64 p4, .int .i64 p5, .bool p6, .bool p7, .int .i64 p8, .int .i64 p9] 50)) from (Below.refl _ _).alloc (Nat.le_refl _) _)
  by_cases h1 : (60 : Int) < n
  · go_enter Tryd.func11, Tryd.ntmps11
    go_wp2_with fail
    refine (HF.out _ HB1.out).mono ?_
    rintro e w1 ⟨rfl, hb1⟩
    have HB2 := Lib.hid (HB1.out.trans (hb1.mono HB1.out.size))
    clear hb1
    go_wp2_with fail
    go_ret
    exact ⟨rfl, HB2.out⟩
  · have h2 : (60 : Int) < k := by omega
    go_enter Tryd.func11, Tryd.ntmps11
    go_wp2_with fail
    refine (HF.out _ HB1.out).mono ?_
    rintro e w1 ⟨rfl, hb1⟩
    have HB2 := Lib.hid (HB1.out.trans (hb1.mono HB1.out.size))
    clear hb1
    go_wp2_with fail
    go_ret
    exact ⟨rfl, HB2.out⟩

/-- Bytes, whatever the record -/
theorem recBytesAny (r : RecD) (w : World) (hr : r.W) (p : Option Addr) (T : TypeId) (hE : w.cell? ⟨0, 0, none⟩ = some (.iface T (.pointer p))) :
    Calls Tryd.prog 28 #[recV r] w fun e w' => (∃ o cap, e = .returned (.tuple #[.slice o (cond (okR r) 40 0) cap, cond (okR r) .nilIface (.iface T (.pointer p))]) ∧ (cond (okR r) 40 0 ≤ cap ∧ cap ≤ maxLen) ∧ Bs w' (.slice o (cond (okR r) 40 0) cap) (cond (okR r) (recB r) [])) ∧ Below w.heap.size w w' := by
  cases h : okR r with
  | true =>
    have hb := recBytes r w hr _ hE h
    have hl := recB_length r
    generalize recB r = b at hb hl ⊢
    refine hb.mono ?_
    rintro e w1 ⟨⟨v, rfl, hob⟩, hb⟩
    have hbs := hob.bs
    obtain ⟨_, o, cap, rfl, h1, h2, _, _⟩ := hob.bs
    rw [hl] at hbs h1 ⊢
    exact ⟨⟨o, cap, rfl, ⟨h1, h2⟩, hbs⟩, hb⟩
  | false =>
    refine (recBytesBad r w 0 p T hE h).mono ?_
    rintro e w1 ⟨rfl, hb⟩
    exact ⟨⟨none, 0, rfl, ⟨Nat.le_refl _, by simp [maxLen]⟩, Bs.nil _⟩, hb⟩


set_option maxRecDepth 20000 in
set_option maxHeartbeats 4000000 in
theorem recSays_walk0 {ea : Nat → Addr} (r : RecD) (hr : r.W) (v0 v1 : Value) (l0 l1 : List Int) (at_ : Int) (h1 : -9223372036854775808 ≤ at_) (h2 : at_ ≤ 9223372036854775807) (by_ : Int) (h3 : 0 ≤ by_) (h4 : by_ ≤ 255) (w : World) (hs : Sen ea w) (hv0 : Bs w v0 l0) (hv1 : Ns .i64 w v1 l1) (hl0 : (l0.length : Int) ≤ 60) (hl1 : (l1.length : Int) ≤ 60) :
    Calls Tryd.prog 11 #[recV r, v0, v1, .int .i64 at_, .int .u8 by_] w fun e w' => e = .returned (.bool true) ∧ Below w.heap.size w w' := by
  have HV0 := Lib.hid hv0
  have HV1 := Lib.hid hv1
  obtain ⟨_, o, cap, rfl, hc1, hc2, hc3, _⟩ := hv0
  obtain ⟨_, o', cap', rfl, hd1, hd2, hd3, _⟩ := hv1
  unfold maxLen at hc2 hd2
  have HF := Lib.hid (fun w' (hb : Below w.heap.size w w') => recFirst w' _ _ ((hs.below hb).cell 1 (by decide)))
  have hby := fun w' (hb : Below w.heap.size w w') => recBytesAny r w' hr _ _ ((hs.below hb).cell 1 (by decide))
  have hgr := fun w' => goodRec r w'
  have hckr := fun w' (hb : Below w.heap.size w w') => recCheck r w' _ ((hs.below hb).cell 1 (by decide))
  have HCKA := Lib.hid (fun (s : RecD) w' (hb : Below w.heap.size w w') => recCheck s w' _ ((hs.below hb).cell 1 (by decide)))
  have hrbr := fun w' => recBytesRef r w'
  have HRD := Lib.hid (fun v b w' (hb : Below w.heap.size w w') hv => recRead (ea := ea) v b w' hv (hs.below hb).e3)
  have HSE := Lib.hid hs
  have hi0 : ∀ W, Below w.heap.size w W → Calls Tryd.prog 16 #[.nilIface, .int .i64 0] W fun e w' => e = .returned (.bool true) ∧ Below W.heap.size W w' :=
    fun W hb => isC W (hs.below hb) 0 (.inl rfl) 0
  have hi1 : ∀ W, Below w.heap.size w W → Calls Tryd.prog 16 #[.iface 98 (.pointer (some (ea 1))), .int .i64 102] W fun e w' => e = .returned (.bool true) ∧ Below W.heap.size W w' :=
    fun W hb => isC W (hs.below hb) 102 (by unfold OkC; omega) 102
  have HI0 := Lib.hid hi0
  have HI1 := Lib.hid hi1
  have HL0 := Lib.hid hl0
  have HL1 := Lib.hid hl1
  have hlr := recB_length r
  generalize recB r = br at hby hrbr hlr
  generalize okR r = ok at hby hgr hckr
  obtain ⟨p0, p1, p2, p3, p4, p5, p6, p7, p8, p9⟩ := r
  dsimp only [recV] at hby hgr hckr hrbr ⊢
  have hcke : errIf ok (eV ea 1) = cond ok .nilIface (eV ea 1) := by cases ok <;> rfl
  rw [hcke] at hckr
  dsimp only [eV] at hckr hby
  have HBY := Lib.hid hby
  have HGR := Lib.hid hgr
  have HCKR := Lib.hid hckr
  have HRBR := Lib.hid hrbr
  have HLR := Lib.hid hlr
  clear hby hgr hckr hrbr hcke hlr hi0 hi1 hs hr
  obtain ⟨n, hn⟩ : ∃ n, n = l0.length := ⟨_, rfl⟩
  obtain ⟨k, hk⟩ : ∃ k, k = l1.length := ⟨_, rfl⟩
  rw [← hn] at hc1 hl0 ⊢
  rw [← hk] at hd1 hl1 ⊢
  have HN := Lib.hid hn
  have HK := Lib.hid hk
  clear hn hk
  have HR1 := Lib.hid (RW.new w #[.int .i64 p0, .int .i64 p1, .int .i64 p2, .int .i64 p3, .int .i64 p4, .int .i64 p5, .bool p6, .bool p7, .int .i64 p8, .int .i64 p9])
  have HB1 := Lib.hid (show Below w.heap.size w (w.alloc (.cells #[.int .i64 p0, .int .i64 p1, .int .i64 p2, .int .i64 p3, .int .i64 p4, .int .i64 p5, .bool p6, .bool p7, .int .i64 p8, .int .i64 p9] 50)) from (Below.refl _ _).alloc (Nat.le_refl _) _)
  go_enter Tryd.func11, Tryd.ntmps11
  go_wp2_with fail
  generalize (w.alloc (.cells #[.int .i64 p0, .int .i64 p1, .int .i64 p2, .int .i64 p3, .int .i64 p4, .int .i64 p5, .bool p6, .bool p7, .int .i64 p8, .int .i64 p9] 50)) = w1 at HR1 HB1 ⊢
  obtain ⟨A, hA⟩ : ∃ A, A = w.heap.size := ⟨_, rfl⟩
  rw [← hA] at HR1 ⊢
  have HA := Lib.hid hA
  clear hA
  refine (HF.out _ HB1.out).mono ?_
  rintro e w2 ⟨rfl, hb2⟩
  have HB2 := Lib.hid (HB1.out.trans (hb2.mono HB1.out.size))
  have HR2 := Lib.hid (HR1.out.below hb2)
  have hmk := makeRec' _ l1 w2 (HV1.out.below HB2.out) (by have := HL1.out; omega)
  rw [← HK.out] at hmk
  have HMK := Lib.hid hmk
  clear hb2 hmk HB1 HR1 HF
  go_wp2_with fail
  refine HMK.out.mono ?_
  rintro e w3 ⟨⟨s, rfl, hsw, hsok⟩, hb3⟩
  have HB3 := Lib.hid (HB2.out.trans (hb3.mono HB2.out.size))
  have HR3 := Lib.hid (HR2.out.below hb3)
  have hcks := fun w' hb => HCKA.out s w' hb
  rw [hsok] at hcks
  have hrs := fun w' => recBytesRef s w'
  have hls := recB_length s
  generalize recB s = bs at hrs hls
  obtain ⟨q0, q1, q2, q3, q4, q5, q6, q7, q8, q9⟩ := s
  dsimp only [recV, errIf] at hcks hrs ⊢
  have HCKS := Lib.hid hcks
  have HRS := Lib.hid hrs
  have HLS := Lib.hid hls
  have hal : Below w3.heap.size w3 (w3.alloc (.cells #[.int .i64 q0, .int .i64 q1, .int .i64 q2, .int .i64 q3, .int .i64 q4, .int .i64 q5, .bool q6, .bool q7, .int .i64 q8, .int .i64 q9] 50)) := (Below.refl _ _).alloc (Nat.le_refl _) _
  have HB4 := Lib.hid (HB3.out.trans (hal.mono HB3.out.size))
  have HR4 := Lib.hid (HR3.out.below hal)
  have HS4 := Lib.hid (RW.new w3 #[.int .i64 q0, .int .i64 q1, .int .i64 q2, .int .i64 q3, .int .i64 q4, .int .i64 q5, .bool q6, .bool q7, .int .i64 q8, .int .i64 q9])
  obtain ⟨d0, d1, d2, d3, d4, d5, d6, d7, d8, d9⟩ := HS4.out.cells
  clear hb3 hcks hrs hls hal HB2 HR2 HMK HB3 HR3 hsw hsok HCKA
  go_wp2_with fail
  generalize (w3.alloc (.cells #[.int .i64 q0, .int .i64 q1, .int .i64 q2, .int .i64 q3, .int .i64 q4, .int .i64 q5, .bool q6, .bool q7, .int .i64 q8, .int .i64 q9] 50)) = w4 at HB4 HR4 HS4 d0 d1 d2 d3 d4 d5 d6 d7 d8 d9 ⊢
  generalize w3.heap.size = B at HS4 d0 d1 d2 d3 d4 d5 d6 d7 d8 d9 ⊢
  refine (HRS.out _).mono ?_
  rintro e w5 ⟨⟨vc, rfl, hobc⟩, hb5⟩
  have HB5 := Lib.hid (HB4.out.trans (hb5.mono HB4.out.size))
  have HR5 := Lib.hid (HR4.out.below hb5)
  have HS5 := Lib.hid (HS4.out.below hb5)
  have hbc := hobc.bs
  obtain ⟨_, oc, cpc, rfl, hcc1, hcc2, _, _⟩ := hobc.bs
  unfold maxLen at hcc2
  rw [HLS.out] at hbc hcc1 ⊢
  have HBC := Lib.hid hbc
  clear hb5 hobc hbc HB4 HR4 HS4 HRS d0 d1 d2 d3 d4 d5 d6 d7 d8 d9
  go_wp2_with fail
  refine (bytesRef _ bs _ HBC.out (by rw [HLS.out]; omega)).mono ?_
  rintro e w6 ⟨vd, rfl, hb6, hobd⟩
  obtain ⟨gg, cpd, hvd, hgg, hgl, hcl, hcm⟩ := hobd.row (ne_nil_of_lt (k := 0) (by rw [HLS.out]; omega))
  rw [HLS.out] at hvd hcl
  subst hvd
  unfold maxLen at hcm
  have HB6 := Lib.hid hb6
  have HOBD := Lib.hid hobd
  clear hb6 hobd
  go_wp2_with fail
  refine (number at_ 40 _ (by omega) (by omega) h1 h2).mono ?_
  rintro e x4 ⟨rfl, rfl⟩
  have hk0 := Int.emod_nonneg at_ (show (40 : Int) ≠ 0 by omega)
  have hk1 := Int.emod_lt_of_pos at_ (show (0 : Int) < 40 by omega)
  obtain ⟨t, ht⟩ := Int.eq_ofNat_of_zero_le hk0
  rw [ht] at hk1 ⊢
  clear ht hk0 h1 h2
  have hcell := HOBD.out.cell (i := t) (by rw [HLS.out]; omega)
  have hfz := HOBD.out.frozen t
  have hxb := HOBD.out.1.get t
  obtain ⟨z, hz, hz0, hz1, hzx⟩ := xor_byte (bs.getD t 0) by_ hxb.1 hxb.2 h3 h4
  have HSET := Lib.hid (HOBD.out.set t hz0 hz1)
  generalize bs.getD t 0 = xk at hcell hz
  clear hzx hxb h3 h4
  go_upto_region 11 with fail
  obtain ⟨w7, hw7⟩ : ∃ w7, w7 = w6.setCell ⟨gg, t, none⟩ (.int .u8 z) := ⟨_, rfl⟩
  rw [← hw7]
  have hobd7 := HSET.out
  rw [← hw7] at hobd7
  have hb57 : Below w5.heap.size w5 w7 := by rw [hw7]; exact HB6.out.setCell (p := ⟨gg, t, none⟩) hgg _
  have HB7 := Lib.hid (HB5.out.trans (hb57.mono HB5.out.size))
  have HR7 := Lib.hid (HR5.out.below hb57)
  have HS7 := Lib.hid (HS5.out.below hb57)
  have HBC7 := Lib.hid (HBC.out.below hb57)
  have HBD7 := Lib.hid hobd7.bs
  clear hw7 hobd7 hb57 hcell hfz hz HSET HOBD HB6 HB5 HR5 HS5 HBC
  generalize bs.set t z = bd at HBD7
  obtain ⟨c0, c1, c2, c3, c4, c5, c6, c7, c8, c9⟩ := HR7.out.cells
  go_wp2_with fail
  refine (HBY.out _ HB7.out).mono ?_
  clear HBY
  rintro e w8 ⟨⟨ox, cx, rfl, ⟨hx1, hx2⟩, hbx⟩, hb8⟩
  unfold maxLen at hx2
  have HB8 := Lib.hid (HB7.out.trans (hb8.mono HB7.out.size))
  have HR8 := Lib.hid (HR7.out.below hb8)
  have HS8 := Lib.hid (HS7.out.below hb8)
  have HBC8 := Lib.hid (HBC7.out.below hb8)
  have HBD8 := Lib.hid (HBD7.out.below hb8)
  have HBX8 := Lib.hid hbx
  clear hb8 hbx HB7 HR7 HS7 HBC7 HBD7 c0 c1 c2 c3 c4 c5 c6 c7 c8 c9
  obtain ⟨c0, c1, c2, c3, c4, c5, c6, c7, c8, c9⟩ := HR8.out.cells
  go_wp2_with fail
  refine (HGR.out _).mono ?_
  clear HGR
  rintro e w9 ⟨rfl, hb9⟩
  have HB9 := Lib.hid (HB8.out.trans (hb9.mono HB8.out.size))
  have HR9 := Lib.hid (HR8.out.below hb9)
  have HS9 := Lib.hid (HS8.out.below hb9)
  have HBC9 := Lib.hid (HBC8.out.below hb9)
  have HBD9 := Lib.hid (HBD8.out.below hb9)
  have HBX9 := Lib.hid (HBX8.out.below hb9)
  clear hb9 HB8 HR8 HS8 HBC8 HBD8 HBX8 c0 c1 c2 c3 c4 c5 c6 c7 c8 c9
  go_upto_if 65 with fail
  go_cut [18] from 25 (fun s18 wx => s18 = .int .i64 (cond ok 0 102) ∧ Hid (Below w9.heap.size w9 wx))
  case first =>
    cases ok
    · go_wp2_with fail
      go_meet
      exact ⟨rfl, Lib.hid (Below.refl _ _)⟩
    · go_wp2_with fail
      go_meet
      exact ⟨rfl, Lib.hid (Below.refl _ _)⟩
  obtain ⟨rfl, hb10⟩ := hcut
  have HB10 := Lib.hid (HB9.out.trans (hb10.out.mono HB9.out.size))
  have HR10 := Lib.hid (HR9.out.below hb10.out)
  have HS10 := Lib.hid (HS9.out.below hb10.out)
  have HBC10 := Lib.hid (HBC9.out.below hb10.out)
  have HBD10 := Lib.hid (HBD9.out.below hb10.out)
  have HBX10 := Lib.hid (HBX9.out.below hb10.out)
  clear hb10 HB9 HR9 HS9 HBC9 HBD9 HBX9
  generalize wc = w10 at HB10 HR10 HS10 HBC10 HBD10 HBX10 ⊢
  go_upto_region 15 with fail
  go_cut [96] from 25 (fun s96 wx => s96 = .bool false ∧ Hid (Below w10.heap.size w10 wx))
  case first =>
    obtain ⟨c0, c1, c2, c3, c4, c5, c6, c7, c8, c9⟩ := HR10.out.cells
    cases ok with
    | true =>
      have hckr := HCKR.out
      have hbx := HBX10.out
      dsimp only [cond] at hckr hbx hx1 ⊢
      have HCK := Lib.hid hckr
      have HBX := Lib.hid hbx
      clear hckr hbx HCKR HBX10
      go_wp2_with fail
      refine (HI0.out _ HB10.out).mono ?_
      rintro e y1 ⟨rfl, hy1⟩
      have HC1 := Lib.hid hy1
      clear hy1 c0 c1 c2 c3 c4 c5 c6 c7 c8 c9
      obtain ⟨c0, c1, c2, c3, c4, c5, c6, c7, c8, c9⟩ := (HR10.out.below HC1.out).cells
      go_wp2_with fail
      refine (HCK.out _ (HB10.out.trans (HC1.out.mono HB10.out.size))).mono ?_
      rintro e y2 ⟨rfl, hy2⟩
      have HC2 := Lib.hid (HC1.out.trans (hy2.mono HC1.out.size))
      clear hy2 HC1 HCK c0 c1 c2 c3 c4 c5 c6 c7 c8 c9
      go_wp2_with fail
      refine (HI0.out _ (HB10.out.trans (HC2.out.mono HB10.out.size))).mono ?_
      rintro e y3 ⟨rfl, hy3⟩
      have HC3 := Lib.hid (HC2.out.trans (hy3.mono HC2.out.size))
      clear hy3 HC2
      obtain ⟨c0, c1, c2, c3, c4, c5, c6, c7, c8, c9⟩ := (HR10.out.below HC3.out).cells
      go_wp2_with fail
      refine (HRBR.out _).mono ?_
      rintro e y4 ⟨⟨u, rfl, hobu⟩, hy4⟩
      have HC4 := Lib.hid (HC3.out.trans (hy4.mono HC3.out.size))
      have hsame := same_calls _ _ _ _ y4 (HBX.out.below HC4.out) hobu.bs
      rw [show sameB br br = true by simp [sameB]] at hsame
      have HSAME := Lib.hid hsame
      clear hy4 HC3 hobu hsame c0 c1 c2 c3 c4 c5 c6 c7 c8 c9
      go_wp2_with fail
      refine HSAME.out.mono ?_
      clear HSAME
      rintro e y5 ⟨rfl, hq5⟩
      have HC5 := Lib.hid (HC4.out.trans (hq5.below _))
      clear hq5 HC4
      go_wp2_with fail
      go_meet
      exact ⟨rfl, HC5⟩
    | false =>
      have hckr := HCKR.out
      dsimp only [cond] at hckr hx1 ⊢
      have HCK := Lib.hid hckr
      clear hckr HCKR HBX10
      go_wp2_with fail
      refine (HI1.out _ HB10.out).mono ?_
      rintro e y1 ⟨rfl, hy1⟩
      have HC1 := Lib.hid hy1
      clear hy1 c0 c1 c2 c3 c4 c5 c6 c7 c8 c9
      obtain ⟨c0, c1, c2, c3, c4, c5, c6, c7, c8, c9⟩ := (HR10.out.below HC1.out).cells
      go_wp2_with fail
      refine (HCK.out _ (HB10.out.trans (HC1.out.mono HB10.out.size))).mono ?_
      rintro e y2 ⟨rfl, hy2⟩
      have HC2 := Lib.hid (HC1.out.trans (hy2.mono HC1.out.size))
      clear hy2 HC1 HCK c0 c1 c2 c3 c4 c5 c6 c7 c8 c9
      go_wp2_with fail
      refine (HI1.out _ (HB10.out.trans (HC2.out.mono HB10.out.size))).mono ?_
      rintro e y3 ⟨rfl, hy3⟩
      have HC3 := Lib.hid (HC2.out.trans (hy3.mono HC2.out.size))
      clear hy3 HC2
      go_wp2_with fail
      go_meet
      exact ⟨rfl, HC3⟩
  obtain ⟨rfl, hb11⟩ := hcut
  have HB11 := Lib.hid (HB10.out.trans (hb11.out.mono HB10.out.size))
  have HR11 := Lib.hid (HR10.out.below hb11.out)
  have HS11 := Lib.hid (HS10.out.below hb11.out)
  have b1 := HBC10.out.below hb11.out
  have b2 := HBD10.out.below hb11.out
  clear hb11 HB10 HR10 HS10 HBC10 HBD10 HBX10 HCKR HRBR HI0 HI1 HLR hx1 hx2
  generalize wc = w11 at HB11 HR11 HS11 b1 b2 ⊢
  have b0 := HV0.out.below HB11.out
  rw [← HN.out] at b0
  have hrs : Rs (w11.alloc (.cells #[.slice o n cap, .slice oc 40 cpc, .slice (some ⟨gg, 0, none⟩) 40 cpd] 24)) (.slice (some ⟨w11.heap.size, 0, none⟩) 3 3) [l0, bs, bd] :=
    Rs.lit [.slice o n cap, .slice oc 40 cpc, .slice (some ⟨gg, 0, none⟩) 40 cpd] _ rfl _ 3 rfl rfl (by simp) (fun i hi => by
      match i, hi with
      | 0, _ => exact b0
      | 1, _ => exact b1
      | 2, _ => exact b2
      | i + 3, h => exact absurd h (by simp))
  have hal : Below w11.heap.size w11 (w11.alloc (.cells #[.slice o n cap, .slice oc 40 cpc, .slice (some ⟨gg, 0, none⟩) 40 cpd] 24)) := (Below.refl _ _).alloc (Nat.le_refl _) _
  have HRS := Lib.hid hrs
  have HB12 := Lib.hid (HB11.out.trans (hal.mono HB11.out.size))
  have HR12 := Lib.hid (HR11.out.below hal)
  have HS12 := Lib.hid (HS11.out.below hal)
  clear b0 b1 b2 hrs hal HB11 HR11 HS11
  go_wp2_with fail
  generalize (w11.alloc (.cells #[.slice o n cap, .slice oc 40 cpc, .slice (some ⟨gg, 0, none⟩) 40 cpd] 24)) = w12 at HRS HB12 HR12 HS12 ⊢
  generalize w11.heap.size = C at HRS ⊢
  generalize hL : [l0, bs, bd] = L at HRS
  have hL3 : L.length = 3 := by rw [← hL]; rfl
  have HL3 := Lib.hid hL3
  clear hL hL3 HLS
  go_loopw [20] (fun i wr => ∃ j : Nat, i = .int .i64 j ∧ (j : Int) ≤ 3 ∧ Hid (Below w.heap.size w wr) ∧ Hid (Rs wr (.slice (some ⟨C, 0, none⟩) 3 3) L) ∧ Hid (RW A #[.int .i64 p0, .int .i64 p1, .int .i64 p2, .int .i64 p3, .int .i64 p4, .int .i64 p5, .bool p6, .bool p7, .int .i64 p8, .int .i64 p9] wr) ∧ Hid (RW B #[.int .i64 q0, .int .i64 q1, .int .i64 q2, .int .i64 q3, .int .i64 q4, .int .i64 q5, .bool q6, .bool q7, .int .i64 q8, .int .i64 q9] wr)) (fun i _ => 3 - (intOf i).toNat)
  case atStart => exact ⟨0, rfl, by omega, HB12, HRS, HR12, HS12⟩
  case round =>
    obtain ⟨j, rfl, hj, HBR, HRR, HPR, HQR⟩ := hrel
    by_cases hj3 : (j : Int) < 3
    · have hrr := HRR.out
      obtain ⟨o4, cap4, e4, q1', q2', q3', q4'⟩ := hrr
      obtain ⟨aB, uj, ha, huj, hbj⟩ := Rs.at_ q4' (k := j) (by rw [HL3.out]; omega)
      simp only [Value.slice.injEq] at e4
      have ea4 := e4.1.trans ha
      simp only [Option.some.injEq] at ea4
      subst ea4
      clear e4 ha
      have huj2 : wr.cell? ⟨C, j, none⟩ = some uj := by rw [← huj]; congr 1; unfold Addr.add; split <;> simp_all
      generalize L.getD j [] = bj at hbj
      have hrd := HRD.out uj bj wr HBR.out hbj
      have hokc := readR_okC bj
      have HRDJ := Lib.hid hrd
      have HOKC := Lib.hid hokc
      have HBJ := Lib.hid hbj
      clear q1' q2' q3' q4' huj hrd hokc hbj o4 cap4
      go_wp2_with fail
      refine HRDJ.out.mono ?_
      clear HRDJ
      rintro e y1 ⟨rfl, hy1⟩
      have hrf := fun y hb => recReadRef uj bj y (HBJ.out.below (w' := y) hb)
      generalize readR bj = rc at hrf HOKC ⊢
      obtain ⟨⟨r0, r1, r2, r3, r4, r5, r6, r7, r8, r9⟩, c⟩ := rc
      dsimp only [recV] at hrf HOKC ⊢
      have hal1 : Below y1.heap.size y1 (y1.alloc (.cells #[.int .i64 r0, .int .i64 r1, .int .i64 r2, .int .i64 r3, .int .i64 r4, .int .i64 r5, .bool r6, .bool r7, .int .i64 r8, .int .i64 r9] 50)) := (Below.refl _ _).alloc (Nat.le_refl _) _
      have hms1 := RW.new y1 #[.int .i64 r0, .int .i64 r1, .int .i64 r2, .int .i64 r3, .int .i64 r4, .int .i64 r5, .bool r6, .bool r7, .int .i64 r8, .int .i64 r9]
      have hyr2 := hy1.trans (hal1.mono hy1.size)
      have hu2 : (y1.alloc (.cells #[.int .i64 r0, .int .i64 r1, .int .i64 r2, .int .i64 r3, .int .i64 r4, .int .i64 r5, .bool r6, .bool r7, .int .i64 r8, .int .i64 r9] 50)).cell? ⟨C, j, none⟩ = some uj := by rw [hyr2.cell (Below.lt huj2)]; exact huj2
      have HRF := Lib.hid hrf
      have HYR2 := Lib.hid hyr2
      have HMS1 := Lib.hid hms1
      clear hrf hyr2 hms1 hal1 hy1 huj2
      go_wp2_with fail
      generalize (y1.alloc (.cells #[.int .i64 r0, .int .i64 r1, .int .i64 r2, .int .i64 r3, .int .i64 r4, .int .i64 r5, .bool r6, .bool r7, .int .i64 r8, .int .i64 r9] 50)) = y2 at hu2 HYR2 HMS1 ⊢
      generalize y1.heap.size = S1 at HMS1 ⊢
      refine (HRF.out _ HYR2.out).mono ?_
      clear HRF
      rintro e y3 ⟨rfl, hy3⟩
      have hal3 : Below y3.heap.size y3 (y3.alloc (.cells #[.int .i64 r0, .int .i64 r1, .int .i64 r2, .int .i64 r3, .int .i64 r4, .int .i64 r5, .bool r6, .bool r7, .int .i64 r8, .int .i64 r9] 50)) := (Below.refl _ _).alloc (Nat.le_refl _) _
      have hms3 := RW.new y3 #[.int .i64 r0, .int .i64 r1, .int .i64 r2, .int .i64 r3, .int .i64 r4, .int .i64 r5, .bool r6, .bool r7, .int .i64 r8, .int .i64 r9]
      have hy24 := hy3.trans (hal3.mono hy3.size)
      have HYR4 := Lib.hid (HYR2.out.trans (hy24.mono HYR2.out.size))
      obtain ⟨c0, c1, c2, c3, c4, c5, c6, c7, c8, c9⟩ := (HMS1.out.below hy24).cells
      obtain ⟨d0, d1, d2, d3, d4, d5, d6, d7, d8, d9⟩ := hms3.cells
      have hsm := fun W => sameRec ⟨r0, r1, r2, r3, r4, r5, r6, r7, r8, r9⟩ ⟨r0, r1, r2, r3, r4, r5, r6, r7, r8, r9⟩ W
      have hsme : sameRB ⟨r0, r1, r2, r3, r4, r5, r6, r7, r8, r9⟩ ⟨r0, r1, r2, r3, r4, r5, r6, r7, r8, r9⟩ = true := (sameRB_iff _ _).2 rfl
      rw [hsme] at hsm
      dsimp only [recV] at hsm
      have HSM := Lib.hid hsm
      clear hsm hsme hms3 hy24 hal3 hy3 hu2 HYR2 HMS1
      go_wp2_with fail
      refine (HSM.out _).mono ?_
      rintro e y5 ⟨rfl, hy5⟩
      have HYR5 := Lib.hid (HYR4.out.trans (hy5.mono HYR4.out.size))
      have HIS := Lib.hid (isC y5 (HSE.out.below (HBR.out.trans (HYR5.out.mono HBR.out.size))) c HOKC.out c)
      clear hy5 HYR4 HSM HOKC c0 c1 c2 c3 c4 c5 c6 c7 c8 c9 d0 d1 d2 d3 d4 d5 d6 d7 d8 d9
      go_wp2_with fail
      refine HIS.out.mono ?_
      clear HIS
      rintro e y6 ⟨rfl, hy6⟩
      have hyr6 := HYR5.out.trans (hy6.mono HYR5.out.size)
      have HYW6 := Lib.hid (HBR.out.trans (hyr6.mono HBR.out.size))
      have HYR6 := Lib.hid (HRR.out.below hyr6)
      have HYP6 := Lib.hid (HPR.out.below hyr6)
      have HYQ6 := Lib.hid (HQR.out.below hyr6)
      have hcc : (c == c) = true := by simp
      rw [hcc]
      clear hy6 hyr6 HYR5 hcc
      go_wp2_with fail
      go_roundw
      case rel => exact ⟨j + 1, by go_num, by omega, HYW6, HYR6, HYP6, HYQ6⟩
      case measure => simp [intOf]; omega
    · have hsq := fun W => recSame ⟨p0, p1, p2, p3, p4, p5, p6, p7, p8, p9⟩ ⟨q0, q1, q2, q3, q4, q5, q6, q7, q8, q9⟩ W
      have hsr := fun W => sameRec ⟨p0, p1, p2, p3, p4, p5, p6, p7, p8, p9⟩ ⟨q0, q1, q2, q3, q4, q5, q6, q7, q8, q9⟩ W
      have hss := fun W => recSame ⟨q0, q1, q2, q3, q4, q5, q6, q7, q8, q9⟩ ⟨q0, q1, q2, q3, q4, q5, q6, q7, q8, q9⟩ W
      rw [show sameRB ⟨q0, q1, q2, q3, q4, q5, q6, q7, q8, q9⟩ ⟨q0, q1, q2, q3, q4, q5, q6, q7, q8, q9⟩ = true from (sameRB_iff _ _).2 rfl] at hss
      generalize sameRB ⟨p0, p1, p2, p3, p4, p5, p6, p7, p8, p9⟩ ⟨q0, q1, q2, q3, q4, q5, q6, q7, q8, q9⟩ = zz at hsq hsr
      dsimp only [recV] at hsq hsr hss
      have hdb : Below w.heap.size w wr.drew := HBR.out.drew
      have hck := HCKS.out wr.drew hdb
      have hK : ∀ Z, Below wr.drew.heap.size wr.drew Z → ((Z.cell? ⟨A, 0, none⟩ = some (.int .i64 p0) ∧ Z.cell? ⟨A, 1, none⟩ = some (.int .i64 p1) ∧ Z.cell? ⟨A, 2, none⟩ = some (.int .i64 p2) ∧ Z.cell? ⟨A, 3, none⟩ = some (.int .i64 p3) ∧ Z.cell? ⟨A, 4, none⟩ = some (.int .i64 p4) ∧ Z.cell? ⟨A, 5, none⟩ = some (.int .i64 p5) ∧ Z.cell? ⟨A, 6, none⟩ = some (.bool p6) ∧ Z.cell? ⟨A, 7, none⟩ = some (.bool p7) ∧ Z.cell? ⟨A, 8, none⟩ = some (.int .i64 p8) ∧ Z.cell? ⟨A, 9, none⟩ = some (.int .i64 p9)) ∧
          (Z.cell? ⟨B, 0, none⟩ = some (.int .i64 q0) ∧ Z.cell? ⟨B, 1, none⟩ = some (.int .i64 q1) ∧ Z.cell? ⟨B, 2, none⟩ = some (.int .i64 q2) ∧ Z.cell? ⟨B, 3, none⟩ = some (.int .i64 q3) ∧ Z.cell? ⟨B, 4, none⟩ = some (.int .i64 q4) ∧ Z.cell? ⟨B, 5, none⟩ = some (.int .i64 q5) ∧ Z.cell? ⟨B, 6, none⟩ = some (.bool q6) ∧ Z.cell? ⟨B, 7, none⟩ = some (.bool q7) ∧ Z.cell? ⟨B, 8, none⟩ = some (.int .i64 q8) ∧ Z.cell? ⟨B, 9, none⟩ = some (.int .i64 q9))) ∧ Below w.heap.size w Z := fun Z hz => by
        have hz' : Below wr.heap.size wr Z := ((Below.refl _ _).drew).trans hz
        exact ⟨⟨(HPR.out.below hz').cells, (HQR.out.below hz').cells⟩, HBR.out.trans (hz'.mono HBR.out.size)⟩
      have K := Lib.hid hK
      have HSQ := Lib.hid hsq
      have HSR := Lib.hid hsr
      have HSS := Lib.hid hss
      have HCK := Lib.hid hck
      clear hsq hsr hss hdb hck hK HCKS HBR HRR HPR HQR HRD HSE HL3
      go_wp2_with fail
      cases zz
      all_goals
        go_region_held3 (fun Z => (Z.cell? ⟨A, 0, none⟩ = some (.int .i64 p0) ∧ Z.cell? ⟨A, 1, none⟩ = some (.int .i64 p1) ∧ Z.cell? ⟨A, 2, none⟩ = some (.int .i64 p2) ∧ Z.cell? ⟨A, 3, none⟩ = some (.int .i64 p3) ∧ Z.cell? ⟨A, 4, none⟩ = some (.int .i64 p4) ∧ Z.cell? ⟨A, 5, none⟩ = some (.int .i64 p5) ∧ Z.cell? ⟨A, 6, none⟩ = some (.bool p6) ∧ Z.cell? ⟨A, 7, none⟩ = some (.bool p7) ∧ Z.cell? ⟨A, 8, none⟩ = some (.int .i64 p8) ∧ Z.cell? ⟨A, 9, none⟩ = some (.int .i64 p9)) ∧
          (Z.cell? ⟨B, 0, none⟩ = some (.int .i64 q0) ∧ Z.cell? ⟨B, 1, none⟩ = some (.int .i64 q1) ∧ Z.cell? ⟨B, 2, none⟩ = some (.int .i64 q2) ∧ Z.cell? ⟨B, 3, none⟩ = some (.int .i64 q3) ∧ Z.cell? ⟨B, 4, none⟩ = some (.int .i64 q4) ∧ Z.cell? ⟨B, 5, none⟩ = some (.int .i64 q5) ∧ Z.cell? ⟨B, 6, none⟩ = some (.bool q6) ∧ Z.cell? ⟨B, 7, none⟩ = some (.bool q7) ∧ Z.cell? ⟨B, 8, none⟩ = some (.int .i64 q8) ∧ Z.cell? ⟨B, 9, none⟩ = some (.int .i64 q9)))
          (first | exact (K.out _ (Below.refl _ _)).1 | exact (K.out _ hz1).1 | exact (K.out _ (hz1.trans (hz2.mono hz1.size))).1 | exact (K.out _ (hz1.trans (hz3.mono hz1.size))).1 | exact (K.out _ ((hz1.trans (hz2.mono hz1.size)).trans (hz3.mono (hz1.trans (hz2.mono hz1.size)).size))).1 | exact (K.out _ ((hz1.trans (hz3.mono hz1.size)).trans (hz2.mono (hz1.trans (hz3.mono hz1.size)).size))).1 | exact (K.out _ (((hz1.trans (hz2.mono hz1.size)).trans (hz3.mono (hz1.trans (hz2.mono hz1.size)).size)).trans (hz4.mono ((hz1.trans (hz2.mono hz1.size)).trans (hz3.mono (hz1.trans (hz2.mono hz1.size)).size)).size))).1 | exact (K.out _ (((hz1.trans (hz3.mono hz1.size)).trans (hz2.mono (hz1.trans (hz3.mono hz1.size)).size)).trans (hz4.mono ((hz1.trans (hz3.mono hz1.size)).trans (hz2.mono (hz1.trans (hz3.mono hz1.size)).size)).size))).1)
          ((first
            | (go_at_call 29; with_reducible refine HCK.out.mono ?_; rintro e z1 ⟨rfl, hz1⟩)
            | (go_at_call 32; with_reducible refine (HSQ.out _).mono ?_; rintro e z2 ⟨rfl, hz2⟩)
            | (go_at_call 32; with_reducible refine (HSS.out _).mono ?_; rintro e z4 ⟨rfl, hz4⟩)
            | (go_at_call 31; with_reducible refine (HSR.out _).mono ?_; rintro e z3 ⟨rfl, hz3⟩)))
      all_goals
        go_wp2_with fail
        go_ret
        first
          | exact ⟨rfl, (K.out _ (((hz1.trans (hz2.mono hz1.size)).trans (hz3.mono (hz1.trans (hz2.mono hz1.size)).size)).trans (hz4.mono ((hz1.trans (hz2.mono hz1.size)).trans (hz3.mono (hz1.trans (hz2.mono hz1.size)).size)).size))).2⟩
          | exact ⟨rfl, (K.out _ (((hz1.trans (hz3.mono hz1.size)).trans (hz2.mono (hz1.trans (hz3.mono hz1.size)).size)).trans (hz4.mono ((hz1.trans (hz3.mono hz1.size)).trans (hz2.mono (hz1.trans (hz3.mono hz1.size)).size)).size))).2⟩

theorem recSays_walk {ea : Nat → Addr} (r : RecD) (hr : r.W) (v0 v1 : Value) (l0 l1 : List Int) (at_ : Int) (h1 : -9223372036854775808 ≤ at_) (h2 : at_ ≤ 9223372036854775807) (by_ : Int) (h3 : 0 ≤ by_) (h4 : by_ ≤ 255) (w : World) (hs : Sen ea w) (hv0 : Bs w v0 l0) (hv1 : Ns .i64 w v1 l1) :
    Calls Tryd.prog 11 #[recV r, v0, v1, .int .i64 at_, .int .u8 by_] w fun e w' => e = .returned (.bool true) ∧ Below w.heap.size w w' := by
  by_cases h : (60 : Int) < l0.length ∨ (60 : Int) < l1.length
  · exact recSays_idle r v0 v1 l0 l1 at_ by_ w hs hv0 hv1 h
  · exact recSays_walk0 r hr v0 v1 l0 l1 at_ h1 h2 by_ h3 h4 w hs hv0 hv1 (by omega) (by omega)
end Go.Proofs.YtabpmpaeakebmaaDoor
