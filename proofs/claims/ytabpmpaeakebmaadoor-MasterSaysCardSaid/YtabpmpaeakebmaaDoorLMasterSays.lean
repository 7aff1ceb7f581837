/- The walk of the law MasterSays. -/
import Derived.Test.YtabpmpaeakebmaaDoorMasL
import Derived.Test.YtabpmpaeakebmaaDoorMasT
import Derived.Test.YtabpmpaeakebmaaDoorXor

namespace Go.Proofs.YtabpmpaeakebmaaDoor
open Go.RowKit
set_option linter.unusedVariables false

set_option maxRecDepth 20000 in
set_option maxHeartbeats 4000000 in
theorem masterSays_walk {ea : Nat → Addr} (m : MasD) (hm : m.W) (v0 : Value) (l : List Int) (at_ : Int) (h1 : -9223372036854775808 ≤ at_) (h2 : at_ ≤ 9223372036854775807) (by_ : Int) (h3 : 0 ≤ by_) (h4 : by_ ≤ 255) (w : World) (hv0 : Bs w v0 l) (hs : Sen ea w) :
    Calls Tryd.prog 3 #[masV m, v0, .int .i64 at_, .int .u8 by_] w fun e w' => e = .returned (.bool true) ∧ Below w.heap.size w w' := by
  have hb1 : Below w.heap.size w (w.alloc (.cells #[.int .i64 m.epoch, .int .i64 m.base, .int .i64 m.reset, .int .i64 m.ckpt, .int .i64 m.pages, .int .i64 m.blocks, .int .i64 m.frames] 23)) := (Below.refl _ _).alloc (Nat.le_refl _) _
  have HMS := Lib.hid (MS.new w m)
  have HF := Lib.hid (fun w' hb => masFirst (ea := ea) w' (hs.below (w' := w') hb))
  have HG := Lib.hid (fun w' => goodMas m hm w')
  have HGM := Lib.hid (fun w' => goodMaster m w')
  have HCK := Lib.hid (fun w' hb => masCheck m w' _ ((hs.below (w' := w') hb).cell 1 (by decide)))
  have HBY := Lib.hid (fun w' hb h => masBytes m w' _ ((hs.below (w' := w') hb).cell 1 (by decide)) h)
  have HBAD := Lib.hid (fun w' hb h => masBytesBad m w' _ _ ((hs.below (w' := w') hb).cell 1 (by decide)) h)
  have HMB := Lib.hid (fun (n : MasD) w' h => masterBytesRef n w' h)
  have HSE := Lib.hid hs
  have HV0 := Lib.hid hv0
  have HB1 := Lib.hid hb1
  obtain ⟨hB, o, cap, rfl, hc1, hc2, hc3, hc4⟩ := hv0
  unfold maxLen at hc2
  have hi0 : ∀ W, Below w.heap.size w W → Calls Tryd.prog 16 #[.nilIface, .int .i64 0] W fun e w' => e = .returned (.bool true) ∧ Below W.heap.size W w' :=
    fun W hb => isC W (hs.below hb) 0 (.inl rfl) 0
  have hi1 : ∀ W, Below w.heap.size w W → Calls Tryd.prog 16 #[.iface 98 (.pointer (some (ea 1))), .int .i64 102] W fun e w' => e = .returned (.bool true) ∧ Below W.heap.size W w' :=
    fun W hb => isC W (hs.below hb) 102 (by unfold OkC; omega) 102
  have HI0 := Lib.hid hi0
  have HI1 := Lib.hid hi1
  have hokg := goodM_ok m
  generalize goodM m = g at HG hokg
  obtain ⟨g0, g1, g2, g3, g4, g5, g6⟩ := g
  have hmbg := fun W => HMB.out _ W hokg
  dsimp only [masV] at hmbg
  have HMBG := Lib.hid hmbg
  clear hb1 hs hm hB hc3 hc4 hi0 hi1 hokg hmbg
  generalize hlen : l.length = len at hc1 ⊢
  have HLEN := Lib.hid hlen
  clear hlen
  obtain ⟨n0, n1, n2, n3, n4, n5, n6⟩ := m
  dsimp only [masV] at *
  by_cases hbig : (300 : Int) < len
  · go_enter Tryd.func3, Tryd.ntmps3
    go_wp2_with fail
    refine (HF.out _ HB1.out).mono ?_
    rintro e w2 ⟨rfl, hb2⟩
    have HB2 := Lib.hid (HB1.out.trans (hb2.mono HB1.out.size))
    go_wp2_with fail
    go_ret
    exact ⟨rfl, HB2.out⟩
  · go_enter Tryd.func3, Tryd.ntmps3
    go_wp2_with fail
    obtain ⟨A, hA⟩ : ∃ A, A = w.heap.size := ⟨_, rfl⟩
    generalize (w.alloc (.cells #[.int .i64 n0, .int .i64 n1, .int .i64 n2, .int .i64 n3, .int .i64 n4, .int .i64 n5, .int .i64 n6] 23)) = w1 at HMS HB1 ⊢
    rw [← hA] at HMS ⊢
    have HA := Lib.hid hA
    clear hA
    refine (HF.out _ HB1.out).mono ?_
    rintro e w2 ⟨rfl, hb2⟩
    have HB2 := Lib.hid (HB1.out.trans (hb2.mono HB1.out.size))
    have HM2 := Lib.hid (HMS.out.below hb2)
    obtain ⟨c0, c1, c2, c3, c4, c5, c6⟩ := HM2.out.cells
    dsimp only at c0 c1 c2 c3 c4 c5 c6
    clear hb2 HMS HB1 HF
    go_wp2_with fail
    refine (HGM.out _).mono ?_
    rintro e w3 ⟨rfl, hb3⟩
    have HB3 := Lib.hid (HB2.out.trans (hb3.mono HB2.out.size))
    have HM3 := Lib.hid (HM2.out.below hb3)
    clear c0 c1 c2 c3 c4 c5 c6
    obtain ⟨c0, c1, c2, c3, c4, c5, c6⟩ := HM3.out.cells
    dsimp only at c0 c1 c2 c3 c4 c5 c6
    clear hb3 HM2 HB2 HGM
    by_cases hk : okM ⟨n0, n1, n2, n3, n4, n5, n6⟩ = true
    · have hby := fun W hb => HBY.out W hb hk
      have hck := HCK.out
      have hmb := fun W => HMB.out _ W hk
      rw [hk] at hck ⊢
      dsimp only [errM, masV] at hck hmb
      simp only [if_true] at hck
      have hlenB := masB_length ⟨n0, n1, n2, n3, n4, n5, n6⟩
      generalize masB ⟨n0, n1, n2, n3, n4, n5, n6⟩ = b at hby hmb hlenB
      have HBY2 := Lib.hid hby
      have HCK2 := Lib.hid hck
      have HMB2 := Lib.hid hmb
      clear hby hck hmb hk HBY HCK HBAD
      go_wp2_with fail
      refine (HBY2.out _ HB3.out).mono ?_
      rintro e w4 ⟨⟨v, rfl, hob⟩, hb4⟩
      have HB4 := Lib.hid (HB3.out.trans (hb4.mono HB3.out.size))
      have HM4 := Lib.hid (HM3.out.below hb4)
      have HOB := Lib.hid hob.bs
      obtain ⟨_, o2, cap2, rfl, hd1, hd2, _, _⟩ := hob.bs
      rw [hlenB] at hd1 HOB ⊢
      clear c0 c1 c2 c3 c4 c5 c6 hob hb4 HM3 HB3 HBY2
      obtain ⟨c0, c1, c2, c3, c4, c5, c6⟩ := HM4.out.cells
      dsimp only at c0 c1 c2 c3 c4 c5 c6
      go_wp2_with fail
      refine (HCK2.out _ HB4.out).mono ?_
      rintro e w5 ⟨rfl, hb5⟩
      have HB5 := Lib.hid (HB4.out.trans (hb5.mono HB4.out.size))
      have HM5 := Lib.hid (HM4.out.below hb5)
      have HOB5 := Lib.hid (HOB.out.below hb5)
      clear hb5 HB4 HM4 HOB HCK2 c0 c1 c2 c3 c4 c5 c6
      go_wp2_with fail
      refine (HI0.out _ HB5.out).mono ?_
      rintro e w6 ⟨rfl, hb6⟩
      have HB6 := Lib.hid (HB5.out.trans (hb6.mono HB5.out.size))
      have HM6 := Lib.hid (HM5.out.below hb6)
      have HOB6 := Lib.hid (HOB5.out.below hb6)
      clear hb6 HB5 HM5 HOB5
      go_wp2_with fail
      refine (HI0.out _ HB6.out).mono ?_
      rintro e w7 ⟨rfl, hb7⟩
      have HB7 := Lib.hid (HB6.out.trans (hb7.mono HB6.out.size))
      have HM7 := Lib.hid (HM6.out.below hb7)
      have HOB7 := Lib.hid (HOB6.out.below hb7)
      clear hb7 HB6 HM6 HOB6
      obtain ⟨c0, c1, c2, c3, c4, c5, c6⟩ := HM7.out.cells
      dsimp only at c0 c1 c2 c3 c4 c5 c6
      go_wp2_with fail
      refine (HMB2.out _).mono ?_
      rintro e w8 ⟨⟨u, rfl, hobu⟩, hb8⟩
      have HB8 := Lib.hid (HB7.out.trans (hb8.mono HB7.out.size))
      have HM8 := Lib.hid (HM7.out.below hb8)
      have hsame := same_calls _ _ _ _ w8 (HOB7.out.below hb8) hobu.bs
      rw [show sameB b b = true by simp [sameB]] at hsame
      have HSAME := Lib.hid hsame
      clear hb8 HB7 HM7 HOB7 hobu hsame HMB2 c0 c1 c2 c3 c4 c5 c6
      go_wp2_with fail
      refine HSAME.out.mono ?_
      rintro e w9 ⟨rfl, hq9⟩
      have HBQ := Lib.hid (HB8.out.trans (hq9.below _))
      have HMQ := Lib.hid (HM8.out.below (hq9.below _))
      clear HSAME hq9 HB8 HM8 hd1 hd2
      -- the sectors that are read both ways
      obtain ⟨c0, c1, c2, c3, c4, c5, c6⟩ := HMQ.out.cells
      dsimp only at c0 c1 c2 c3 c4 c5 c6
      go_wp2_with fail
      refine (HG.out _).mono ?_
      rintro e x1 ⟨rfl, hx1⟩
      have HX1 := Lib.hid (HBQ.out.trans (hx1.mono HBQ.out.size))
      clear hx1 HBQ HMQ c0 c1 c2 c3 c4 c5 c6 HG
      dsimp only [masV]
      go_wp2_with fail
      refine (HMBG.out x1).mono ?_
      rintro e x2 ⟨⟨vc, rfl, hobc⟩, hx2⟩
      have HX2 := Lib.hid (HX1.out.trans (hx2.mono HX1.out.size))
      obtain ⟨_, oc, cpc, rfl, _, _, _, _⟩ := hobc.bs
      have hbc := hobc.bs
      have hlg := masB_length ⟨g0, g1, g2, g3, g4, g5, g6⟩
      rw [hlg] at hbc ⊢
      generalize masB ⟨g0, g1, g2, g3, g4, g5, g6⟩ = bg at hbc hlg
      have HBC := Lib.hid hbc
      have HLG := Lib.hid hlg
      clear hx2 HX1 HMBG hobc hbc hlg
      go_wp2_with fail
      refine (bytesRef _ bg _ HBC.out (by rw [HLG.out]; omega)).mono ?_
      rintro e x3 ⟨vd, rfl, hx3, hobd⟩
      have HX3 := Lib.hid (HX2.out.trans (hx3.mono HX2.out.size))
      have HX23 := Lib.hid hx3
      have HOBD := Lib.hid hobd
      obtain ⟨gg, cpd, hvd, hgg, hgl, hcl, hcm⟩ := hobd.row (ne_nil_of_lt (k := 0) (by rw [HLG.out]; omega))
      rw [HLG.out] at hvd hcl
      subst hvd
      unfold maxLen at hcm
      clear hx3 hobd
      go_wp2_with fail
      refine (number at_ 40 _ (by omega) (by omega) h1 h2).mono ?_
      rintro e x4 ⟨rfl, rfl⟩
      have hk0 := Int.emod_nonneg at_ (show (40 : Int) ≠ 0 by omega)
      have hk1 := Int.emod_lt_of_pos at_ (show (0 : Int) < 40 by omega)
      obtain ⟨k, hk⟩ := Int.eq_ofNat_of_zero_le hk0
      rw [hk] at hk1 ⊢
      clear hk hk0
      have hkl : k < 256 := by omega
      have hcell := HOBD.out.cell (i := k) (by rw [HLG.out]; exact hkl)
      have hfz := HOBD.out.frozen k
      have hxb := HOBD.out.1.get k
      obtain ⟨z, hz, hz0, hz1, hzx⟩ := xor_byte (bg.getD k 0) by_ hxb.1 hxb.2 h3 h4
      have HSET := Lib.hid (HOBD.out.set k hz0 hz1)
      generalize bg.getD k 0 = xk at hcell hz
      clear hzx hxb hkl
      go_wp2_with fail
      obtain ⟨x5, hx5⟩ : ∃ x5, x5 = x3.setCell ⟨gg, k, none⟩ (.int .u8 z) := ⟨_, rfl⟩
      rw [← hx5]
      have hobd5 := HSET.out
      rw [← hx5] at hobd5
      have hb5 : Below w.heap.size w x5 := by rw [hx5]; exact HX3.out.setCell (p := ⟨gg, k, none⟩) (by have := HX2.out.size; simp; omega) _
      have hbc5 : Bs x5 (.slice oc 256 cpc) bg := HBC.out.below (by rw [hx5]; exact HX23.out.setCell (p := ⟨gg, k, none⟩) hgg _)
      have HB5 := Lib.hid hb5
      have HOBD5 := Lib.hid hobd5.bs
      have HBC5 := Lib.hid hbc5
      clear hx5 hobd5 hb5 hbc5 hcell hfz hz HSET HOBD HX3 HBC HX23
      have hv5 := HV0.out.below HB5.out
      rw [HLEN.out] at hv5
      refine (fillRef _ l 256 x5 hv5 (by have := HLEN.out; omega) (by omega) (by omega)).mono ?_
      rintro e x6 ⟨vf, rfl, hx6, hobf⟩
      have HB6 := Lib.hid (HB5.out.trans (hx6.mono HB5.out.size))
      have b0 := hv5.below hx6
      have b1 := HBC5.out.below hx6
      have b2 := HOBD5.out.below hx6
      obtain ⟨_, of, cpf, rfl, _, _, _, _⟩ := hobf.bs
      have b3 := hobf.bs
      have hlf : (fillL l 256).length = (max len 256) := by have := fillL_length l 256; rw [HLEN.out] at this; omega
      rw [hlf] at b3 ⊢
      generalize (max len 256) = lf at b3 ⊢
      generalize bg.set k z = bd at b2
      generalize fillL l 256 = bf at b3
      have hrs : Rs (x6.alloc (.cells #[.slice o len cap, .slice oc 256 cpc, .slice (some ⟨gg, 0, none⟩) 256 cpd, .slice of lf cpf] 24)) (.slice (some ⟨x6.heap.size, 0, none⟩) 4 4) [l, bg, bd, bf] :=
        Rs.lit [.slice o len cap, .slice oc 256 cpc, .slice (some ⟨gg, 0, none⟩) 256 cpd, .slice of lf cpf] _ rfl _ 4 rfl rfl (by simp) (fun i hi => by
          match i, hi with
          | 0, _ => exact b0
          | 1, _ => exact b1
          | 2, _ => exact b2
          | 3, _ => exact b3
          | i + 4, h => exact absurd h (by simp))
      have HRS := Lib.hid hrs
      have hal : Below x6.heap.size x6 (x6.alloc (.cells #[.slice o len cap, .slice oc 256 cpc, .slice (some ⟨gg, 0, none⟩) 256 cpd, .slice of lf cpf] 24)) := (Below.refl _ _).alloc (Nat.le_refl _) _
      have HAL := Lib.hid (HB6.out.trans (hal.mono HB6.out.size))
      clear hx6 hv5 b0 b1 b2 b3 hobf HB5 HBC5 HOBD5 hrs hal HB6
      go_wp2_with fail
      generalize (x6.alloc (.cells #[.slice o len cap, .slice oc 256 cpc, .slice (some ⟨gg, 0, none⟩) 256 cpd, .slice of lf cpf] 24)) = x7 at HRS HAL ⊢
      generalize x6.heap.size = B at HRS ⊢
      generalize hL : [l, bg, bd, bf] = L at HRS
      have hL4 : L.length = 4 := by rw [← hL]; rfl
      have HL4 := Lib.hid hL4
      clear hL hL4
      go_loopw [17] (fun i wr => ∃ j : Nat, i = .int .i64 j ∧ (j : Int) ≤ 4 ∧ Hid (Below w.heap.size w wr) ∧ Hid (Rs wr (.slice (some ⟨B, 0, none⟩) 4 4) L)) (fun i _ => 4 - (intOf i).toNat)
      case atStart => exact ⟨0, rfl, by omega, HAL, HRS⟩
      case round =>
        obtain ⟨j, rfl, hj, HBR, HRR⟩ := hrel
        by_cases hj4 : (j : Int) < 4
        · have hrr := HRR.out
          obtain ⟨o4, cap4, e4, q1, q2, q3, q4⟩ := hrr
          obtain ⟨aB, uj, ha, huj, hbj⟩ := Rs.at_ q4 (k := j) (by rw [HL4.out]; omega)
          simp only [Value.slice.injEq] at e4
          have ea4 := e4.1.trans ha
          simp only [Option.some.injEq] at ea4
          subst ea4
          clear e4 ha
          have huj2 : wr.cell? ⟨B, j, none⟩ = some uj := by rw [← huj]; congr 1; unfold Addr.add; split <;> simp_all
          generalize L.getD j [] = bj at hbj
          have hrd := masRead (ea := ea) uj bj wr hbj (HSE.out.below HBR.out)
          have hokc := readM_okC bj
          have HRD := Lib.hid hrd
          have HOKC := Lib.hid hokc
          have HBJ := Lib.hid hbj
          clear q1 q2 q3 q4 huj hrd hokc hbj o4 cap4
          go_wp2_with fail
          refine HRD.out.mono ?_
          clear HRD
          rintro e y1 ⟨rfl, hy1⟩
          have hrf := fun y hb => masReadRef uj bj y (HBJ.out.below (w' := y) hb)
          generalize readM bj = rc at hrf HOKC ⊢
          obtain ⟨⟨r0, r1, r2, r3, r4, r5, r6⟩, c⟩ := rc
          dsimp only [masV] at hrf HOKC ⊢
          have hyw := HBR.out.trans (hy1.mono HBR.out.size)
          have hal1 : Below y1.heap.size y1 (y1.alloc (.cells #[.int .i64 r0, .int .i64 r1, .int .i64 r2, .int .i64 r3, .int .i64 r4, .int .i64 r5, .int .i64 r6] 23)) := (Below.refl _ _).alloc (Nat.le_refl _) _
          have hms1 := MS.new y1 ⟨r0, r1, r2, r3, r4, r5, r6⟩
          dsimp only at hms1
          have hyr2 := hy1.trans (hal1.mono hy1.size)
          have hyw2 := hyw.trans (hal1.mono hyw.size)
          have hu2 : (y1.alloc (.cells #[.int .i64 r0, .int .i64 r1, .int .i64 r2, .int .i64 r3, .int .i64 r4, .int .i64 r5, .int .i64 r6] 23)).cell? ⟨B, j, none⟩ = some uj := by rw [hyr2.cell (Below.lt huj2)]; exact huj2
          have HRF := Lib.hid hrf
          have HYW2 := Lib.hid hyw2
          have HYR2 := Lib.hid hyr2
          have HMS1 := Lib.hid hms1
          clear hrf hyw hyw2 hyr2 hms1 hal1 hy1 huj2
          go_wp2_with fail
          generalize (y1.alloc (.cells #[.int .i64 r0, .int .i64 r1, .int .i64 r2, .int .i64 r3, .int .i64 r4, .int .i64 r5, .int .i64 r6] 23)) = y2 at hu2 HYW2 HYR2 HMS1 ⊢
          generalize y1.heap.size = S1 at HMS1 ⊢
          refine (HRF.out _ HYR2.out).mono ?_
          clear HRF
          rintro e y3 ⟨rfl, hy3⟩
          have hal3 : Below y3.heap.size y3 (y3.alloc (.cells #[.int .i64 r0, .int .i64 r1, .int .i64 r2, .int .i64 r3, .int .i64 r4, .int .i64 r5, .int .i64 r6] 23)) := (Below.refl _ _).alloc (Nat.le_refl _) _
          have hms3 := MS.new y3 ⟨r0, r1, r2, r3, r4, r5, r6⟩
          dsimp only at hms3
          have hy24 := hy3.trans (hal3.mono hy3.size)
          have HYW4 := Lib.hid (HYW2.out.trans (hy24.mono HYW2.out.size))
          have HYR4 := Lib.hid (HYR2.out.trans (hy24.mono HYR2.out.size))
          obtain ⟨c0, c1, c2, c3, c4, c5, c6⟩ := (HMS1.out.below hy24).cells
          obtain ⟨d0, d1, d2, d3, d4, d5, d6⟩ := hms3.cells
          dsimp only at c0 c1 c2 c3 c4 c5 c6 d0 d1 d2 d3 d4 d5 d6
          have hsm := fun W => sameMaster ⟨r0, r1, r2, r3, r4, r5, r6⟩ ⟨r0, r1, r2, r3, r4, r5, r6⟩ W
          have hsme : sameMB ⟨r0, r1, r2, r3, r4, r5, r6⟩ ⟨r0, r1, r2, r3, r4, r5, r6⟩ = true := by simp [sameMB]
          rw [hsme] at hsm
          dsimp only [masV] at hsm
          have HSM := Lib.hid hsm
          clear hsm hsme hms3 hy24 hal3 hy3 hu2 HYW2 HYR2 HMS1
          go_wp2_with fail
          refine (HSM.out _).mono ?_
          rintro e y5 ⟨rfl, hy5⟩
          have HYW5 := Lib.hid (HYW4.out.trans (hy5.mono HYW4.out.size))
          have HYR5 := Lib.hid (HYR4.out.trans (hy5.mono HYR4.out.size))
          have HIS := Lib.hid (isC y5 (HSE.out.below HYW5.out) c HOKC.out c)
          clear hy5 HYW4 HYR4 HSM HOKC c0 c1 c2 c3 c4 c5 c6 d0 d1 d2 d3 d4 d5 d6
          go_wp2_with fail
          refine HIS.out.mono ?_
          clear HIS
          rintro e y6 ⟨rfl, hy6⟩
          have HYW6 := Lib.hid (HYW5.out.trans (hy6.mono HYW5.out.size))
          have HYR6 := Lib.hid (HRR.out.below (HYR5.out.trans (hy6.mono HYR5.out.size)))
          have hcc : (c == c) = true := by simp
          rw [hcc]
          clear hy6 HYW5 HYR5 hcc
          go_wp2_with fail
          go_roundw
          case rel => exact ⟨j + 1, by go_num, by omega, HYW6, HYR6⟩
          case measure => simp [intOf]; omega
        · go_wp2_with fail
          go_ret
          exact ⟨rfl, HBR.out⟩
    · have hk : okM ⟨n0, n1, n2, n3, n4, n5, n6⟩ = false := by simpa using hk
      have hby := fun W hb => HBAD.out W hb hk
      have hck := HCK.out
      rw [hk] at hck ⊢
      dsimp only [errM, masV] at hck
      simp only [Bool.false_eq_true, if_false] at hck
      have HBY2 := Lib.hid hby
      have HCK2 := Lib.hid hck
      clear hby hck hk HBY HCK HBAD
      go_wp2_with fail
      refine (HBY2.out _ HB3.out).mono ?_
      rintro e w4 ⟨rfl, hb4⟩
      have HB4 := Lib.hid (HB3.out.trans (hb4.mono HB3.out.size))
      have HM4 := Lib.hid (HM3.out.below hb4)
      clear c0 c1 c2 c3 c4 c5 c6 hb4 HM3 HB3 HBY2
      obtain ⟨c0, c1, c2, c3, c4, c5, c6⟩ := HM4.out.cells
      dsimp only at c0 c1 c2 c3 c4 c5 c6
      go_wp2_with fail
      refine (HCK2.out _ HB4.out).mono ?_
      rintro e w5 ⟨rfl, hb5⟩
      have HB5 := Lib.hid (HB4.out.trans (hb5.mono HB4.out.size))
      have HM5 := Lib.hid (HM4.out.below hb5)
      clear hb5 HB4 HM4 HCK2 c0 c1 c2 c3 c4 c5 c6
      go_wp2_with fail
      refine (HI1.out _ HB5.out).mono ?_
      rintro e w6 ⟨rfl, hb6⟩
      have HB6 := Lib.hid (HB5.out.trans (hb6.mono HB5.out.size))
      have HM6 := Lib.hid (HM5.out.below hb6)
      clear hb6 HB5 HM5
      go_wp2_with fail
      refine (HI1.out _ HB6.out).mono ?_
      rintro e w7 ⟨rfl, hb7⟩
      have HBQ := Lib.hid (HB6.out.trans (hb7.mono HB6.out.size))
      have HMQ := Lib.hid (HM6.out.below hb7)
      clear hb7 HB6 HM6
      -- the sectors that are read both ways
      obtain ⟨c0, c1, c2, c3, c4, c5, c6⟩ := HMQ.out.cells
      dsimp only at c0 c1 c2 c3 c4 c5 c6
      go_wp2_with fail
      refine (HG.out _).mono ?_
      rintro e x1 ⟨rfl, hx1⟩
      have HX1 := Lib.hid (HBQ.out.trans (hx1.mono HBQ.out.size))
      clear hx1 HBQ HMQ c0 c1 c2 c3 c4 c5 c6 HG
      dsimp only [masV]
      go_wp2_with fail
      refine (HMBG.out x1).mono ?_
      rintro e x2 ⟨⟨vc, rfl, hobc⟩, hx2⟩
      have HX2 := Lib.hid (HX1.out.trans (hx2.mono HX1.out.size))
      obtain ⟨_, oc, cpc, rfl, _, _, _, _⟩ := hobc.bs
      have hbc := hobc.bs
      have hlg := masB_length ⟨g0, g1, g2, g3, g4, g5, g6⟩
      rw [hlg] at hbc ⊢
      generalize masB ⟨g0, g1, g2, g3, g4, g5, g6⟩ = bg at hbc hlg
      have HBC := Lib.hid hbc
      have HLG := Lib.hid hlg
      clear hx2 HX1 HMBG hobc hbc hlg
      go_wp2_with fail
      refine (bytesRef _ bg _ HBC.out (by rw [HLG.out]; omega)).mono ?_
      rintro e x3 ⟨vd, rfl, hx3, hobd⟩
      have HX3 := Lib.hid (HX2.out.trans (hx3.mono HX2.out.size))
      have HX23 := Lib.hid hx3
      have HOBD := Lib.hid hobd
      obtain ⟨gg, cpd, hvd, hgg, hgl, hcl, hcm⟩ := hobd.row (ne_nil_of_lt (k := 0) (by rw [HLG.out]; omega))
      rw [HLG.out] at hvd hcl
      subst hvd
      unfold maxLen at hcm
      clear hx3 hobd
      go_wp2_with fail
      refine (number at_ 40 _ (by omega) (by omega) h1 h2).mono ?_
      rintro e x4 ⟨rfl, rfl⟩
      have hk0 := Int.emod_nonneg at_ (show (40 : Int) ≠ 0 by omega)
      have hk1 := Int.emod_lt_of_pos at_ (show (0 : Int) < 40 by omega)
      obtain ⟨k, hk⟩ := Int.eq_ofNat_of_zero_le hk0
      rw [hk] at hk1 ⊢
      clear hk hk0
      have hkl : k < 256 := by omega
      have hcell := HOBD.out.cell (i := k) (by rw [HLG.out]; exact hkl)
      have hfz := HOBD.out.frozen k
      have hxb := HOBD.out.1.get k
      obtain ⟨z, hz, hz0, hz1, hzx⟩ := xor_byte (bg.getD k 0) by_ hxb.1 hxb.2 h3 h4
      have HSET := Lib.hid (HOBD.out.set k hz0 hz1)
      generalize bg.getD k 0 = xk at hcell hz
      clear hzx hxb hkl
      go_wp2_with fail
      obtain ⟨x5, hx5⟩ : ∃ x5, x5 = x3.setCell ⟨gg, k, none⟩ (.int .u8 z) := ⟨_, rfl⟩
      rw [← hx5]
      have hobd5 := HSET.out
      rw [← hx5] at hobd5
      have hb5 : Below w.heap.size w x5 := by rw [hx5]; exact HX3.out.setCell (p := ⟨gg, k, none⟩) (by have := HX2.out.size; simp; omega) _
      have hbc5 : Bs x5 (.slice oc 256 cpc) bg := HBC.out.below (by rw [hx5]; exact HX23.out.setCell (p := ⟨gg, k, none⟩) hgg _)
      have HB5 := Lib.hid hb5
      have HOBD5 := Lib.hid hobd5.bs
      have HBC5 := Lib.hid hbc5
      clear hx5 hobd5 hb5 hbc5 hcell hfz hz HSET HOBD HX3 HBC HX23
      have hv5 := HV0.out.below HB5.out
      rw [HLEN.out] at hv5
      refine (fillRef _ l 256 x5 hv5 (by have := HLEN.out; omega) (by omega) (by omega)).mono ?_
      rintro e x6 ⟨vf, rfl, hx6, hobf⟩
      have HB6 := Lib.hid (HB5.out.trans (hx6.mono HB5.out.size))
      have b0 := hv5.below hx6
      have b1 := HBC5.out.below hx6
      have b2 := HOBD5.out.below hx6
      obtain ⟨_, of, cpf, rfl, _, _, _, _⟩ := hobf.bs
      have b3 := hobf.bs
      have hlf : (fillL l 256).length = (max len 256) := by have := fillL_length l 256; rw [HLEN.out] at this; omega
      rw [hlf] at b3 ⊢
      generalize (max len 256) = lf at b3 ⊢
      generalize bg.set k z = bd at b2
      generalize fillL l 256 = bf at b3
      have hrs : Rs (x6.alloc (.cells #[.slice o len cap, .slice oc 256 cpc, .slice (some ⟨gg, 0, none⟩) 256 cpd, .slice of lf cpf] 24)) (.slice (some ⟨x6.heap.size, 0, none⟩) 4 4) [l, bg, bd, bf] :=
        Rs.lit [.slice o len cap, .slice oc 256 cpc, .slice (some ⟨gg, 0, none⟩) 256 cpd, .slice of lf cpf] _ rfl _ 4 rfl rfl (by simp) (fun i hi => by
          match i, hi with
          | 0, _ => exact b0
          | 1, _ => exact b1
          | 2, _ => exact b2
          | 3, _ => exact b3
          | i + 4, h => exact absurd h (by simp))
      have HRS := Lib.hid hrs
      have hal : Below x6.heap.size x6 (x6.alloc (.cells #[.slice o len cap, .slice oc 256 cpc, .slice (some ⟨gg, 0, none⟩) 256 cpd, .slice of lf cpf] 24)) := (Below.refl _ _).alloc (Nat.le_refl _) _
      have HAL := Lib.hid (HB6.out.trans (hal.mono HB6.out.size))
      clear hx6 hv5 b0 b1 b2 b3 hobf HB5 HBC5 HOBD5 hrs hal HB6
      go_wp2_with fail
      generalize (x6.alloc (.cells #[.slice o len cap, .slice oc 256 cpc, .slice (some ⟨gg, 0, none⟩) 256 cpd, .slice of lf cpf] 24)) = x7 at HRS HAL ⊢
      generalize x6.heap.size = B at HRS ⊢
      generalize hL : [l, bg, bd, bf] = L at HRS
      have hL4 : L.length = 4 := by rw [← hL]; rfl
      have HL4 := Lib.hid hL4
      clear hL hL4
      go_loopw [17] (fun i wr => ∃ j : Nat, i = .int .i64 j ∧ (j : Int) ≤ 4 ∧ Hid (Below w.heap.size w wr) ∧ Hid (Rs wr (.slice (some ⟨B, 0, none⟩) 4 4) L)) (fun i _ => 4 - (intOf i).toNat)
      case atStart => exact ⟨0, rfl, by omega, HAL, HRS⟩
      case round =>
        obtain ⟨j, rfl, hj, HBR, HRR⟩ := hrel
        by_cases hj4 : (j : Int) < 4
        · have hrr := HRR.out
          obtain ⟨o4, cap4, e4, q1, q2, q3, q4⟩ := hrr
          obtain ⟨aB, uj, ha, huj, hbj⟩ := Rs.at_ q4 (k := j) (by rw [HL4.out]; omega)
          simp only [Value.slice.injEq] at e4
          have ea4 := e4.1.trans ha
          simp only [Option.some.injEq] at ea4
          subst ea4
          clear e4 ha
          have huj2 : wr.cell? ⟨B, j, none⟩ = some uj := by rw [← huj]; congr 1; unfold Addr.add; split <;> simp_all
          generalize L.getD j [] = bj at hbj
          have hrd := masRead (ea := ea) uj bj wr hbj (HSE.out.below HBR.out)
          have hokc := readM_okC bj
          have HRD := Lib.hid hrd
          have HOKC := Lib.hid hokc
          have HBJ := Lib.hid hbj
          clear q1 q2 q3 q4 huj hrd hokc hbj o4 cap4
          go_wp2_with fail
          refine HRD.out.mono ?_
          clear HRD
          rintro e y1 ⟨rfl, hy1⟩
          have hrf := fun y hb => masReadRef uj bj y (HBJ.out.below (w' := y) hb)
          generalize readM bj = rc at hrf HOKC ⊢
          obtain ⟨⟨r0, r1, r2, r3, r4, r5, r6⟩, c⟩ := rc
          dsimp only [masV] at hrf HOKC ⊢
          have hyw := HBR.out.trans (hy1.mono HBR.out.size)
          have hal1 : Below y1.heap.size y1 (y1.alloc (.cells #[.int .i64 r0, .int .i64 r1, .int .i64 r2, .int .i64 r3, .int .i64 r4, .int .i64 r5, .int .i64 r6] 23)) := (Below.refl _ _).alloc (Nat.le_refl _) _
          have hms1 := MS.new y1 ⟨r0, r1, r2, r3, r4, r5, r6⟩
          dsimp only at hms1
          have hyr2 := hy1.trans (hal1.mono hy1.size)
          have hyw2 := hyw.trans (hal1.mono hyw.size)
          have hu2 : (y1.alloc (.cells #[.int .i64 r0, .int .i64 r1, .int .i64 r2, .int .i64 r3, .int .i64 r4, .int .i64 r5, .int .i64 r6] 23)).cell? ⟨B, j, none⟩ = some uj := by rw [hyr2.cell (Below.lt huj2)]; exact huj2
          have HRF := Lib.hid hrf
          have HYW2 := Lib.hid hyw2
          have HYR2 := Lib.hid hyr2
          have HMS1 := Lib.hid hms1
          clear hrf hyw hyw2 hyr2 hms1 hal1 hy1 huj2
          go_wp2_with fail
          generalize (y1.alloc (.cells #[.int .i64 r0, .int .i64 r1, .int .i64 r2, .int .i64 r3, .int .i64 r4, .int .i64 r5, .int .i64 r6] 23)) = y2 at hu2 HYW2 HYR2 HMS1 ⊢
          generalize y1.heap.size = S1 at HMS1 ⊢
          refine (HRF.out _ HYR2.out).mono ?_
          clear HRF
          rintro e y3 ⟨rfl, hy3⟩
          have hal3 : Below y3.heap.size y3 (y3.alloc (.cells #[.int .i64 r0, .int .i64 r1, .int .i64 r2, .int .i64 r3, .int .i64 r4, .int .i64 r5, .int .i64 r6] 23)) := (Below.refl _ _).alloc (Nat.le_refl _) _
          have hms3 := MS.new y3 ⟨r0, r1, r2, r3, r4, r5, r6⟩
          dsimp only at hms3
          have hy24 := hy3.trans (hal3.mono hy3.size)
          have HYW4 := Lib.hid (HYW2.out.trans (hy24.mono HYW2.out.size))
          have HYR4 := Lib.hid (HYR2.out.trans (hy24.mono HYR2.out.size))
          obtain ⟨c0, c1, c2, c3, c4, c5, c6⟩ := (HMS1.out.below hy24).cells
          obtain ⟨d0, d1, d2, d3, d4, d5, d6⟩ := hms3.cells
          dsimp only at c0 c1 c2 c3 c4 c5 c6 d0 d1 d2 d3 d4 d5 d6
          have hsm := fun W => sameMaster ⟨r0, r1, r2, r3, r4, r5, r6⟩ ⟨r0, r1, r2, r3, r4, r5, r6⟩ W
          have hsme : sameMB ⟨r0, r1, r2, r3, r4, r5, r6⟩ ⟨r0, r1, r2, r3, r4, r5, r6⟩ = true := by simp [sameMB]
          rw [hsme] at hsm
          dsimp only [masV] at hsm
          have HSM := Lib.hid hsm
          clear hsm hsme hms3 hy24 hal3 hy3 hu2 HYW2 HYR2 HMS1
          go_wp2_with fail
          refine (HSM.out _).mono ?_
          rintro e y5 ⟨rfl, hy5⟩
          have HYW5 := Lib.hid (HYW4.out.trans (hy5.mono HYW4.out.size))
          have HYR5 := Lib.hid (HYR4.out.trans (hy5.mono HYR4.out.size))
          have HIS := Lib.hid (isC y5 (HSE.out.below HYW5.out) c HOKC.out c)
          clear hy5 HYW4 HYR4 HSM HOKC c0 c1 c2 c3 c4 c5 c6 d0 d1 d2 d3 d4 d5 d6
          go_wp2_with fail
          refine HIS.out.mono ?_
          clear HIS
          rintro e y6 ⟨rfl, hy6⟩
          have HYW6 := Lib.hid (HYW5.out.trans (hy6.mono HYW5.out.size))
          have HYR6 := Lib.hid (HRR.out.below (HYR5.out.trans (hy6.mono HYR5.out.size)))
          have hcc : (c == c) = true := by simp
          rw [hcc]
          clear hy6 HYW5 HYR5 hcc
          go_wp2_with fail
          go_roundw
          case rel => exact ⟨j + 1, by go_num, by omega, HYW6, HYR6⟩
          case measure => simp [intOf]; omega
        · go_wp2_with fail
          go_ret
          exact ⟨rfl, HBR.out⟩
end Go.Proofs.YtabpmpaeakebmaaDoor
