/- The walk of the law MasterUnlike. -/
import Derived.Test.YtabpmpaeakebmaaDoorMasL
import Derived.Test.YtabpmpaeakebmaaDoorMasT
import Derived.Test.YtabpmpaeakebmaaDoorXor
import Derived.Deep.RegionHeld3
namespace Go.Proofs.YtabpmpaeakebmaaDoor
open Go.RowKit
set_option linter.unusedVariables false

set_option maxRecDepth 20000 in
set_option maxHeartbeats 4000000 in
theorem masterUnlike_walk {ea : Nat → Addr} (m p : MasD) (hm : m.W) (hp : p.W) (at_ : Int) (h1 : -9223372036854775808 ≤ at_) (h2 : at_ ≤ 9223372036854775807) (by_ : Int) (h3 : 0 ≤ by_) (h4 : by_ ≤ 255) (w : World) (hs : Sen ea w) :
    Calls Tryd.prog 5 #[masV m, masV p, .int .i64 at_, .int .u8 by_] w fun e w' => e = .returned (.bool true) ∧ Below w.heap.size w w' := by
  have hb1 : Below w.heap.size w ((w.alloc (.cells #[.int .i64 m.epoch, .int .i64 m.base, .int .i64 m.reset, .int .i64 m.ckpt, .int .i64 m.pages, .int .i64 m.blocks, .int .i64 m.frames] 23)).alloc (.cells #[.int .i64 p.epoch, .int .i64 p.base, .int .i64 p.reset, .int .i64 p.ckpt, .int .i64 p.pages, .int .i64 p.blocks, .int .i64 p.frames] 23)) := newBelow2 rfl
  have hms1 := (MS.new w m).below ((Below.refl _ (w.alloc (.cells #[.int .i64 m.epoch, .int .i64 m.base, .int .i64 m.reset, .int .i64 m.ckpt, .int .i64 m.pages, .int .i64 m.blocks, .int .i64 m.frames] 23))).alloc (Nat.le_refl _) (.cells #[.int .i64 p.epoch, .int .i64 p.base, .int .i64 p.reset, .int .i64 p.ckpt, .int .i64 p.pages, .int .i64 p.blocks, .int .i64 p.frames] 23))
  have hmp1 := MS.new (w.alloc (.cells #[.int .i64 m.epoch, .int .i64 m.base, .int .i64 m.reset, .int .i64 m.ckpt, .int .i64 m.pages, .int .i64 m.blocks, .int .i64 m.frames] 23)) p
  have hsz : (w.alloc (.cells #[.int .i64 m.epoch, .int .i64 m.base, .int .i64 m.reset, .int .i64 m.ckpt, .int .i64 m.pages, .int .i64 m.blocks, .int .i64 m.frames] 23)).heap.size = w.heap.size + 1 := by simp
  rw [hsz] at hmp1
  have HF := Lib.hid (fun w' hb => masFirst (ea := ea) w' (hs.below (w' := w') hb))
  have HG := Lib.hid (fun w' => goodMas m hm w')
  have HGP := Lib.hid (fun w' => goodMas p hp w')
  have hok := goodM_ok m
  have hokp := goodM_ok p
  have HBY := Lib.hid (fun w' hb => masBytes (goodM m) w' _ ((hs.below (w' := w') hb).cell 1 (by decide)) hok)
  have HBYP := Lib.hid (fun w' hb => masBytes (goodM p) w' _ ((hs.below (w' := w') hb).cell 1 (by decide)) hokp)
  have HRD := Lib.hid (fun w' hb v b hv => masRead (ea := ea) v b w' hv (hs.below (w' := w') hb))
  have hi5 : ∀ W, Below w.heap.size w W → Calls Tryd.prog 16 #[.iface 98 (.pointer (some (ea 5))), .int .i64 106] W fun e w' => e = .returned (.bool true) ∧ Below W.heap.size W w' :=
    fun W hb => isC W (hs.below hb) 106 (by unfold OkC; omega) 106
  have HI5 := Lib.hid hi5
  have HB1 := Lib.hid hb1
  have HM1 := Lib.hid hms1
  have HP1 := Lib.hid hmp1
  clear hb1 hs hm hp hi5 hms1 hmp1 hsz
  generalize hg : goodM m = g at HG HBY hok
  generalize hgp : goodM p = q at HGP HBYP hokp
  have HOK := Lib.hid hok
  have HOKP := Lib.hid hokp
  clear hg hok hgp hokp
  obtain ⟨n0, n1, n2, n3, n4, n5, n6⟩ := m
  obtain ⟨p0, p1, p2, p3, p4, p5, p6⟩ := p
  dsimp only [masV] at *
  go_enter Tryd.func5, Tryd.ntmps5
  go_wp2_with fail
  obtain ⟨A, hA⟩ : ∃ A, A = w.heap.size := ⟨_, rfl⟩
  generalize ((w.alloc (.cells #[.int .i64 n0, .int .i64 n1, .int .i64 n2, .int .i64 n3, .int .i64 n4, .int .i64 n5, .int .i64 n6] 23)).alloc (.cells #[.int .i64 p0, .int .i64 p1, .int .i64 p2, .int .i64 p3, .int .i64 p4, .int .i64 p5, .int .i64 p6] 23)) = w1 at HM1 HP1 HB1 ⊢
  rw [← hA] at HM1 HP1 ⊢
  have HA := Lib.hid hA
  clear hA
  refine (HF.out _ HB1.out).mono ?_
  rintro e w2 ⟨rfl, hb2⟩
  have HB2 := Lib.hid (HB1.out.trans (hb2.mono HB1.out.size))
  have HM2 := Lib.hid (HM1.out.below hb2)
  have HP2 := Lib.hid (HP1.out.below hb2)
  obtain ⟨c0, c1, c2, c3, c4, c5, c6⟩ := HM2.out.cells
  dsimp only at c0 c1 c2 c3 c4 c5 c6
  clear hb2 HM1 HP1 HB1 HF
  go_wp2_with fail
  refine (HG.out _).mono ?_
  rintro e w3 ⟨rfl, hb3⟩
  clear c0 c1 c2 c3 c4 c5 c6 HG
  have HB3 := Lib.hid (HB2.out.trans (hb3.mono HB2.out.size))
  have HM3 := Lib.hid (HM2.out.below hb3)
  have HP3 := Lib.hid (HP2.out.below hb3)
  obtain ⟨c0, c1, c2, c3, c4, c5, c6⟩ := HM3.out.cells
  dsimp only at c0 c1 c2 c3 c4 c5 c6
  have hfz := HM3.out.frozen
  obtain ⟨d0, d1, d2, d3, d4, d5, d6⟩ := HP3.out.cells
  dsimp only at d0 d1 d2 d3 d4 d5 d6
  clear hb3 HM2 HB2 HP2
  obtain ⟨g0, g1, g2, g3, g4, g5, g6⟩ := g
  dsimp only [masV] at HBY HOK ⊢
  go_wp2_with fail
  clear c0 c1 c2 c3 c4 c5 c6 d0 d1 d2 d3 d4 d5 d6 hfz
  obtain ⟨W4, h4⟩ : ∃ W4, W4 = ((((((w3.setCell ⟨A, 0, none⟩ (.int .i64 g0)).setCell ⟨A, 1, none⟩ (.int .i64 g1)).setCell ⟨A, 2, none⟩ (.int .i64 g2)).setCell ⟨A, 3, none⟩ (.int .i64 g3)).setCell ⟨A, 4, none⟩ (.int .i64 g4)).setCell ⟨A, 5, none⟩ (.int .i64 g5)).setCell ⟨A, 6, none⟩ (.int .i64 g6) := ⟨_, rfl⟩
  rw [← h4]
  obtain ⟨hm4, _, hb4⟩ := HM3.out.put ⟨g0, g1, g2, g3, g4, g5, g6⟩ h4
  have hp4 : MS (A + 1) ⟨p0, p1, p2, p3, p4, p5, p6⟩ W4 := by
    unfold MS
    rw [h4, setCell_other _ _ _ (by omega), setCell_other _ _ _ (by omega), setCell_other _ _ _ (by omega), setCell_other _ _ _ (by omega), setCell_other _ _ _ (by omega), setCell_other _ _ _ (by omega), setCell_other _ _ _ (by omega)]
    exact HP3.out
  have HM4 := Lib.hid hm4
  have HP4 := Lib.hid hp4
  have HB4 := Lib.hid (hb4 _ _ HB3.out (by rw [HA.out]; exact Nat.le_refl _))
  clear hm4 hb4 h4 HM3 HB3 hp4 HP3
  refine (HGP.out _).mono ?_
  rintro e w5 ⟨rfl, hb5⟩
  have HB5 := Lib.hid (HB4.out.trans (hb5.mono HB4.out.size))
  have HM5 := Lib.hid (HM4.out.below hb5)
  have HP5 := Lib.hid (HP4.out.below hb5)
  obtain ⟨c0, c1, c2, c3, c4, c5, c6⟩ := HP5.out.cells
  dsimp only at c0 c1 c2 c3 c4 c5 c6
  have hfz := HP5.out.frozen
  obtain ⟨d0, d1, d2, d3, d4, d5, d6⟩ := HM5.out.cells
  dsimp only at d0 d1 d2 d3 d4 d5 d6
  clear hb5 HM4 HB4 HP4 HGP
  obtain ⟨q0, q1, q2, q3, q4, q5, q6⟩ := q
  dsimp only [masV] at HBYP HOKP ⊢
  go_wp2_with fail
  clear c0 c1 c2 c3 c4 c5 c6 d0 d1 d2 d3 d4 d5 d6 hfz
  obtain ⟨W6, h6⟩ : ∃ W6, W6 = ((((((w5.setCell ⟨A + 1, 0, none⟩ (.int .i64 q0)).setCell ⟨A + 1, 1, none⟩ (.int .i64 q1)).setCell ⟨A + 1, 2, none⟩ (.int .i64 q2)).setCell ⟨A + 1, 3, none⟩ (.int .i64 q3)).setCell ⟨A + 1, 4, none⟩ (.int .i64 q4)).setCell ⟨A + 1, 5, none⟩ (.int .i64 q5)).setCell ⟨A + 1, 6, none⟩ (.int .i64 q6) := ⟨_, rfl⟩
  rw [← h6]
  obtain ⟨hp6, _, hb6⟩ := HP5.out.put ⟨q0, q1, q2, q3, q4, q5, q6⟩ h6
  have hm6 : MS A ⟨g0, g1, g2, g3, g4, g5, g6⟩ W6 := by
    unfold MS
    rw [h6, setCell_other _ _ _ (by omega), setCell_other _ _ _ (by omega), setCell_other _ _ _ (by omega), setCell_other _ _ _ (by omega), setCell_other _ _ _ (by omega), setCell_other _ _ _ (by omega), setCell_other _ _ _ (by omega)]
    exact HM5.out
  have HM6 := Lib.hid hm6
  have HP6 := Lib.hid hp6
  have HB6 := Lib.hid (hb6 _ _ HB5.out (by rw [HA.out]; omega))
  clear hm6 hb6 h6 HM5 HB5 hp6 HP5
  refine (HBY.out _ HB6.out).mono ?_
  rintro e w7 ⟨⟨v, rfl, hob⟩, hb7⟩
  have HB7 := Lib.hid (HB6.out.trans (hb7.mono HB6.out.size))
  have HM7 := Lib.hid (HM6.out.below hb7)
  have HP7 := Lib.hid (HP6.out.below hb7)
  have HOB7 := Lib.hid (hob.mono (base' := A + 2) (by have := HP6.out.lt; omega))
  obtain ⟨c0, c1, c2, c3, c4, c5, c6⟩ := HP7.out.cells
  dsimp only at c0 c1 c2 c3 c4 c5 c6
  clear HB6 HM6 HP6 hb7 hob HBY
  go_wp2_with fail
  refine (HBYP.out _ HB7.out).mono ?_
  rintro e w8 ⟨⟨u, rfl, hob⟩, hb8⟩
  have HB8 := Lib.hid (HB7.out.trans (hb8.mono HB7.out.size))
  have HM8 := Lib.hid (HM7.out.below hb8)
  have HP8 := Lib.hid (HP7.out.below hb8)
  have HOB8 := Lib.hid (HOB7.out.below hb8)
  have HOBP := Lib.hid hob.bs
  clear c0 c1 c2 c3 c4 c5 c6 HB7 HM7 HP7 hb8 hob HBYP HOB7
  obtain ⟨gg, cap, hv, hgg, hgl, hcl, hcm⟩ := HOB8.out.row (ne_nil_of_lt (k := 0) (by rw [masB_length]; omega))
  rw [masB_length] at hv hcl
  subst hv
  unfold maxLen at hcm
  have hsb : ∀ W, Below w8.heap.size w8 W → Calls Tryd.prog 18 #[.slice (some ⟨gg, 0, none⟩) 256 cap, u] W fun e w' => e = .returned (.bool (sameMB ⟨g0, g1, g2, g3, g4, g5, g6⟩ ⟨q0, q1, q2, q3, q4, q5, q6⟩)) ∧ Below W.heap.size W w' := fun W hb => by
    rw [← sameB_masB HOK.out HOKP.out]
    exact (same_calls _ _ _ _ W (HOB8.out.bs.below hb) (HOBP.out.below hb)).mono fun e w' h => ⟨h.1, h.2.below _⟩
  have hsm := fun W => sameMaster ⟨g0, g1, g2, g3, g4, g5, g6⟩ ⟨q0, q1, q2, q3, q4, q5, q6⟩ W
  dsimp only [masV] at hsm
  have hS : ∀ W, Below w8.heap.size w8 W → (W.cell? ⟨A, 0, none⟩ = some (.int .i64 g0) ∧ W.cell? ⟨A, 1, none⟩ = some (.int .i64 g1) ∧ W.cell? ⟨A, 2, none⟩ = some (.int .i64 g2) ∧ W.cell? ⟨A, 3, none⟩ = some (.int .i64 g3) ∧ W.cell? ⟨A, 4, none⟩ = some (.int .i64 g4) ∧ W.cell? ⟨A, 5, none⟩ = some (.int .i64 g5) ∧ W.cell? ⟨A, 6, none⟩ = some (.int .i64 g6)) ∧
      (W.cell? ⟨A + 1, 0, none⟩ = some (.int .i64 q0) ∧ W.cell? ⟨A + 1, 1, none⟩ = some (.int .i64 q1) ∧ W.cell? ⟨A + 1, 2, none⟩ = some (.int .i64 q2) ∧ W.cell? ⟨A + 1, 3, none⟩ = some (.int .i64 q3) ∧ W.cell? ⟨A + 1, 4, none⟩ = some (.int .i64 q4) ∧ W.cell? ⟨A + 1, 5, none⟩ = some (.int .i64 q5) ∧ W.cell? ⟨A + 1, 6, none⟩ = some (.int .i64 q6)) :=
    fun W hb => ⟨(HM8.out.below hb).cells, (HP8.out.below hb).cells⟩
  have HSB := Lib.hid hsb
  have HSM := Lib.hid hsm
  have HS := Lib.hid hS
  have hdr : Below w8.heap.size w8 w8.drew := (Below.refl _ _).drew
  have HDR := Lib.hid hdr
  clear hsb hsm hS hdr
  generalize hq : sameMB ⟨g0, g1, g2, g3, g4, g5, g6⟩ ⟨q0, q1, q2, q3, q4, q5, q6⟩ = sm at HSB HSM
  go_wp2_with fail
  go_region_held3 (fun W => (W.cell? ⟨A, 0, none⟩ = some (.int .i64 g0) ∧ W.cell? ⟨A, 1, none⟩ = some (.int .i64 g1) ∧ W.cell? ⟨A, 2, none⟩ = some (.int .i64 g2) ∧ W.cell? ⟨A, 3, none⟩ = some (.int .i64 g3) ∧ W.cell? ⟨A, 4, none⟩ = some (.int .i64 g4) ∧ W.cell? ⟨A, 5, none⟩ = some (.int .i64 g5) ∧ W.cell? ⟨A, 6, none⟩ = some (.int .i64 g6)) ∧
      (W.cell? ⟨A + 1, 0, none⟩ = some (.int .i64 q0) ∧ W.cell? ⟨A + 1, 1, none⟩ = some (.int .i64 q1) ∧ W.cell? ⟨A + 1, 2, none⟩ = some (.int .i64 q2) ∧ W.cell? ⟨A + 1, 3, none⟩ = some (.int .i64 q3) ∧ W.cell? ⟨A + 1, 4, none⟩ = some (.int .i64 q4) ∧ W.cell? ⟨A + 1, 5, none⟩ = some (.int .i64 q5) ∧ W.cell? ⟨A + 1, 6, none⟩ = some (.int .i64 q6)))
    (first | exact HS.out _ HDR.out | exact HS.out _ hbx | exact HS.out _ hby)
    ((first
      | (go_at_call 18; first
          | (refine (HSB.out _ HDR.out).mono ?_; rintro e wx ⟨rfl, hbx0⟩; have hbx := HDR.out.trans (hbx0.mono HDR.out.size); clear hbx0)
          | (refine (HSB.out _ hby).mono ?_; rintro e wx ⟨rfl, hbx0⟩; have hbx := hby.trans (hbx0.mono hby.size); clear hbx0))
      | (go_at_call 26; first
          | (refine (HSM.out w8.drew).mono ?_; rintro e wy ⟨rfl, hby0⟩; have hby := HDR.out.trans (hby0.mono HDR.out.size); clear hby0)
          | (refine (HSM.out wx).mono ?_; rintro e wy ⟨rfl, hby0⟩; have hby := hbx.trans (hby0.mono hbx.size); clear hby0))))

  have HB9 := Lib.hid (HB8.out.trans (hby.mono HB8.out.size))
  have HM9 := Lib.hid (HM8.out.below hby)
  have HOB9 := Lib.hid (HOB8.out.below hby)
  have hne : (sm != sm) = false := by simp
  clear hbx hby HSB HSM HS HDR HB8 HM8 HP8 HOB8 HOBP hq HOKP
  by_cases hb0 : by_ = 0
  · subst hb0
    go_wp2_with fail
    go_ret
    exact ⟨rfl, HB9.out⟩
  · have hbe : (by_ == 0) = false := by simpa using hb0
    have hk0 := Int.emod_nonneg at_ (show (256 : Int) ≠ 0 by omega)
    have hk1 := Int.emod_lt_of_pos at_ (show (0 : Int) < 256 by omega)
    have hnum := fun W => number at_ 256 W (by omega) (by omega) h1 h2
    obtain ⟨k, hk⟩ := Int.eq_ofNat_of_zero_le hk0
    rw [hk] at hnum hk1
    clear hk hk0 h1 h2
    have hkl : k < 256 := by omega
    have hcell := HOB9.out.cell (i := k) (by rw [masB_length]; exact hkl)
    have hfz := HOB9.out.frozen k
    have hxb := (isB_masB ⟨g0, g1, g2, g3, g4, g5, g6⟩).get k
    have hset := fun x h0 h1 => HOB9.out.set k (x := x) h0 h1
    have hturn := fun y hy h => readM_turned ⟨g0, g1, g2, g3, g4, g5, g6⟩ k y hkl hy h
    have hoth := fun y hy h => readM_other ⟨g0, g1, g2, g3, g4, g5, g6⟩ k y hkl hy h
    have hlen := masB_length ⟨g0, g1, g2, g3, g4, g5, g6⟩
    generalize masB ⟨g0, g1, g2, g3, g4, g5, g6⟩ = b at *
    generalize b.getD k 0 = x at hcell hxb hturn hoth
    obtain ⟨z, hz, hz0, hz1, hzx⟩ := xor_byte x by_ hxb.1 hxb.2 h3 h4
    have hzx' := hzx hb0
    have HSET := Lib.hid (hset z hz0 hz1)
    have HTURN := Lib.hid (hturn z hzx')
    have HOTH := Lib.hid (hoth z hzx')
    have HLEN := Lib.hid hlen
    clear hset hturn hoth hzx hzx' hb0 hlen hkl
    go_wp2_with fail
    refine (hnum _).mono ?_
    rintro e w10 ⟨rfl, rfl⟩
    clear hnum
    go_wp2_with fail
    obtain ⟨W10, h10⟩ : ∃ W10, W10 = wy.setCell ⟨gg, k, none⟩ (.int .u8 z) := ⟨_, rfl⟩
    rw [← h10]
    have hob10 := HSET.out
    rw [← h10] at hob10
    have hb10 : Below w.heap.size w W10 := by rw [h10]; exact HB9.out.setCell (p := ⟨gg, k, none⟩) (by have := HA.out; simp; omega) _
    have hm10 : MS A ⟨g0, g1, g2, g3, g4, g5, g6⟩ W10 := by
      unfold MS
      rw [h10, setCell_other _ _ _ (by omega)]
      exact HM9.out
    have HB10 := Lib.hid hb10
    have HM10 := Lib.hid hm10
    have hrd := HRD.out W10 hb10 _ _ hob10.bs
    have HRD10 := Lib.hid hrd
    have hokc := readM_okC (b.set k z)
    have HOKC := Lib.hid hokc
    clear h10 hob10 hb10 hm10 hcell hfz HB9 HM9 HOB9 HSET hrd hokc HRD
    refine HRD10.out.mono ?_
    clear HRD10
    rintro e w11 ⟨rfl, hb11⟩
    have HB11 := Lib.hid (HB10.out.trans (hb11.mono HB10.out.size))
    have HM11 := Lib.hid (HM10.out.below hb11)
    clear hb11 HB10 HM10 hz hz0 hz1 hxb hbe h3 h4 hne hcl hcm hgl hgg
    by_cases hk4 : k < 4 ∨ 32 ≤ k
    · rw [HTURN.out hk4]
      have he : eC ea 106 = .iface 98 (.pointer (some (ea 5))) := rfl
      dsimp only [masV, mas0]
      rw [he]
      clear he HTURN HOTH
      have HB12 : Hid (Below w.heap.size w (w11.alloc (.cells #[.int .i64 0, .int .i64 0, .int .i64 0, .int .i64 0, .int .i64 0, .int .i64 0, .int .i64 0] 23))) := HB11.out.alloc HB11.out.size _
      have hk5 : (k : Int) < 4 ∨ (32 : Int) ≤ k := by omega
      clear hk4
      rcases hk5 with hk4 | hk4
      all_goals
        go_wp2_with fail
        refine (HI5.out _ HB12.out).mono ?_
        rintro e w13 ⟨rfl, hb13⟩
        have HB13 := HB12.out.trans (hb13.mono HB12.out.size)
        go_wp2_with fail
        go_ret
        exact ⟨rfl, HB13⟩
    · have hoth := HOTH.out
      have hokc := HOKC.out
      clear HTURN HOTH HOKC
      have hk5 : (4 : Int) ≤ k := by omega
      have hk6 : (k : Int) < 32 := by omega
      clear hk4
      have hgm := fun W => goodMaster ⟨g0, g1, g2, g3, g4, g5, g6⟩ W
      rw [HOK.out] at hgm
      dsimp only [masV] at hgm
      have HGM := Lib.hid hgm
      clear hgm
      generalize readM (b.set k z) = rc at hoth hokc ⊢
      obtain ⟨⟨r0, r1, r2, r3, r4, r5, r6⟩, c⟩ := rc
      dsimp only [masV] at hoth hokc ⊢
      have hb12 : Below w11.heap.size w11 (w11.alloc (.cells #[.int .i64 r0, .int .i64 r1, .int .i64 r2, .int .i64 r3, .int .i64 r4, .int .i64 r5, .int .i64 r6] 23)) := (Below.refl _ _).alloc (Nat.le_refl _) _
      have HB12 := Lib.hid (HB11.out.trans (hb12.mono HB11.out.size))
      have hm12 := HM11.out.below hb12
      obtain ⟨c0, c1, c2, c3, c4, c5, c6⟩ := hm12.cells
      dsimp only at c0 c1 c2 c3 c4 c5 c6
      have HM12 := Lib.hid hm12
      clear hb12 hm12
      by_cases hc : c = 0
      · subst hc
        have hne := hoth rfl
        have hsm := fun W => sameMaster ⟨r0, r1, r2, r3, r4, r5, r6⟩ ⟨g0, g1, g2, g3, g4, g5, g6⟩ W
        have hf : sameMB ⟨r0, r1, r2, r3, r4, r5, r6⟩ ⟨g0, g1, g2, g3, g4, g5, g6⟩ = false := decide_eq_false hne
        rw [hf] at hsm
        dsimp only [masV] at hsm
        have HSM := Lib.hid hsm
        clear hsm hf hne hoth hokc
        rw [eC_zero]
        go_wp2_with fail
        refine (HSM.out _).mono ?_
        rintro e w13 ⟨rfl, hb13⟩
        have HB13 := Lib.hid (HB12.out.trans (hb13.mono HB12.out.size))
        clear c0 c1 c2 c3 c4 c5 c6
        obtain ⟨c0, c1, c2, c3, c4, c5, c6⟩ := (HM12.out.below hb13).cells
        dsimp only at c0 c1 c2 c3 c4 c5 c6
        clear hb13
        go_wp2_with fail
        refine (HGM.out _).mono ?_
        rintro e w14 ⟨rfl, hb14⟩
        have HB14 := HB13.out.trans (hb14.mono HB13.out.size)
        go_wp2_with fail
        go_ret
        exact ⟨rfl, HB14⟩
      · have he : eC ea c = .iface 98 (.pointer (some (ea (c - 101).toNat))) := by unfold eC; rw [if_neg hc]; rfl
        rw [he]
        clear he hoth hokc
        generalize ea (c - 101).toNat = eac
        go_wp2_with fail
        refine (HGM.out _).mono ?_
        rintro e w14 ⟨rfl, hb14⟩
        have HB14 := HB12.out.trans (hb14.mono HB12.out.size)
        go_wp2_with fail
        go_ret
        exact ⟨rfl, HB14⟩
end Go.Proofs.YtabpmpaeakebmaaDoor
