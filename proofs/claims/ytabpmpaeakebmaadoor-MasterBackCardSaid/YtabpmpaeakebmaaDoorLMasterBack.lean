/- The walk of the law MasterBack. -/
import Derived.Test.YtabpmpaeakebmaaDoorMasL

namespace Go.Proofs.YtabpmpaeakebmaaDoor
open Go.RowKit
set_option linter.unusedVariables false

theorem readM_short {b : List Int} (h : b.length ≠ 256) : readM b = (mas0, 103) := by unfold readM; rw [if_pos h]

set_option maxHeartbeats 4000000 in
theorem masterBack_walk {ea : Nat → Addr} (m : MasD) (hm : m.W) (which : Int) (h1 : -9223372036854775808 ≤ which) (h2 : which ≤ 9223372036854775807) (over : Bool) (w : World) (hs : Sen ea w) :
    Calls Tryd.prog 4 #[masV m, .int .i64 which, .bool over] w fun e w' => e = .returned (.bool true) ∧ Below w.heap.size w w' := by
  have hb1 : Below w.heap.size w (w.alloc (.cells #[.int .i64 m.epoch, .int .i64 m.base, .int .i64 m.reset, .int .i64 m.ckpt, .int .i64 m.pages, .int .i64 m.blocks, .int .i64 m.frames] 23)) := (Below.refl _ _).alloc (Nat.le_refl _) _
  have HMS := Lib.hid (MS.new w m)
  have HF := Lib.hid (fun w' hb => masFirst (ea := ea) w' (hs.below (w' := w') hb))
  have HG := Lib.hid (fun w' => goodMas m hm w')
  have hok := goodM_ok m
  have HBY := Lib.hid (fun w' hb => masBytes (goodM m) w' _ ((hs.below (w' := w') hb).cell 1 (by decide)) hok)
  have HRD := Lib.hid (fun w' hb v b hv => masRead (ea := ea) v b w' hv (hs.below (w' := w') hb))
  have hbad : ∀ (e b r c p bl f : Int) (w' : World), Below w.heap.size w w' → okM ⟨e, b, r, c, p, bl, f⟩ = false → Calls Tryd.prog 15 #[.agg #[.int .i64 e, .int .i64 b, .int .i64 r, .int .i64 c, .int .i64 p, .int .i64 bl, .int .i64 f]] w' fun e w'' => e = .returned (.tuple #[.slice none 0 0, .iface 98 (.pointer (some (ea 1)))]) ∧ Below w'.heap.size w' w'' :=
    fun e b r c p bl f w' hb hk => masBytesBad ⟨e, b, r, c, p, bl, f⟩ w' _ _ ((hs.below (w' := w') hb).cell 1 (by decide)) hk
  have hchk : ∀ (e b r c p bl f : Int) (w' : World), Below w.heap.size w w' → okM ⟨e, b, r, c, p, bl, f⟩ = false → Calls Tryd.prog 17 #[.agg #[.int .i64 e, .int .i64 b, .int .i64 r, .int .i64 c, .int .i64 p, .int .i64 bl, .int .i64 f]] w' fun e w'' => e = .returned (.iface 98 (.pointer (some (ea 1)))) ∧ Below w'.heap.size w' w'' :=
    fun e b r c p bl f w' hb hk => (masCheck ⟨e, b, r, c, p, bl, f⟩ w' _ ((hs.below (w' := w') hb).cell 1 (by decide))).mono (by rintro e w'' ⟨rfl, h⟩; exact ⟨by rw [hk]; rfl, h⟩)
  have hi2 : ∀ W, Below w.heap.size w W → Calls Tryd.prog 16 #[.iface 98 (.pointer (some (ea 2))), .int .i64 103] W fun e w' => e = .returned (.bool true) ∧ Below W.heap.size W w' :=
    fun W hb => isC W (hs.below hb) 103 (by unfold OkC; omega) 103
  have hi1 : ∀ W, Below w.heap.size w W → Calls Tryd.prog 16 #[.iface 98 (.pointer (some (ea 1))), .int .i64 102] W fun e w' => e = .returned (.bool true) ∧ Below W.heap.size W w' :=
    fun W hb => isC W (hs.below hb) 102 (by unfold OkC; omega) 102
  have HBAD := Lib.hid hbad
  have HCHK := Lib.hid hchk
  have HI1 := Lib.hid hi1
  have HI2 := Lib.hid hi2
  have HB1 := Lib.hid hb1
  clear hb1 hs hm hbad hchk hi1 hi2
  generalize hg : goodM m = g at HG HBY hok
  have HOK := Lib.hid hok
  clear hg hok
  obtain ⟨n0, n1, n2, n3, n4, n5, n6⟩ := m
  dsimp only [masV] at *
  go_enter Tryd.func4, Tryd.ntmps4
  go_wp2_with fail
  obtain ⟨A, hA⟩ : ∃ A, A = w.heap.size := ⟨_, rfl⟩
  generalize (w.alloc (.cells #[.int .i64 n0, .int .i64 n1, .int .i64 n2, .int .i64 n3, .int .i64 n4, .int .i64 n5, .int .i64 n6] 23)) = w1 at HMS HB1 ⊢
  rw [← hA] at HMS ⊢
  have HA := Lib.hid hA
  clear hA
  refine (HF.out _ HB1.out).mono ?_
  rintro e w2 ⟨rfl, hb2⟩
  have HB2 := Lib.hid (HB1.out.trans (hb2.mono HB1.out.size))
  have HM2 := Lib.hid (HMS.out.below hb2)
  obtain ⟨c0, c1, c2, c3, c4, c5, c6⟩ := HM2.out.cells
  dsimp only at c0 c1 c2 c3 c4 c5 c6
  clear hb2 HMS HB1 HF
  go_wp2_with fail
  refine (HG.out _).mono ?_
  rintro e w3 ⟨rfl, hb3⟩
  clear c0 c1 c2 c3 c4 c5 c6 HG
  have HB3 := Lib.hid (HB2.out.trans (hb3.mono HB2.out.size))
  have HM3 := Lib.hid (HM2.out.below hb3)
  obtain ⟨c0, c1, c2, c3, c4, c5, c6⟩ := HM3.out.cells
  dsimp only at c0 c1 c2 c3 c4 c5 c6
  have hfz := HM3.out.frozen
  clear hb3 HM2 HB2
  obtain ⟨g0, g1, g2, g3, g4, g5, g6⟩ := g
  dsimp only [masV] at HBY HOK ⊢
  go_wp2_with fail
  clear c0 c1 c2 c3 c4 c5 c6 hfz
  obtain ⟨W4, h4⟩ : ∃ W4, W4 = ((((((w3.setCell ⟨A, 0, none⟩ (.int .i64 g0)).setCell ⟨A, 1, none⟩ (.int .i64 g1)).setCell ⟨A, 2, none⟩ (.int .i64 g2)).setCell ⟨A, 3, none⟩ (.int .i64 g3)).setCell ⟨A, 4, none⟩ (.int .i64 g4)).setCell ⟨A, 5, none⟩ (.int .i64 g5)).setCell ⟨A, 6, none⟩ (.int .i64 g6) := ⟨_, rfl⟩
  rw [← h4]
  obtain ⟨hm4, _, hb4⟩ := HM3.out.put ⟨g0, g1, g2, g3, g4, g5, g6⟩ h4
  have HM4 := Lib.hid hm4
  have HB4 := Lib.hid (hb4 _ _ HB3.out (by rw [HA.out]; exact Nat.le_refl _))
  clear hm4 hb4 h4 HM3 HB3
  refine (HBY.out _ HB4.out).mono ?_
  rintro e w5 ⟨⟨v, rfl, hob⟩, hb5⟩
  have HB5 := Lib.hid (HB4.out.trans (hb5.mono HB4.out.size))
  have HM5 := Lib.hid (HM4.out.below hb5)
  have hlen := masB_length ⟨g0, g1, g2, g3, g4, g5, g6⟩
  have hback := readM_back HOK.out
  have hbs := hob.bs
  generalize masB ⟨g0, g1, g2, g3, g4, g5, g6⟩ = b at hlen hback hbs
  clear HB4 HM4 hb5 HBY hob
  have hbs' := hbs
  obtain ⟨hB, o, cap, rfl, hc1, hc2, hc3, hc4⟩ := hbs'
  unfold maxLen at hc2
  rw [hlen] at hbs hc1 ⊢
  clear hc4 hc3 hB
  have hrd1 := HRD.out w5 HB5.out _ b hbs
  rw [hback] at hrd1
  dsimp only [masV] at hrd1
  have HRD1 := Lib.hid hrd1
  have hpre := hbs.pre 255 (by rw [hlen]; omega)
  have hshort : readM (b.take 255) = (mas0, 103) := readM_short (by rw [List.length_take, hlen]; decide)
  have HSH := Lib.hid hshort
  have HPRE := Lib.hid hpre
  clear hrd1 hback hbs hpre hshort hlen
  go_wp2_with fail
  refine HRD1.out.mono ?_
  rintro e w6 ⟨rfl, hb6⟩
  rw [eC_zero]
  have hb6a : Below w6.heap.size w6 (w6.alloc (.cells #[.int .i64 g0, .int .i64 g1, .int .i64 g2, .int .i64 g3, .int .i64 g4, .int .i64 g5, .int .i64 g6] 23)) := (Below.refl _ _).alloc (Nat.le_refl _) _
  have hms6 := MS.new w6 ⟨g0, g1, g2, g3, g4, g5, g6⟩
  dsimp only at hms6
  have hb6' := hb6.trans (hb6a.mono hb6.size)
  have HB6 := Lib.hid (HB5.out.trans (hb6'.mono HB5.out.size))
  have HM6 := Lib.hid (HM5.out.below hb6')
  have HPRE6 := Lib.hid (HPRE.out.below hb6')
  clear hb6 hb6a hb6' HB5 HM5 HPRE HRD1
  go_wp2_with fail
  generalize (w6.alloc (.cells #[.int .i64 g0, .int .i64 g1, .int .i64 g2, .int .i64 g3, .int .i64 g4, .int .i64 g5, .int .i64 g6] 23)) = w7 at hms6 HB6 HM6 HPRE6 ⊢
  generalize w6.heap.size = A2 at hms6 ⊢
  have HMB := Lib.hid hms6
  clear hms6
  refine (HRD.out w7 HB6.out _ _ HPRE6.out).mono ?_
  rintro e w8 ⟨rfl, hb8⟩
  rw [HSH.out]
  dsimp only [masV, mas0]
  have he : eC ea 103 = .iface 98 (.pointer (some (ea 2))) := rfl
  rw [he]
  have HB8 := Lib.hid (HB6.out.trans (hb8.mono HB6.out.size))
  have HM8 := Lib.hid (HM6.out.below hb8)
  have HMB8 := Lib.hid (HMB.out.below hb8)
  clear hb8 HB6 HM6 HPRE6 HRD HSH HMB he
  have hb9 : Below w8.heap.size w8 (w8.alloc (.cells #[.int .i64 0, .int .i64 0, .int .i64 0, .int .i64 0, .int .i64 0, .int .i64 0, .int .i64 0] 23)) := (Below.refl _ _).alloc (Nat.le_refl _) _
  have HB9 := Lib.hid (HB8.out.trans (hb9.mono HB8.out.size))
  have hm9 := HM8.out.below hb9
  have hmb9 := HMB8.out.below hb9
  clear hb9 HB8 HM8 HMB8
  obtain ⟨c0, c1, c2, c3, c4, c5, c6⟩ := hm9.cells
  obtain ⟨d0, d1, d2, d3, d4, d5, d6⟩ := hmb9.cells
  dsimp only at c0 c1 c2 c3 c4 c5 c6 d0 d1 d2 d3 d4 d5 d6
  go_wp2_with fail
  have hsm := fun W => sameMaster ⟨g0, g1, g2, g3, g4, g5, g6⟩ ⟨g0, g1, g2, g3, g4, g5, g6⟩ W
  have hsme : sameMB ⟨g0, g1, g2, g3, g4, g5, g6⟩ ⟨g0, g1, g2, g3, g4, g5, g6⟩ = true := by simp [sameMB]
  rw [hsme] at hsm
  dsimp only [masV] at hsm
  clear c0 c1 c2 c3 c4 c5 c6 d0 d1 d2 d3 d4 d5 d6 hsme
  have HM9 := Lib.hid hm9
  clear hm9 hmb9
  generalize (w8.alloc (.cells #[.int .i64 0, .int .i64 0, .int .i64 0, .int .i64 0, .int .i64 0, .int .i64 0, .int .i64 0] 23)) = w9 at HB9 HM9 ⊢
  refine (hsm _).mono ?_
  rintro e w10 ⟨rfl, hb10⟩
  clear hsm
  have HB10 := Lib.hid (HB9.out.trans (hb10.mono HB9.out.size))
  have HM10 := Lib.hid (HM9.out.below hb10)
  clear hb10 HM9 HB9
  go_wp2_with fail
  refine (HI2.out _ HB10.out).mono ?_
  rintro e w11 ⟨rfl, hb11⟩
  have HB11 := Lib.hid (HB10.out.trans (hb11.mono HB10.out.size))
  have HM11 := Lib.hid (HM10.out.below hb11)
  clear hb11 HM10 HB10 HI2
  go_wp2_with fail
  refine (number which 7 _ (by omega) (by omega) h1 h2).mono ?_
  rintro e w12 ⟨rfl, rfl⟩
  have hz0 := Int.emod_nonneg which (show (7 : Int) ≠ 0 by omega)
  have hz1 := Int.emod_lt_of_pos which (show (0 : Int) < 7 by omega)
  generalize which % 7 = z at hz0 hz1 ⊢
  clear h1 h2
  obtain ⟨c0, c1, c2, c3, c4, c5, c6⟩ := HM11.out.cells
  dsimp only at c0 c1 c2 c3 c4 c5 c6
  have hfz := HM11.out.frozen
  have hbd := okM_bounds HOK.out
  dsimp only at hbd
  have HBD := Lib.hid hbd
  have h0 := hbd.1
  have HAle : Hid (w.heap.size ≤ A) := by rw [HA.out]; exact Nat.le_refl _
  clear hbd HOK
  have hz : z = 0 ∨ z = 1 ∨ z = 2 ∨ z = 3 ∨ z = 4 ∨ z = 5 ∨ z = 6 := by omega
  clear hz0 hz1
  rcases hz with rfl | rfl | rfl | rfl | rfl | rfl | rfl <;> cases over
  all_goals
    go_wp2_with fail
    refine (HBAD.out _ _ _ _ _ _ _ _ (by first | exact Below.setCell (p := ⟨A, _, none⟩) HB11.out HAle.out _ | exact Below.setCell (p := ⟨A, _, none⟩) (Below.setCell (p := ⟨A, _, none⟩) HB11.out HAle.out _) HAle.out _) (by have hbd := HBD.out; rw [Bool.eq_false_iff]; intro h; have := okM_bounds h; dsimp only at this; omega)).mono ?_
    rintro e w13 ⟨rfl, hb13⟩
    have HB13 := Lib.hid ((show Below w.heap.size w _ by first | exact Below.setCell (p := ⟨A, _, none⟩) HB11.out HAle.out _ | exact Below.setCell (p := ⟨A, _, none⟩) (Below.setCell (p := ⟨A, _, none⟩) HB11.out HAle.out _) HAle.out _).trans (hb13.mono (by simp only [setCell_size]; exact HB11.out.size)))
    have hlt := HM11.out.lt
    have k0 := hb13.cell (p := ⟨A, 0, none⟩) (by simp only [setCell_size]; exact hlt)
    have k1 := hb13.cell (p := ⟨A, 1, none⟩) (by simp only [setCell_size]; exact hlt)
    have k2 := hb13.cell (p := ⟨A, 2, none⟩) (by simp only [setCell_size]; exact hlt)
    have k3 := hb13.cell (p := ⟨A, 3, none⟩) (by simp only [setCell_size]; exact hlt)
    have k4 := hb13.cell (p := ⟨A, 4, none⟩) (by simp only [setCell_size]; exact hlt)
    have k5 := hb13.cell (p := ⟨A, 5, none⟩) (by simp only [setCell_size]; exact hlt)
    have k6 := hb13.cell (p := ⟨A, 6, none⟩) (by simp only [setCell_size]; exact hlt)
    simp [go_sem, c0, c1, c2, c3, c4, c5, c6] at k0 k1 k2 k3 k4 k5 k6
    clear c0 c1 c2 c3 c4 c5 c6 hb13 hfz hlt
    go_wp2_with fail
    refine (HI1.out _ HB13.out).mono ?_
    rintro e w14 ⟨rfl, hb14⟩
    have HB14 := Lib.hid (HB13.out.trans (hb14.mono HB13.out.size))
    have c0 : w14.cell? ⟨A, 0, none⟩ = _ := (hb14.cell (Below.lt k0)).trans k0
    have c1 : w14.cell? ⟨A, 1, none⟩ = _ := (hb14.cell (Below.lt k1)).trans k1
    have c2 : w14.cell? ⟨A, 2, none⟩ = _ := (hb14.cell (Below.lt k2)).trans k2
    have c3 : w14.cell? ⟨A, 3, none⟩ = _ := (hb14.cell (Below.lt k3)).trans k3
    have c4 : w14.cell? ⟨A, 4, none⟩ = _ := (hb14.cell (Below.lt k4)).trans k4
    have c5 : w14.cell? ⟨A, 5, none⟩ = _ := (hb14.cell (Below.lt k5)).trans k5
    have c6 : w14.cell? ⟨A, 6, none⟩ = _ := (hb14.cell (Below.lt k6)).trans k6
    clear k0 k1 k2 k3 k4 k5 k6 hb14
    go_wp2_with fail
    refine (HCHK.out _ _ _ _ _ _ _ _ HB14.out (by have hbd := HBD.out; rw [Bool.eq_false_iff]; intro h; have := okM_bounds h; dsimp only at this; omega)).mono ?_
    rintro e w15 ⟨rfl, hb15⟩
    have HB15 := Lib.hid (HB14.out.trans (hb15.mono HB14.out.size))
    clear hb15 c0 c1 c2 c3 c4 c5 c6
    go_wp2_with fail
    refine (HI1.out _ HB15.out).mono ?_
    rintro e w16 ⟨rfl, hb16⟩
    have HB16 := HB15.out.trans (hb16.mono HB15.out.size)
    go_wp2_with fail
    go_ret
    exact ⟨rfl, HB16⟩
end Go.Proofs.YtabpmpaeakebmaaDoor
