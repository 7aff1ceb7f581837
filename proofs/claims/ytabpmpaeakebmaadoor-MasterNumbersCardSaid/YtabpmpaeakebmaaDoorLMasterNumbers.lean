/- The walk of the law MasterNumbers. -/
import Derived.Test.YtabpmpaeakebmaaDoorMasL
import Derived.Outline
namespace Go.Proofs.YtabpmpaeakebmaaDoor
open Go.RowKit
set_option linter.unusedVariables false

theorem masHead_str (m : MasD) : strOfNums ((masB m).take 4) = ⟨#[80, 72, 88, 77]⟩ := by
  have h : (masB m).take 4 = masHead := by
    apply List.ext_getElem
    · rw [List.length_take, masB_length]; rfl
    · intro i h1 h2
      have hi : i < 4 := h2
      rw [List.getElem_take, ← getD_lt (d := 0), masB_head m i hi, getD_lt h2]
  rw [h]; rfl

theorem hi_lt3 {l : List Int} (hl : IsB l) (at_ : Int) (z m : Nat) (hm : m ≤ 3) : 0 ≤ hi l at_ z m ∧ hi l at_ z m < 16777216 := by
  have h1 := dig_bounds hl at_ (z - 1 - 0)
  have h2 := dig_bounds hl at_ (z - 1 - 1)
  have h3 := dig_bounds hl at_ (z - 1 - 2)
  match m, hm with
  | 0, _ => simp [hi]
  | 1, _ => simp only [hi]; omega
  | 2, _ => simp only [hi]; omega
  | 3, _ => simp only [hi]; omega

set_option maxHeartbeats 1000000 in
theorem masterNumbers_walk {ea : Nat → Addr} (m : MasD) (hm : m.W) (w : World) (hs : Sen ea w) :
    Calls Tryd.prog 6 #[masV m] w fun e w' => e = .returned (.bool true) ∧ Below w.heap.size w w' := by
  have hb1 : Below w.heap.size w (w.alloc (.cells #[.int .i64 m.epoch, .int .i64 m.base, .int .i64 m.reset, .int .i64 m.ckpt, .int .i64 m.pages, .int .i64 m.blocks, .int .i64 m.frames] 23)) := (Below.refl _ _).alloc (Nat.le_refl _) _
  have HMS := Lib.hid (MS.new w m)
  have HF := Lib.hid (fun w' hb => masFirst (ea := ea) w' (hs.below (w' := w') hb))
  have HG := Lib.hid (fun w' => goodMas m hm w')
  have hok := goodM_ok m
  have HBY := Lib.hid (fun w' hb => masBytes (goodM m) w' _ ((hs.below (w' := w') hb).cell 1 (by decide)) hok)
  have HB1 := Lib.hid hb1
  clear hb1 hs hm
  generalize hg : goodM m = g at HG HBY hok
  have HOK := Lib.hid hok
  clear hg hok
  obtain ⟨n0, n1, n2, n3, n4, n5, n6⟩ := m
  dsimp only [masV] at *
  go_enter Tryd.func6, Tryd.ntmps6
  go_wp2_with fail
  obtain ⟨A, hA⟩ : ∃ A, A = w.heap.size := ⟨_, rfl⟩
  generalize (w.alloc (.cells #[.int .i64 n0, .int .i64 n1, .int .i64 n2, .int .i64 n3, .int .i64 n4, .int .i64 n5, .int .i64 n6] 23)) = w1 at HMS HB1 ⊢
  rw [← hA] at HMS ⊢
  have HA := Lib.hid hA
  clear hA
  refine (HF.out _ HB1.out).mono ?_
  rintro e w2 ⟨rfl, hb2⟩
  have HB2 := Lib.hid (HB1.out.trans (hb2.mono HB1.out.size))
  have HM2 := Lib.hid (HMS.out.below hb2)
  obtain ⟨c0, c1, c2, c3, c4, c5, c6⟩ := HM2.out.cells
  dsimp only at c0 c1 c2 c3 c4 c5 c6
  clear hb2 HMS HB1
  go_wp2_with fail
  refine (HG.out _).mono ?_
  rintro e w3 ⟨rfl, hb3⟩
  clear c0 c1 c2 c3 c4 c5 c6
  have HB3 := Lib.hid (HB2.out.trans (hb3.mono HB2.out.size))
  have HM3 := Lib.hid (HM2.out.below hb3)
  obtain ⟨c0, c1, c2, c3, c4, c5, c6⟩ := HM3.out.cells
  dsimp only at c0 c1 c2 c3 c4 c5 c6
  have hfz := HM3.out.frozen
  clear hb3 HM2 HB2
  obtain ⟨g0, g1, g2, g3, g4, g5, g6⟩ := g
  dsimp only [masV] at HBY HOK ⊢
  go_wp2_with fail
  clear c0 c1 c2 c3 c4 c5 c6 hfz
  obtain ⟨W4, h4⟩ : ∃ W4, W4 = ((((((w3.setCell ⟨A, 0, none⟩ (.int .i64 g0)).setCell ⟨A, 1, none⟩ (.int .i64 g1)).setCell ⟨A, 2, none⟩ (.int .i64 g2)).setCell ⟨A, 3, none⟩ (.int .i64 g3)).setCell ⟨A, 4, none⟩ (.int .i64 g4)).setCell ⟨A, 5, none⟩ (.int .i64 g5)).setCell ⟨A, 6, none⟩ (.int .i64 g6) := ⟨_, rfl⟩
  rw [← h4]
  obtain ⟨hm4, _, hb4⟩ := HM3.out.put ⟨g0, g1, g2, g3, g4, g5, g6⟩ h4
  have HM4 := Lib.hid hm4
  have HB4 := Lib.hid (hb4 _ _ HB3.out (by rw [HA.out]; exact Nat.le_refl _))
  clear hm4 hb4 h4 HM3 HB3
  refine (HBY.out _ HB4.out).mono ?_
  rintro e w5 ⟨⟨v, rfl, hob⟩, hb5⟩
  have HB5 := Lib.hid (HB4.out.trans (hb5.mono HB4.out.size))
  have HM5 := Lib.hid (HM4.out.below hb5)
  clear HB4 HM4 hb5 HBY HG HF
  obtain ⟨c0, c1, c2, c3, c4, c5, c6⟩ := HM5.out.cells
  dsimp only at c0 c1 c2 c3 c4 c5 c6
  have hbs := hob.bs
  have hbs' := hbs
  obtain ⟨hB, o, cap, rfl, hc1, hc2, hc3, hc4⟩ := hbs'
  unfold maxLen at hc2
  rw [masB_length] at hbs hc1 ⊢
  have hstr := (hbs.pre 4 (by rw [masB_length]; omega)).str (P := Tryd.prog) 24 5 9 Tryd.underlying24 Tryd.underlying5 Tryd.underlying9
  rw [masHead_str] at hstr
  obtain ⟨a, rfl, hcell⟩ := hc4 (ne_nil_of_lt (k := 0) (by rw [masB_length]; omega))
  rw [masB_length] at hcell
  have hx := fun i (hi : i < 256) => hB.get (l := masB ⟨g0, g1, g2, g3, g4, g5, g6⟩) i
  have hdig : ∀ k j : Nat, k < 7 → j < 4 → dig (masB ⟨g0, g1, g2, g3, g4, g5, g6⟩) (4 + 4 * k) j = (masB ⟨g0, g1, g2, g3, g4, g5, g6⟩).getD (4 + 4 * k + j) 0 := by
    intro k j hk hj
    unfold dig
    rw [masB_length, if_pos (by omega), show ((4 : Int) + 4 * (k : Int) + (j : Int)).toNat = 4 + 4 * k + j from by omega]
  have hfour : ∀ k : Nat, k < 7 → hi (masB ⟨g0, g1, g2, g3, g4, g5, g6⟩) (4 + 4 * k) 4 4 = masNo ⟨g0, g1, g2, g3, g4, g5, g6⟩ k := by
    intro k hk
    have h1 := hi_getTo (masB ⟨g0, g1, g2, g3, g4, g5, g6⟩) (4 + 4 * k) 4 4 (Nat.le_refl _)
    have h2 := masTo_get ⟨g0, g1, g2, g3, g4, g5, g6⟩ 7 k (by omega) hk
    have h3 := masNo_bounds HOK.out k hk
    rw [u64M_small h3.1 (by omega)] at h2
    have h4 : getTo (masB ⟨g0, g1, g2, g3, g4, g5, g6⟩) (4 + 4 * k) 4 = getL (masTo ⟨g0, g1, g2, g3, g4, g5, g6⟩ 7) (4 + 4 * k) 4 := rfl
    rw [h4, h2] at h1
    simp [getTo] at h1
    omega
  have htail := fun i (h0 : 32 ≤ i) (h1 : i < 256) => masB_tail ⟨g0, g1, g2, g3, g4, g5, g6⟩ i h0 h1
  have hhib := fun (k : Nat) m hm => hi_lt3 hB (4 + 4 * k) 4 m hm
  have hhis : ∀ (k m : Nat), hi (masB ⟨g0, g1, g2, g3, g4, g5, g6⟩) (4 + 4 * k) 4 (m + 1) = hi (masB ⟨g0, g1, g2, g3, g4, g5, g6⟩) (4 + 4 * k) 4 m * 256 + dig (masB ⟨g0, g1, g2, g3, g4, g5, g6⟩) (4 + 4 * k) (4 - 1 - m) := fun k m => rfl
  have hhi0 : ∀ (k : Nat), hi (masB ⟨g0, g1, g2, g3, g4, g5, g6⟩) (4 + 4 * k) 4 0 = 0 := fun k => rfl
  have hno : ∀ k : Nat, k < 7 → [g0, g1, g2, g3, g4, g5, g6].getD k 0 = masNo ⟨g0, g1, g2, g3, g4, g5, g6⟩ k := fun k hk => rfl
  clear hc4 hc3 hob
  generalize masB ⟨g0, g1, g2, g3, g4, g5, g6⟩ = b at *
  generalize masNo ⟨g0, g1, g2, g3, g4, g5, g6⟩ = no at *
  have HX := Lib.hid hx
  have HCELL := Lib.hid hcell
  have HDIG := Lib.hid hdig
  have HFOUR := Lib.hid hfour
  have HTAIL := Lib.hid htail
  have HHIB := Lib.hid hhib
  have HHIS := Lib.hid hhis
  have HHI0 := Lib.hid hhi0
  have HNO := Lib.hid hno
  clear hx hcell hdig hfour htail hhib hhis hhi0 hno hB hbs
  go_wp2_with fail
  clear c0 c1 c2 c3 c4 c5 c6 hstr
  have hb6 : Below w5.heap.size w5 (w5.alloc (.cells #[.int .i64 g0, .int .i64 g1, .int .i64 g2, .int .i64 g3, .int .i64 g4, .int .i64 g5, .int .i64 g6] 3)) := (Below.refl _ _).alloc (Nat.le_refl _) _
  have hci : CI w5.heap.size [g0, g1, g2, g3, g4, g5, g6] (w5.alloc (.cells #[.int .i64 g0, .int .i64 g1, .int .i64 g2, .int .i64 g3, .int .i64 g4, .int .i64 g5, .int .i64 g6] 3)) := CI.new rfl
  generalize (w5.alloc (.cells #[.int .i64 g0, .int .i64 g1, .int .i64 g2, .int .i64 g3, .int .i64 g4, .int .i64 g5, .int .i64 g6] 3)) = w6 at hb6 hci ⊢
  generalize w5.heap.size = B at hci ⊢
  have HCI := Lib.hid hci
  have HCELL6 : Hid (∀ i, i < 256 → w6.cell? (a.add i) = some (.int .u8 (b.getD i 0))) := fun i hi => by rw [hb6.cell (Below.lt (HCELL.out i hi))]; exact HCELL.out i hi
  have HB6 := Lib.hid (HB5.out.trans (hb6.mono HB5.out.size))
  clear hb6 hci HCELL HB5 HM5
  go_loop [7] (fun i => ∃ k : Nat, i = .int .i64 k ∧ k ≤ 7) (fun i => 7 - (intOf i).toNat)
  case atStart => exact ⟨0, rfl, by omega⟩
  case round =>
    obtain ⟨k, rfl, hk⟩ := hrel
    by_cases hlt7 : k < 7
    · go_wp2_with fail
      go_loop [8, 9] (fun n j => ∃ m : Nat, m ≤ 4 ∧ j = .int .i64 (3 - m) ∧ n = .int .i64 (hi b (4 + 4 * k) 4 m)) (fun _ j => (intOf j + 1).toNat)
      case atStart => exact ⟨0, by omega, rfl, by rw [HHI0.out]⟩
      case round =>
        obtain ⟨m, hm, rfl, rfl⟩ := hrel
        by_cases hlt4 : m < 4
        · obtain ⟨j, hj⟩ : ∃ j : Nat, 4 - 1 - m = j := ⟨_, rfl⟩
          have hst := HHIS.out k m
          rw [hj, HDIG.out k j hlt7 (by omega)] at hst
          have hck := HCELL6.out (4 + 4 * k + j) (by omega)
          have hxb := HX.out (4 + 4 * k + j) (by omega)
          have hnb := HHIB.out k m (by omega)
          have hz2 : (3 : Int) - (m : Int) = j := by omega
          have hz3 : (3 : Int) - ((m + 1 : Nat) : Int) = (j : Int) - 1 := by omega
          rw [hz2]
          have HST := Lib.hid hst
          have HZ3 := Lib.hid hz3
          have hj3 : j ≤ 3 := by omega
          clear hst hz2 hz3 hj
          generalize b.getD (4 + 4 * k + j) 0 = x at hck hxb HST
          generalize hi b (4 + 4 * k) 4 m = n at hnb HST ⊢
          go_wp2_with fail
          go_round
          case rel => exact ⟨m + 1, by omega, by rw [HZ3.out], by rw [HST.out, Int.mul_comm]⟩
          case measure => simp [intOf]
        · obtain rfl : m = 4 := by omega
          rw [HFOUR.out k hlt7]
          have hck := HCI.out k hlt7
          rw [HNO.out k hlt7] at hck
          generalize no k = q at hck ⊢
          go_wp2_with fail
          go_round
          case rel => exact ⟨k + 1, by go_num, by omega⟩
          case measure => simp [intOf]; omega
    · obtain rfl : k = 7 := by omega
      clear hlt7 hk
      go_wp2_with fail
      go_loop [10] (fun i => ∃ k : Nat, i = .int .i64 k ∧ (32 : Int) ≤ k ∧ (k : Int) ≤ 256) (fun i => 256 - (intOf i).toNat)
      case atStart => exact ⟨32, rfl, by omega, by omega⟩
      case round =>
        obtain ⟨q, rfl, hq0, hq⟩ := hrel
        by_cases hlt : (q : Int) < 256
        · have hck := HCELL6.out q (by omega)
          rw [HTAIL.out q (by omega) (by omega)] at hck
          go_wp2_with fail
          go_round
          case rel => exact ⟨q + 1, by go_num, by omega, by omega⟩
          case measure => simp [intOf]; omega
        · go_wp2_with fail
          go_ret
          exact ⟨rfl, HB6.out⟩
end Go.Proofs.YtabpmpaeakebmaaDoor
