/- The walk of the law BlockWrong. -/
import Derived.Test.YtccfiohcblecoaaDoorBlR
import Derived.Test.YtccfiohcblecoaaDoorNum
import Derived.Test.YtccfiohcblecoaaDoorErC
import Derived.Deep.Cut
import Derived.Deep.CutBlock
namespace Go.Proofs.YtccfiohcblecoaaDoor
open Go.RowKit
set_option linter.unusedVariables false

def bR77 : RecD := ⟨77, 0, 0, 0, 0, 0, false, false, 0, 0⟩
theorem bR77_w : bR77.W := by constructor <;> simp [bR77, I64]
theorem bR77_bad : okR bR77 = false := by decide
theorem og77 {base : Nat} {w : World} {g cap : Nat} (m : Nat) (h1 : 1 ≤ m) (h5 : m ≤ 5) (h : Og base w (.slice (some ⟨g, 0, none⟩) m cap) (List.replicate m bR0)) :
    Og base (w.setCell ⟨g, (m - 1) * 10, none⟩ (.int .i64 77)) (.slice (some ⟨g, 0, none⟩) m cap) (List.replicate (m - 1) bR0 ++ [bR77]) := by
  refine ⟨fun r hr => ?_, ?_⟩
  · rcases List.mem_append.1 hr with h | h
    · rw [(List.mem_replicate.1 h).2]; exact bR0_w
    · rw [List.mem_singleton] at h; subst h; exact bR77_w
  · have h' := h.2
    rw [List.length_replicate] at h'
    have h2 := (h'.stored ((m - 1) * 10) (.int .i64 77)).1
    have hm : m = 1 ∨ m = 2 ∨ m = 3 ∨ m = 4 ∨ m = 5 := by omega
    rcases hm with rfl | rfl | rfl | rfl | rfl <;> exact h2
theorem all77 (m : Nat) : (List.replicate (m - 1) bR0 ++ [bR77]).all okR = false := by
  rw [List.all_append]; simp [bR77_bad]

theorem Og.frozen {base : Nat} {w : World} {g n cap : Nat} {L : List RecD} (h : Og base w (.slice (some ⟨g, 0, none⟩) n cap) L) (i : Nat) : w.frozen? ⟨g, i, none⟩ = false := by
  rcases h.2.2 with ⟨h, _⟩ | ⟨g', cap', cur, h, _, hg, _⟩
  · simp at h
  · simp only [Value.slice.injEq, Option.some.injEq, Addr.mk.injEq, and_true] at h
    obtain ⟨rfl, _⟩ := h
    exact rowFrozen hg i
def slLen : Value → Nat
  | .slice _ n _ => n
  | _ => 0

/-- what is behind the switch: a call of Bytes that tells ErrRange -/
def BadCall (w0 w : World) (T : TypeId) (p : Option Addr) (e v : Value) : Prop :=
  Below w0.heap.size w0 w ∧ Calls Tryd.prog 48 #[e, v] w fun en w' => en = .returned (.tuple #[.slice none 0 0, .iface T (.pointer p)]) ∧ Below w.heap.size w w'

set_option maxRecDepth 20000 in
set_option maxHeartbeats 4000000 in
theorem blockWrong_walk {ea : Nat → Addr} (which nn : Int) (w : World) (hs : Sen ea w) (b1 : -9223372036854775808 ≤ which) (b2 : which ≤ 9223372036854775807) (c1 : -9223372036854775808 ≤ nn) (c2 : nn ≤ 9223372036854775807) :
    Calls Tryd.prog 14 #[.int .i64 which, .int .i64 nn] w fun e w' => e = .returned (.bool true) ∧ Below w.heap.size w w' := by
  have HF := Lib.hid (blkFirst w _ _ (hs.cell 1 (by decide)))
  have HS := Lib.hid hs
  have hm0 := Int.emod_nonneg nn (show (5 : Int) ≠ 0 by omega)
  have hm1 := Int.emod_lt_of_pos nn (show (0 : Int) < 5 by omega)
  have HN1 := Lib.hid (fun W => number nn 5 W (by omega) (by omega) c1 c2)
  generalize nn % 5 = q at hm0 hm1 HN1
  have hk0 := Int.emod_nonneg which (show (5 : Int) ≠ 0 by omega)
  have hk1 := Int.emod_lt_of_pos which (show (0 : Int) < 5 by omega)
  have HN2 := Lib.hid (fun W => number which 5 W (by omega) (by omega) b1 b2)
  generalize which % 5 = kw at hk0 hk1 HN2
  obtain ⟨m, hm⟩ := Int.eq_ofNat_of_zero_le (show 0 ≤ q + 1 by omega)
  have hma : 1 ≤ m := by omega
  have hmb : m ≤ 5 := by omega
  have hmI : (m : Int) ≤ 5 := by omega
  have hmJ : 1 ≤ (m : Int) := by omega
  have HM := Lib.hid hm
  clear b1 b2 c1 c2 hs hm
  go_enter Tryd.func14, Tryd.ntmps14
  go_wp2_with fail
  refine HF.out.mono ?_
  clear HF
  rintro e w1 ⟨rfl, hb1⟩
  have HB1 := Lib.hid hb1
  clear hb1
  go_wp2_with fail
  refine (HN1.out _).mono ?_
  clear HN1
  rintro e w1' ⟨rfl, rfl⟩
  go_upto_region 6 with fail
  rw [HM.out]
  clear hm0 hm1 HM
  obtain ⟨W2, hW2⟩ : ∃ W, W = w1.alloc (.cells #[.int .i64 7, .int .i64 0, .int .i64 0, .int .i64 0, .int .i64 0, .int .i64 0, .bool false, .bool false, .int .i64 0, .int .i64 0] 33) := ⟨_, rfl⟩
  rw [← hW2]
  have hal : Below w1.heap.size w1 W2 := by rw [hW2]; exact (Below.refl _ _).alloc (Nat.le_refl _) _
  have HRW : Hid (RW w1.heap.size #[.int .i64 7, .int .i64 0, .int .i64 0, .int .i64 0, .int .i64 0, .int .i64 0, .bool false, .bool false, .int .i64 0, .int .i64 0] W2) := Lib.hid (by rw [hW2]; exact RW.new w1 _)
  have HB2 := Lib.hid (HB1.out.trans (hal.mono HB1.out.size))
  have HAL : Hid (w.heap.size ≤ w1.heap.size) := Lib.hid HB1.out.size
  generalize w1.heap.size = A at HRW HAL ⊢
  clear hW2 hal HB1
  go_wp2_with fail
  go_loopw [7, 8] (fun s i wr => ∃ j : Nat, i = .int .i64 j ∧ (j : Int) ≤ m ∧ ∃ o cap, s = .slice o j cap ∧ Hid (Below w.heap.size w wr) ∧ Hid (RW A #[.int .i64 7, .int .i64 0, .int .i64 0, .int .i64 0, .int .i64 0, .int .i64 0, .bool false, .bool false, .int .i64 0, .int .i64 0] wr) ∧ Hid (Og (A + 1) wr (.slice o j cap) (List.replicate j bR0))) (fun _ i _ => m - (intOf i).toNat)
  case atStart => exact ⟨0, rfl, by omega, none, 0, rfl, HB2, HRW, Lib.hid Og.nil⟩
  case round =>
    obtain ⟨j, rfl, hj, o, cap, rfl, HBR, HRR, HOR⟩ := hrel
    clear HB2 HRW
    by_cases hjm : (j : Int) < (m : Int)
    · have hal : Below wr.heap.size wr (wr.alloc (.cells (recCs bR0) 33)) := (Below.refl _ _).alloc (Nat.le_refl _) _
      have hoa := HOR.out.below hal
      have hlt := HRR.out.lt
      have hsz := HBR.out.size
      obtain ⟨gb, cap2, w3, hrun, ho3, hg3, _, _, hca, hcb⟩ := hoa.append1 bR0 bR0_w (by simp; omega) (by simp; omega) wr.heap.size (RW.new wr _) 1 60
      rw [List.length_replicate] at hrun ho3 hca
      have hb3 := hoa.grown hg3 (HBR.out.alloc hsz _) (by have := HAL.out; omega) (by simp; omega)
      have HB3 := Lib.hid hb3
      have HO3 : Hid (Og (A + 1) w3 (.slice (some ⟨gb, 0, none⟩) (j + 1) cap2) (List.replicate (j + 1) bR0)) := Lib.hid (by rw [List.replicate_succ']; exact ho3)
      have hr3 : Below (A + 1) wr w3 := hoa.grown hg3 ((Below.refl _ _).alloc (by omega) _) (Nat.le_refl _) (by simp; omega)
      have HR3 : Hid (RW A #[.int .i64 7, .int .i64 0, .int .i64 0, .int .i64 0, .int .i64 0, .int .i64 0, .bool false, .bool false, .int .i64 0, .int .i64 0] w3) := Lib.hid (by unfold RW; rw [hr3.block A (by omega)]; exact HRR.out)
      unfold maxLen at hcb
      obtain ⟨f0, f1, f2, f3, f4, f5, f6, f7, f8, f9⟩ := HRR.out.cells
      dsimp only [recCs, bR0] at hrun
      clear hal hoa hsz hlt ho3 hg3 hb3 hr3 HBR HOR HRR
      go_wp2_with (at_builtin; refine Lib.wpList_append_run _ rfl _ _ _ _ rfl _ _ rfl rfl _ _ hrun ?_)
      go_roundw
      case rel => exact ⟨j + 1, by go_num, by omega, _, _, rfl, HB3, HR3, HO3⟩
      case measure => simp [intOf]; omega
    · obtain rfl : j = m := by omega
      have HE : Hid (∀ W, Below w.heap.size w W → W.cell? ⟨2, 0, none⟩ = some (.iface 151 (.pointer (some (ea 1))))) := Lib.hid (fun W hb => (HS.out.below hb).cell 1 (by decide))
      have HLT := Lib.hid HRR.out.lt
      obtain ⟨_, _, hf0, hca, hcb, _, _⟩ := HOR.out.form
      simp only [List.length_replicate, Value.slice.injEq] at hf0 hca
      obtain ⟨rfl, _, rfl⟩ := hf0
      unfold maxLen at hcb
      go_wp2_with fail
      refine (HN2.out _).mono ?_
      clear HN2
      rintro e wr' ⟨rfl, rfl⟩
      go_upto_block 2 with fail
      go_cut [7, 9] from 36 (fun s7 s9 wx => Hid (BadCall w wx 151 (some (ea 1)) s9 s7))
      case first =>
        by_cases k0 : kw = 0
        · subst k0
          go_wp2_with fail
          go_loopw [7] (fun s wx => ∃ i : Nat, i ≤ 7 ∧ ∃ o cap, s = .slice o i cap ∧ Hid (Below w.heap.size w wx) ∧ Hid (RW A #[.int .i64 7, .int .i64 0, .int .i64 0, .int .i64 0, .int .i64 0, .int .i64 0, .bool false, .bool false, .int .i64 0, .int .i64 0] wx) ∧ Hid (Og (A + 1) wx (.slice o i cap) (List.replicate i bR0))) (fun s _ => 7 - slLen s)
          case atStart => exact ⟨_, by omega, _, _, rfl, HBR, HRR, HOR⟩
          case round =>
            obtain ⟨i, hi, o, cap, rfl, HBX, HRX, HOX⟩ := hrel
            clear HBR HRR HOR HLT hca hcb
            obtain ⟨_, _, hf0, hca, hcb, _, _⟩ := HOX.out.form
            simp only [List.length_replicate, Value.slice.injEq] at hf0 hca
            obtain ⟨rfl, _, rfl⟩ := hf0
            unfold maxLen at hcb
            by_cases hi6 : (i : Int) ≤ 6
            · have hal : Below wr.heap.size wr (wr.alloc (.cells (recCs bR0) 33)) := (Below.refl _ _).alloc (Nat.le_refl _) _
              have hoa := HOX.out.below hal
              have hlt := HRX.out.lt
              have hsz := HBX.out.size
              obtain ⟨gb, cap2, w3, hrun, ho3, hg3, _, _, hca', hcb'⟩ := hoa.append1 bR0 bR0_w (by simp; omega) (by simp; omega) wr.heap.size (RW.new wr _) 1 60
              rw [List.length_replicate] at hrun ho3 hca'
              have hb3 := hoa.grown hg3 (HBX.out.alloc hsz _) (by have := HAL.out; omega) (by simp; omega)
              have HB3 := Lib.hid hb3
              have HO3 : Hid (Og (A + 1) w3 (.slice (some ⟨gb, 0, none⟩) (i + 1) cap2) (List.replicate (i + 1) bR0)) := Lib.hid (by rw [List.replicate_succ']; exact ho3)
              have hr3 : Below (A + 1) wr w3 := hoa.grown hg3 ((Below.refl _ _).alloc (by omega) _) (Nat.le_refl _) (by simp; omega)
              have HR3 : Hid (RW A #[.int .i64 7, .int .i64 0, .int .i64 0, .int .i64 0, .int .i64 0, .int .i64 0, .bool false, .bool false, .int .i64 0, .int .i64 0] w3) := Lib.hid (by unfold RW; rw [hr3.block A (by omega)]; exact HRX.out)
              unfold maxLen at hcb'
              obtain ⟨f0, f1, f2, f3, f4, f5, f6, f7, f8, f9⟩ := HRX.out.cells
              dsimp only [recCs, bR0] at hrun
              clear hal hoa hsz hlt ho3 hg3 hb3 hr3 HBX HOX HRX
              go_wp2_with (at_builtin; refine Lib.wpList_append_run _ rfl _ _ _ _ rfl _ _ rfl rfl _ _ hrun ?_)
              go_roundw
              case rel => exact ⟨i + 1, by omega, _, _, rfl, HB3, HR3, HO3⟩
              case measure => simp [slLen]; omega
            · obtain rfl : i = 7 := by omega
              have HQ : Hid (BadCall w wr 151 (some (ea 1)) (.int .i64 1) (.slice o 7 cap)) := Lib.hid ⟨HBX.out, blkRange 1 _ _ wr (by omega) (by omega) HOX.out.gs (.inr (.inr (.inr (by simp)))) _ _ (HE.out _ HBX.out)⟩
              go_wp2_with fail
              go_meet
              exact HQ
        · by_cases k1 : kw = 1
          · subst k1
            obtain ⟨g, rr, hg, _, _, hrr, _, q0, _⟩ := HOR.out.at_ (k := j - 1) (by simp; omega)
            subst hg
            have hfz := HOR.out.frozen ((j - 1) * 10)
            have hrr' : rr = bR0 := by
              have h := List.mem_of_getElem? hrr
              exact (List.mem_replicate.1 h).2
            subst hrr'
            dsimp only [bR0] at q0
            have hset := og77 j hma hmb HOR.out
            obtain ⟨WS, hWS⟩ : ∃ W, W = wr.setCell ⟨g, (j - 1) * 10, none⟩ (.int .i64 77) := ⟨_, rfl⟩
            rw [← hWS] at hset
            have hgl := (HOR.out.lt (b := g) rfl).1
            have hbs : Below w.heap.size w WS := by rw [hWS]; exact HBR.out.setCell (p := ⟨g, (j - 1) * 10, none⟩) (by have := HAL.out; simp; omega) _
            have HQ : Hid (BadCall w WS 151 (some (ea 1)) (.int .i64 1) (.slice (some ⟨g, 0, none⟩) j cap)) := Lib.hid ⟨hbs, (blkBytes 1 _ _ WS (by omega) (by omega) hset.gs (by simp) (by simp; omega) _ _ (HE.out _ hbs)).mono fun en w' h => by
              obtain ⟨hb, h⟩ := h
              rcases h with ⟨hno, _⟩ | ⟨_, h⟩
              · rw [all77] at hno; cases hno
              · exact ⟨h, hb⟩⟩
            rw [hWS] at HQ
            have hidx : (j : Int) - 1 = ((j - 1 : Nat) : Int) := by omega
            have hi1 : ((j - 1 : Nat) : Int) < (j : Int) := by omega
            have hi2 : j - 1 < j := by omega
            clear hset hbs hWS hrr hgl HBR HRR HOR
            go_wp2_with fail
            go_meet
            exact HQ
          · by_cases k2 : kw = 2
            · subst k2
              have HQ : Hid (BadCall w wr 151 (some (ea 1)) (.int .i64 (1073741824 + (j : Int))) (.slice o j cap)) := Lib.hid ⟨HBR.out, blkRange _ _ _ wr (by omega) (by omega) HOR.out.gs (.inr (.inl (by omega))) _ _ (HE.out _ HBR.out)⟩
              go_wp2_with fail
              go_meet
              exact HQ
            · by_cases k3 : kw = 3
              · subst k3
                have HQ : Hid (BadCall w wr 151 (some (ea 1)) (.int .i64 (-(j : Int))) (.slice o j cap)) := Lib.hid ⟨HBR.out, blkRange _ _ _ wr (by omega) (by omega) HOR.out.gs (.inl (by omega)) _ _ (HE.out _ HBR.out)⟩
                go_wp2_with fail
                go_meet
                exact HQ
              · have HQ : Hid (BadCall w wr 151 (some (ea 1)) (.int .i64 1) (.slice none 0 0)) := Lib.hid ⟨HBR.out, blkRange 1 _ [] wr (by omega) (by omega) (Gs.nil _) (.inr (.inr (.inl (by simp)))) _ _ (HE.out _ HBR.out)⟩
                go_wp2_with fail
                go_meet
                exact HQ
      have HBW := Lib.hid hcut.out.1
      have HBC := Lib.hid hcut.out.2
      clear hcut HBR HRR HOR HLT hca hcb HE HAL
      go_wp2_with fail
      refine HBC.out.mono ?_
      clear HBC
      rintro en w3 ⟨rfl, hb3⟩
      have HB3 := Lib.hid (HBW.out.trans (hb3.mono HBW.out.size))
      clear hb3 HBW
      obtain ⟨cur, hmk, hob⟩ := byteT.make w3 0 .i64 .i64 (256 - (j : Int)) (256 - (j : Int)) (by omega) (by omega) (by omega) (Nat.zero_le _)
      have hzz : (256 - (j : Int)).toNat ≠ 256 := by omega
      generalize (256 - (j : Int)).toNat = z at hmk hob hzz
      obtain ⟨W4, hW4⟩ : ∃ W, W = w3.alloc (.cells cur 5) := ⟨_, rfl⟩
      rw [← hW4] at hmk hob
      have hb4 : Below w3.heap.size w3 W4 := by rw [hW4]; exact (Below.refl _ _).alloc (Nat.le_refl _) _
      have HB4 := Lib.hid (HB3.out.trans (hb4.mono HB3.out.size))
      have HR4 := Lib.hid (blkReadShort _ _ W4 hob.bs (by rw [List.length_replicate]; exact hzz) _ _ ((HS.out.below HB4.out).cell 2 (by decide)))
      clear hob hW4 hb4 hzz
      generalize w3.heap.size = g3 at hmk HR4
      go_wp2_with fail
      refine HR4.out.mono ?_
      clear HR4 hmk HB3
      rintro en w5 ⟨rfl, hb5⟩
      have HB5 := Lib.hid (HB4.out.trans (hb5.mono HB4.out.size))
      clear hb5 HB4
      obtain ⟨cur2, hmk2, hob2⟩ := byteT.make w5 w5.heap.size .i64 .i64 256 256 (by omega) (by omega) (by omega) (Nat.le_refl _)
      have e256 : (256 : Int).toNat = 256 := rfl
      rw [e256] at hmk2 hob2
      obtain ⟨W6, hW6⟩ : ∃ W, W = w5.alloc (.cells cur2 5) := ⟨_, rfl⟩
      rw [← hW6] at hmk2 hob2
      have hb6 : Below w5.heap.size w5 W6 := by rw [hW6]; exact (Below.refl _ _).alloc (Nat.le_refl _) _
      have hb7 : Below W6.heap.size W6 (W6.alloc (.cells #[.int .u8 0] 5)) := (Below.refl _ _).alloc (Nat.le_refl _) _
      have hone : Ob 5 0 (W6.alloc (.cells #[.int .u8 0] 5)) (.slice (some ⟨W6.heap.size, 0, none⟩) 1 1) [0] := Ob.one (by omega) (by omega) (Nat.zero_le _)
      have hb57 : Below w5.heap.size w5 (W6.alloc (.cells #[.int .u8 0] 5)) := hb6.trans (hb7.mono hb6.size)
      obtain ⟨v8, w8, hrun, ho8, hg8, _⟩ := byteT.append 46 _ w5.heap.size _ _ (hob2.below hb7) _ [0] hone.bs (by rw [List.length_replicate]; decide) hb57.size
      have hb8 : Below w5.heap.size w5 w8 := (hob2.below hb7).grown hg8 hb57 (Nat.le_refl _) hb57.size
      have HB8 := Lib.hid (HB5.out.trans (hb8.mono HB5.out.size))
      have HR8 := Lib.hid (blkReadShort _ _ w8 ho8.bs (by rw [List.length_append, List.length_replicate]; decide) _ _ ((HS.out.below HB8.out).cell 2 (by decide)))
      clear hW6 hb6 hb7 hone hb57 ho8 hg8 hb8 hob2
      generalize w5.heap.size = g5 at hmk2 hrun
      go_wp2_with (at_builtin; refine Lib.wpList_append_run _ rfl _ _ _ _ rfl _ _ rfl rfl _ _ hrun ?_)
      refine HR8.out.mono ?_
      clear HR8 hrun hmk2 HB5
      rintro en w9 ⟨rfl, hb9⟩
      have HB9 := Lib.hid (HB8.out.trans (hb9.mono HB8.out.size))
      clear hb9 HB8
      have hi1 : ∀ W, Below w.heap.size w W → Calls Tryd.prog 26 #[.iface 151 (.pointer (some (ea 1))), .int .i64 102] W fun e w' => e = .returned (.bool true) ∧ Below W.heap.size W w' := fun W hb => isC W (HS.out.below hb) 102 (by unfold OkC; omega) 102
      have hi2 : ∀ W, Below w.heap.size w W → Calls Tryd.prog 26 #[.iface 151 (.pointer (some (ea 2))), .int .i64 103] W fun e w' => e = .returned (.bool true) ∧ Below W.heap.size W w' := fun W hb => isC W (HS.out.below hb) 103 (by unfold OkC; omega) 103
      have HI1 := Lib.hid hi1
      have HI2 := Lib.hid hi2
      clear hi1 hi2
      go_wp2_with fail
      refine (HI1.out _ HB9.out).mono ?_
      rintro en w10 ⟨rfl, hb10⟩
      have HB10 := Lib.hid (HB9.out.trans (hb10.mono HB9.out.size))
      clear hb10 HB9
      go_wp2_with fail
      refine (HI2.out _ HB10.out).mono ?_
      rintro en w11 ⟨rfl, hb11⟩
      have HB11 := Lib.hid (HB10.out.trans (hb11.mono HB10.out.size))
      clear hb11 HB10
      go_wp2_with fail
      refine (HI2.out _ HB11.out).mono ?_
      rintro en w12 ⟨rfl, hb12⟩
      have HB12 := Lib.hid (HB11.out.trans (hb12.mono HB11.out.size))
      clear hb12 HB11
      go_wp2_with fail
      go_ret
      exact ⟨rfl, HB12.out⟩
end Go.Proofs.YtccfiohcblecoaaDoor
