/- The walk of the law BlockBack. -/
import Derived.Test.YtoikdhfihkbcbaaDoorBlM
import Derived.Test.YtoikdhfihkbcbaaDoorMkRecs
import Derived.Test.YtoikdhfihkbcbaaDoorSameRs
import Derived.Test.YtoikdhfihkbcbaaDoorBytesR
import Derived.Test.YtoikdhfihkbcbaaDoorErC
import Derived.Test.YtoikdhfihkbcbaaDoorNum
import Derived.BigQuiet
import Derived.IntWalk
import Derived.Deep.Cut
namespace Go.Proofs.YtoikdhfihkbcbaaDoor
open Go.RowKit
set_option linter.unusedVariables false

theorem rec1_laidB (r : RecD) (w : World) : (Instr.buildSlice 28 1 #[(0, recV r)]).run Tryd.prog w = .ok (.slice (some ⟨w.heap.size, 0, none⟩) 1 1) (w.alloc (.cells (recCs r) 31)) := by kernel_rfl

theorem blockBack_idle (epoch : Int) (v : Value) (l : List Int) (at_ : Int) (w : World) (p : Option Addr) (T : TypeId) (hE : w.cell? ⟨0, 0, none⟩ = some (.iface T (.pointer p))) (hv : Ns .i64 w v l) (hbig : (150 : Int) < l.length) :
    Calls Tryd.prog 5 #[.int .i64 epoch, v, .int .i64 at_] w fun e w' => e = .returned (.bool true) ∧ Below w.heap.size w w' := by
  obtain ⟨_, o, cap, rfl, hc1, hc2, hc3, _⟩ := hv
  unfold maxLen at hc2
  have HF := Lib.hid (blkFirst w p T hE)
  clear hE
  generalize l.length = n at *
  go_enter Tryd.func5, Tryd.ntmps5
  go_wp2_with fail
  refine HF.out.mono ?_
  rintro e w1 ⟨rfl, hb1⟩
  have HB1 := Lib.hid hb1
  clear hb1
  go_wp2_with fail
  go_ret
  exact ⟨rfl, HB1.out⟩

set_option maxRecDepth 20000 in
set_option maxHeartbeats 4000000 in
theorem blockBack_walk0 {ea : Nat → Addr} (epoch : Int) (v : Value) (l : List Int) (at_ : Int) (b1 : -9223372036854775808 ≤ epoch) (b2 : epoch ≤ 9223372036854775807) (a1 : -9223372036854775808 ≤ at_) (a2 : at_ ≤ 9223372036854775807) (w : World) (hs : Sen ea w) (hv : Ns .i64 w v l) (hl : (l.length : Int) ≤ 150) :
    Calls Tryd.prog 5 #[.int .i64 epoch, v, .int .i64 at_] w fun e w' => e = .returned (.bool true) ∧ Below w.heap.size w w' := by
  have HS := Lib.hid hs
  have hE : w.cell? ⟨0, 0, none⟩ = some (.iface 124 (.pointer (some (ea 1)))) := hs.cell 1 (by decide)
  have HE := Lib.hid hE
  have HV := Lib.hid hv
  have HF := Lib.hid (blkFirst w _ _ hE)
  have hm0 := Int.emod_nonneg epoch (show (1073741824 : Int) ≠ 0 by omega)
  have hm1 := Int.emod_lt_of_pos epoch (show (0 : Int) < 1073741824 by omega)
  have HN1 := Lib.hid (fun W => number epoch 1073741824 W (by omega) (by omega) b1 b2)
  generalize epoch % 1073741824 = q at hm0 hm1 HN1
  obtain ⟨E, hEE⟩ : ∃ E, E = q + 1 := ⟨_, rfl⟩
  have hE1 : 1 ≤ E := by omega
  have hE2 : E ≤ 1073741824 := by omega
  have HEE := Lib.hid hEE
  obtain ⟨_, o, cap, rfl, hc1, hc2, hc3, hcell⟩ := hv
  have HVL : Hid (l ≠ [] → ∀ b, (Value.slice o l.length cap).ownBlock = some b → b < w.heap.size) := Lib.hid (fun hne b e => by
    obtain ⟨a, rfl, hc⟩ := hcell hne
    have h := Below.lt (hc 0 (List.length_pos_iff.2 hne))
    have e1 : (a.add 0).block = a.block := by unfold Addr.add; split <;> rfl
    rw [e1] at h
    have e2 : a.block = b := by simpa [Value.ownBlock] using e
    omega)
  unfold maxLen at hc2
  obtain ⟨n, hn⟩ : ∃ n, n = l.length := ⟨_, rfl⟩
  rw [← hn] at hc1 hl HVL ⊢
  have HN := Lib.hid hn
  have HVN : Hid (Ns .i64 w (.slice o n cap) l) := Lib.hid (by rw [hn]; exact HV.out)
  have HA := Lib.hid (fun W (b : Int) (h0 : 0 < b) (h1 : b ≤ 1000) => number at_ b W h0 (by omega) a1 a2)
  clear hn hcell hc3 b1 b2 hEE hE HV hs a1 a2
  go_enter Tryd.func5, Tryd.ntmps5
  go_wp2_with fail
  refine HF.out.mono ?_
  clear HF
  rintro e w1 ⟨rfl, hb1⟩
  have HB1 := Lib.hid hb1
  clear hb1
  go_wp2_with fail
  refine (HN1.out _).mono ?_
  clear HN1
  rintro e w1' ⟨rfl, rfl⟩
  go_upto_region 7 with fail
  rw [← HEE.out]
  clear HEE hm0 hm1
  have hal : Below w1.heap.size w1 (w1.alloc (.cells #[.slice o n cap, .int .i64 0] 27)) := (Below.refl _ _).alloc (Nat.le_refl _) _
  have HB2 := Lib.hid (HB1.out.trans (hal.mono HB1.out.size))
  have hv1 := (HVN.out.below HB1.out).below hal
  have hvq : l ≠ [] → (Value.slice o n cap).ownBlock ≠ some w1.heap.size := fun hne e => by
    have h1 := HVL.out hne _ e
    have h2 := HB1.out.size
    omega
  have HVQ := Lib.hid hvq
  have HR := Lib.hid (mkRecs w1.heap.size (.slice o n cap) l (w1.alloc (.cells #[.slice o n cap, .int .i64 0] 27)) 0 5 (heap_alloc_new w1 _) hv1 hvq (by have := HN.out; omega) (by omega) (by omega) (by omega) (by omega))
  have HSZ : Hid ((w1.alloc (.cells #[.slice o n cap, .int .i64 0] 27)).heap.size = w1.heap.size + 1) := Lib.hid (by simp)
  clear hal hv1 hvq
  go_wp2_with fail
  refine HR.out.mono ?_
  clear HR
  rintro e w3 ⟨L, o3, cap3, p3, rfl, ho3, hok3, hl3, hp3a, hp3b, hs3, he3⟩
  have hge : ∀ k, k = w1.heap.size → w.heap.size ≤ k := fun k h => by rw [h]; exact HB1.out.size
  have HB3 := Lib.hid (HB2.out.trans (he3.below (B := w.heap.size) hge HB2.out.size))
  have hQ : w.heap.size ≤ w1.heap.size := HB1.out.size
  rw [HSZ.out] at ho3
  generalize w1.heap.size = Q at hge hs3 he3 ho3 HVQ hQ ⊢
  have HMX := Lib.hid (makeX Q (.slice o n cap) l w3 p3 hs3 (HVN.out.below HB3.out) HVQ.out (by have := HN.out; omega) hp3a (by omega))
  have HO3 := Lib.hid ho3
  have HOK3 := Lib.hid hok3
  have hform := ho3.form
  obtain ⟨o3', cap3', hv3, hca, hcb, _, _⟩ := hform
  simp only [Value.slice.injEq] at hv3
  obtain ⟨rfl, hlx, rfl⟩ := hv3
  unfold maxLen at hcb
  obtain ⟨m, hm⟩ : ∃ m, m = L.length := ⟨_, rfl⟩
  rw [← hm] at hl3 hca HO3 ⊢
  have HM := Lib.hid hm
  have hge' : ∀ k, k = Q → w.heap.size ≤ k := fun k h => by rw [h]; exact hQ
  have HGE := Lib.hid hge'
  have HQL := Lib.hid hQ
  clear he3 hge hge' hok3 ho3 HB2 HB1 hlx hm hs3 hp3a hp3b HVN HVL HVQ HSZ hQ
  go_wp2_with fail
  refine HMX.out.mono ?_
  clear HMX
  rintro e w4 ⟨r, p4, rfl, hrw, hrok, _, _, _, he4⟩
  have HB4 := Lib.hid (HB3.out.trans (he4.below (B := w.heap.size) HGE.out HB3.out.size))
  have HO4 := Lib.hid (HO3.out.same (w' := w4) fun b e => he4.block b (HO3.out.lt e).2 (fun (h : b = Q) => by have := (HO3.out.lt e).1; omega))
  clear he4 HO3 HB3 HGE
  obtain ⟨W5, hW5⟩ : ∃ W, W = w4.alloc (.cells (recCs r) 31) := ⟨_, rfl⟩
  have hlaid := rec1_laidB r w4
  rw [← hW5] at hlaid
  have hb5 : Below w4.heap.size w4 W5 := by rw [hW5]; exact (Below.refl _ _).alloc (Nat.le_refl _) _
  have hrw5 : RW w4.heap.size (recCs r) W5 := by rw [hW5]; exact RW.new w4 _
  have HB5 := Lib.hid (HB4.out.trans (hb5.mono HB4.out.size))
  have hoa := (HO4.out.mono (base' := w.heap.size) (by have := HQL.out; omega)).below hb5
  obtain ⟨gb, cap6, w6, hrun, ho6, hg6, _, _, hca6, hcb6⟩ := hoa.append1 r hrw HB5.out.size (by have := HM.out; omega) w4.heap.size hrw5 1 28
  have HB6 := Lib.hid (hoa.grown hg6 HB5.out (Nat.le_refl _) HB5.out.size)
  have hall : (L ++ [r]).all okR = true := by
    rw [List.all_eq_true]; intro x hx
    rcases List.mem_append.1 hx with h | h
    · exact HOK3.out x h
    · rw [List.mem_singleton] at h; subst h; exact hrok
  have HALL := Lib.hid hall
  have hlen : (L ++ [r]).length = m + 1 := by rw [List.length_append, ← HM.out]; rfl
  rw [← HM.out] at hrun ho6 hca6
  unfold maxLen at hcb6
  obtain ⟨LL, hLL⟩ : ∃ LL, LL = L ++ [r] := ⟨_, rfl⟩
  rw [← hLL] at HALL hlen ho6
  have HBY := Lib.hid (blkBytes E _ LL w6 hE1 (by omega) ho6.gs (by omega) (by omega) _ _ (by rw [HB6.out.cell (Below.lt HE.out)]; exact HE.out))
  have HO6 := Lib.hid ho6
  have HLEN := Lib.hid hlen
  clear hW5 hb5 hrw5 hoa ho6 hg6 hall hlen hLL HB5 HO4 HB4 HOK3 hrok
  generalize recV r = rv at hlaid ⊢
  generalize w4.heap.size = A at hlaid hrun
  go_wp2_with (first | (refine wpList_bs_run _ rfl _ _ _ rfl _ (by kernel_rfl) _ _ hlaid ?_) | (at_builtin; refine Lib.wpList_append_run _ rfl _ _ _ _ rfl _ _ rfl rfl _ _ hrun ?_))
  refine HBY.out.mono ?_
  clear HBY
  rintro en w7 ⟨hb7, h7⟩
  have HB7 := Lib.hid (HB6.out.trans (hb7.mono HB6.out.size))
  have HO7 := Lib.hid (HO6.out.below hb7)
  rcases h7 with ⟨_, o7, c7, rfl, ho7⟩ | ⟨hno, _⟩
  · have hl7 := blkB_len E LL (by rw [HLEN.out]; omega)
    obtain ⟨g7, cap7, hv7, _, _, hc7a, hc7b⟩ := ho7.row (ne_nil_of_lt (k := 0) (by omega))
    simp only [Value.slice.injEq] at hv7
    obtain ⟨rfl, hx7, rfl⟩ := hv7
    have hokL : ∀ r ∈ LL, okR r = true ∧ r.W := fun r hr => ⟨List.all_eq_true.1 HALL.out r hr, HO7.out.1 r hr⟩
    have HOKL := Lib.hid hokL
    have HRD := Lib.hid (blkReadBack _ E LL w7 ho7.bs ((HS.out.below HB7.out).e3) (some (ea 4)) 124 ((HS.out.below HB7.out).cell 4 (by decide)) (by rw [HLEN.out]; omega) (by rw [HLEN.out]; omega) hE1 (by omega) hokL)
    rw [HLEN.out] at HRD
    have HBS := Lib.hid ho7.bs
    unfold maxLen at hc7b
    clear hb7 ho7 hx7 hokL HO6 hlaid hrun
    rw [hl7] at hc7a
    go_wp2_with fail
    refine HRD.out.mono ?_
    clear HRD
    rintro en w8 ⟨⟨o8, c8, rfl, ho8⟩, hb8⟩
    have HB8 := Lib.hid (HB7.out.trans (hb8.mono HB7.out.size))
    have HG8 := Lib.hid ho8.gs
    have HO8 := Lib.hid (HO7.out.below hb8).gs
    have HC := Lib.hid (bytesRef _ _ w8 (HBS.out.below hb8) (by rw [hl7]; omega))
    clear hb8 ho8 HB7 HO7 HBS
    go_wp2_with fail
    refine HC.out.mono ?_
    clear HC
    rintro en w9 ⟨vc, rfl, hb9, hoc⟩
    have hrow := hoc.row (ne_nil_of_lt (k := 0) (by rw [hl7]; omega))
    rw [hl7] at hrow
    obtain ⟨gc, cc, rfl, hgb, hgs, hca9, hcb9⟩ := hrow
    have HB9 := Lib.hid (HB8.out.trans (hb9.mono HB8.out.size))
    have HB89 := Lib.hid hb9
    have HSET := Lib.hid (fun (k : Nat) => hoc.set k (x := 1) (by omega) (by omega))
    have HFR := Lib.hid (fun k => hoc.frozen k)
    have HCE := Lib.hid (fun (k : Nat) (hk : k < 256) => hoc.cell (i := k) (by rw [hl7]; exact hk))
    have HGB := Lib.hid hgb
    have HGS := Lib.hid hgs
    have HZ := Lib.hid (fun k => readBlk_zeros E LL (by rw [HLEN.out]; omega) (by rw [HLEN.out]; omega) hE1 hE2 HOKL.out k)
    rw [HLEN.out] at HZ
    unfold maxLen at hcb9
    have hm6 : ((m + 1 : Nat) : Int) ≤ 6 := by omega
    have hq0 := Int.emod_nonneg at_ (show (6 : Int) ≠ 0 by omega)
    have hq1 := Int.emod_lt_of_pos at_ (show (0 : Int) < 6 by omega)
    have HA6 := Lib.hid (fun W => HA.out W 6 (by omega) (by omega))
    generalize at_ % 6 = q6 at hq0 hq1 HA6
    obtain ⟨z, hz⟩ : ∃ z : Int, z = 256 - (16 + 40 * ((m + 1 : Nat) : Int)) := ⟨_, rfl⟩
    have hz0 : 0 < z → 0 ≤ at_ % z := fun h => Int.emod_nonneg at_ (by omega)
    have hz1 : 0 < z → at_ % z < z := fun h => Int.emod_lt_of_pos at_ h
    have HAZ := Lib.hid (fun (h : 0 < z) W => HA.out W z h (by omega))
    generalize at_ % z = qz at hz0 hz1 HAZ
    have HZ0 := Lib.hid hz0
    have HZ1 := Lib.hid hz1
    obtain ⟨y, hy⟩ : ∃ y, y = bits .and .i64 at_ 1 := ⟨_, rfl⟩
    have HZV := Lib.hid hz
    clear hb9 hoc HB9 hgb hgs HA hz0 hz1 hl7 hz hy
    go_wp2_with fail
    refine (HA6.out _).mono ?_
    clear HA6
    rintro e w10 ⟨rfl, rfl⟩
    go_upto_region 16 with fail
    go_cut [78] from 25 (fun s78 wx => ∃ x : Bool, s78 = .bool x ∧ Hid (x = true → 0 < z) ∧ w9 = wx)
    case first =>
      by_cases h1 : 16 + 40 * ((m + 1 : Nat) : Int) < 256
      · by_cases h2 : bits .and .i64 at_ 1 = 1
        · go_wp2_with fail
          go_meet
          exact ⟨true, rfl, Lib.hid (fun _ => by have := HZV.out; omega), rfl⟩
        · go_wp2_with fail
          go_meet
          exact ⟨false, by simp [h2], Lib.hid (fun h => by simp at h), rfl⟩
      · go_wp2_with fail
        go_meet
        exact ⟨false, rfl, Lib.hid (fun h => by simp at h), rfl⟩
    obtain ⟨x, rfl, HX, rfl⟩ := hcut
    go_upto_if 78 with fail
    go_cut [17] from 25 (fun s17 wx => ∃ k : Nat, s17 = .int .i64 k ∧ Hid (10 ≤ k ∧ k < 16 ∨ 16 + 40 * (m + 1) ≤ k ∧ k < 256) ∧ w9 = wx)
    case first =>
      cases x with
      | true =>
        have hz9 := HX.out rfl
        have HZZ : Hid (256 - (16 + 40 * ((m : Int) + 1)) = z) := Lib.hid (by have := HZV.out; omega)
        have hb0 := HZ0.out hz9
        have hb1 := HZ1.out hz9
        have hb2 : qz ≤ 240 := by have := HZV.out; omega
        go_wp2_with fail
        rw [HZZ.out]
        refine (HAZ.out hz9 _).mono ?_
        rintro e w10 ⟨rfl, rfl⟩
        go_wp2_with fail
        go_meet
        exact ⟨(16 + 40 * ((m : Int) + 1) + qz).toNat, by congr 1; omega, Lib.hid (by have := HZV.out; omega), rfl⟩
      | false =>
        go_wp2_with fail
        go_meet
        exact ⟨(10 + q6).toNat, by congr 1; omega, Lib.hid (by omega), rfl⟩
    obtain ⟨k, rfl, HK, rfl⟩ := hcut
    have hk256 : (k : Int) < 256 := by have := HK.out; omega
    obtain ⟨hc1, hc2, hc3⟩ := HZ.out k HK.out
    have hcell := HCE.out k (by omega)
    have hfr := HFR.out k
    obtain ⟨W, hW⟩ : ∃ W, W = w9.setCell ⟨gc, k, none⟩ (.int .u8 1) := ⟨_, rfl⟩
    have hset := HSET.out k
    rw [← hW] at hset
    have hbW : Below w8.heap.size w8 W := HB89.out.trans (by rw [hW]; exact (Below.refl _ _).setCell (p := ⟨gc, k, none⟩) HGB.out _)
    have HBW := Lib.hid (HB8.out.trans (hbW.mono HB8.out.size))
    have HGW := Lib.hid (HG8.out.below hbW)
    have HOW := Lib.hid (HO8.out.below hbW)
    have HSW := Lib.hid (HS.out.below HBW.out)
    have HRD := Lib.hid (blkReadNone _ _ W hset.bs HSW.out.e3 (some (ea 4)) 124 (HSW.out.cell 4 (by decide)) hc1 hc2 hc3)
    have HWW := Lib.hid hW
    have HR0 := Lib.hid (fun W' (hb : Below W.heap.size W W') => blkRange 0 _ LL W' (by omega) (by omega) (HOW.out.below hb) (.inl (by omega)) (some (ea 1)) 124 ((HSW.out.below hb).cell 1 (by decide)))
    have HR1 := Lib.hid (fun W' (hb : Below W.heap.size W W') => blkRange E (.slice none 0 0) [] W' (by omega) (by omega) (Og.nil (base := 0)).gs (.inr (.inr (.inl (by simp)))) (some (ea 1)) 124 ((HSW.out.below hb).cell 1 (by decide)))
    have hsm : ∀ W', Below W.heap.size W W' → Calls Tryd.prog 16 #[.slice o8 (m + 1) c8, .slice (some ⟨gb, 0, none⟩) (m + 1) cap6] W' fun e w' => e = .returned (.bool true) ∧ Below W'.heap.size W' w' := fun W' hb => (sameRecs _ _ LL LL W' (HGW.out.below hb) (HOW.out.below hb)).mono (by rintro e w' ⟨rfl, hb⟩; exact ⟨by simp, hb⟩)
    have HSM := Lib.hid hsm
    have hi4 : ∀ W', Below W.heap.size W W' → Calls Tryd.prog 20 #[.iface 124 (.pointer (some (ea 4))), .int .i64 105] W' fun e w' => e = .returned (.bool true) ∧ Below W'.heap.size W' w' := fun W' hb => isC W' (HSW.out.below hb) 105 (by unfold OkC; omega) 105
    have hi1 : ∀ W', Below W.heap.size W W' → Calls Tryd.prog 20 #[.iface 124 (.pointer (some (ea 1))), .int .i64 102] W' fun e w' => e = .returned (.bool true) ∧ Below W'.heap.size W' w' := fun W' hb => isC W' (HSW.out.below hb) 102 (by unfold OkC; omega) 102
    have HI4 := Lib.hid hi4
    have HI1 := Lib.hid hi1
    clear hset hbW hc1 hc2 hc3 hi4 hi1 hsm hW HG8 HO8 HB89 HB8 HSET HFR HCE HZ HX HZV HZ0 HZ1
    go_upto_region 19 with fail
    rw [← HWW.out]
    clear hcell hfr HWW
    go_wp2_with fail
    refine HRD.out.mono ?_
    rintro en x1 ⟨rfl, hb1⟩
    have HX1 := Lib.hid hb1
    clear hb1 HRD
    go_wp2_with fail
    refine (HR0.out _ HX1.out).mono ?_
    rintro en x2 ⟨rfl, hb2⟩
    have HX2 := Lib.hid (HX1.out.trans (hb2.mono HX1.out.size))
    clear hb2 HR0 HX1
    go_wp2_with fail
    refine (HR1.out _ HX2.out).mono ?_
    rintro en x3 ⟨rfl, hb3⟩
    have HX3 := Lib.hid (HX2.out.trans (hb3.mono HX2.out.size))
    clear hb3 HR1 HX2
    go_wp2_with fail
    refine (HSM.out _ HX3.out).mono ?_
    rintro en x4 ⟨rfl, hb4⟩
    have HX4 := Lib.hid (HX3.out.trans (hb4.mono HX3.out.size))
    clear hb4 HSM HX3
    go_wp2_with fail
    refine (HI4.out _ HX4.out).mono ?_
    rintro en x5 ⟨rfl, hb5⟩
    have HX5 := Lib.hid (HX4.out.trans (hb5.mono HX4.out.size))
    clear hb5 HI4 HX4
    go_wp2_with fail
    refine (HI1.out _ HX5.out).mono ?_
    rintro en x6 ⟨rfl, hb6⟩
    have HX6 := Lib.hid (HX5.out.trans (hb6.mono HX5.out.size))
    clear hb6 HX5
    go_wp2_with fail
    refine (HI1.out _ HX6.out).mono ?_
    rintro en x7 ⟨rfl, hb7⟩
    have HX7 := Lib.hid (HX6.out.trans (hb7.mono HX6.out.size))
    clear hb7 HX6
    go_wp2_with fail
    go_ret
    exact ⟨rfl, HBW.out.trans (HX7.out.mono HBW.out.size)⟩
  · exact absurd hno (by rw [HALL.out]; decide)

theorem blockBack_walk {ea : Nat → Addr} (epoch : Int) (v : Value) (l : List Int) (at_ : Int) (b1 : -9223372036854775808 ≤ epoch) (b2 : epoch ≤ 9223372036854775807) (a1 : -9223372036854775808 ≤ at_) (a2 : at_ ≤ 9223372036854775807) (w : World) (hs : Sen ea w) (hv : Ns .i64 w v l) :
    Calls Tryd.prog 5 #[.int .i64 epoch, v, .int .i64 at_] w fun e w' => e = .returned (.bool true) ∧ Below w.heap.size w w' := by
  by_cases hl : (l.length : Int) ≤ 150
  · exact blockBack_walk0 epoch v l at_ b1 b2 a1 a2 w hs hv hl
  · exact blockBack_idle epoch v l at_ w (some (ea 1)) _ (hs.cell 1 (by decide)) hv (by omega)
end Go.Proofs.YtoikdhfihkbcbaaDoor
