/- The walk of the law ChainBase. -/
import Derived.Test.YtccfiohcblecoaaDoorChZ
import Derived.Test.YtccfiohcblecoaaDoorNum
namespace Go.Proofs.YtccfiohcblecoaaDoor
open Go.RowKit
set_option linter.unusedVariables false

def baseL (tt : Int) : List RecD := [⟨2, 1, 1, tt, 0, 0, false, true, 0, 0⟩, ⟨5, 1, 0, tt, 0, 0, false, false, 0, 0⟩]
theorem baseL_ok (tt : Int) (h0 : 0 ≤ tt) (h1 : tt ≤ 1000) : ∀ r ∈ baseL tt, okR r = true := by
  intro r hr
  simp only [baseL, List.mem_cons, List.not_mem_nil, or_false] at hr
  rcases hr with rfl | rfl
  · simp [okR, inB, txnTop, pageTop, prevB, nextB, keyB, valsB]; omega
  · simp [okR, inB, txnTop, pageTop, prevB, nextB, keyB, valsB]; omega
theorem baseL_w (tt : Int) (h0 : 0 ≤ tt) (h1 : tt ≤ 1000) : ∀ r ∈ baseL tt, r.W := by
  intro r hr
  simp only [baseL, List.mem_cons, List.not_mem_nil, or_false] at hr
  rcases hr with rfl | rfl
  · constructor <;> simp [I64] <;> omega
  · constructor <;> simp [I64] <;> omega
theorem baseL_norm (b tt : Int) (h0 : 2 ≤ tt) (h1 : tt ≤ b) : norm b (baseL tt) (b + 1) = (b + 1, none) ∧ (chain b (baseL tt) [] (b + 1)).2 = some tt ∧ (norm b (baseL tt) (b + 2)).2 = some tt := by
  have r1 : recAtN b (baseL tt) (b + 1) = some ⟨2, 1, 1, tt, 0, 0, false, true, 0, 0⟩ := by
    unfold recAtN baseL; rw [if_pos (by simp; omega)]; have e : (b + 1 - b - 1).toNat = 0 := by omega
    rw [e]; rfl
  have r2 : recAtN b (baseL tt) (b + 2) = some ⟨5, 1, 0, tt, 0, 0, false, false, 0, 0⟩ := by
    unfold recAtN baseL; rw [if_pos (by simp; omega)]; have e : (b + 2 - b - 1).toNat = 1 := by omega
    rw [e]; rfl
  have r0 : norm b (baseL tt) tt = (0, some tt) := norm_none (by omega) (recAtN_none (by omega))
  have n1 : norm b (baseL tt) (b + 1) = (b + 1, none) := norm_set (by omega) r1 rfl
  have hp : prevN b (baseL tt) (b + 1) = tt := by unfold prevN; rw [r1]; rfl
  refine ⟨n1, ?_, ?_⟩
  · rw [chain_on (by omega) n1 (by omega) (by rw [hp]; omega), hp, chain_bad r0]
  · rw [norm_on (by omega) (by omega) r2 (.inr (.inr rfl)) (by show (if (5 : Int) = 3 then (0 : Int) else tt) < b + 2; rw [if_neg (by decide)]; omega)]
    show (norm b (baseL tt) (if (5 : Int) = 3 then (0 : Int) else tt)).2 = some tt
    rw [if_neg (by decide), r0]

set_option maxRecDepth 20000 in
set_option maxHeartbeats 4000000 in
theorem chainBase_walk {ea : Nat → Addr} (base below : Int) (b1 : -9223372036854775808 ≤ base) (b2 : base ≤ 9223372036854775807) (c1 : -9223372036854775808 ≤ below) (c2 : below ≤ 9223372036854775807) (w : World) (hs : Sen ea w) :
    Calls Tryd.prog 5 #[.int .i64 base, .int .i64 below] w fun e w' => e = .returned (.bool true) ∧ Below w.heap.size w w' := by
  have HS := Lib.hid hs
  have HF := Lib.hid (chainFirst w hs)
  have hm0 := Int.emod_nonneg base (show (50 : Int) ≠ 0 by omega)
  have hm1 := Int.emod_lt_of_pos base (show (0 : Int) < 50 by omega)
  have HN1 := Lib.hid (fun W => number base 50 W (by omega) (by omega) b1 b2)
  generalize base % 50 = q at hm0 hm1 HN1
  have hb1 : IntKind.i64.wrap (q + 2) = q + 2 := by rw [IntKind.wrap_i64]; omega
  have HN2 := Lib.hid (fun W => number below (q + 2 - 1) W (by omega) (by omega) c1 c2)
  have hk0 := Int.emod_nonneg below (show q + 2 - 1 ≠ 0 by omega)
  have hk1 := Int.emod_lt_of_pos below (show (0 : Int) < q + 2 - 1 by omega)
  generalize below % (q + 2 - 1) = k at hk0 hk1 HN2
  obtain ⟨tt, hto⟩ : ∃ tt, tt = q + 2 - k := ⟨_, rfl⟩
  have hto1 : 2 ≤ tt := by omega
  have hto2 : tt ≤ q + 2 := by omega
  have HTO := Lib.hid hto
  obtain ⟨n1, n2, n3⟩ := baseL_norm (q + 2) tt hto1 hto2
  have HN3 := Lib.hid n1
  have HN4 := Lib.hid n2
  have HN5 := Lib.hid n3
  have HOK := Lib.hid (baseL_ok tt (by omega) (by omega))
  have HW := Lib.hid (baseL_w tt (by omega) (by omega))
  clear hs n1 n2 n3 hto b1 b2 c1 c2 hb1
  go_enter Tryd.func5, Tryd.ntmps5
  go_wp2_with fail
  refine HF.out.mono ?_
  clear HF
  rintro e w1 ⟨rfl, hb1⟩
  have HB1 := Lib.hid hb1
  clear hb1
  go_wp2_with fail
  refine (HN1.out _).mono ?_
  clear HN1
  rintro e w2 ⟨rfl, rfl⟩
  go_wp2_with fail
  refine (HN2.out _).mono ?_
  clear HN2
  rintro e w2 ⟨rfl, rfl⟩
  go_upto_region 7 with fail
  rw [← HTO.out]
  obtain ⟨W, hW⟩ : ∃ W, W = w1.alloc (.cells #[.int .i64 2, .int .i64 1, .int .i64 1, .int .i64 tt, .int .i64 0, .int .i64 0, .bool false, .bool true, .int .i64 0, .int .i64 0, .int .i64 5, .int .i64 1, .int .i64 0, .int .i64 tt, .int .i64 0, .int .i64 0, .bool false, .bool false, .int .i64 0, .int .i64 0] 33) := ⟨_, rfl⟩
  have hbW : Below w1.heap.size w1 W := by rw [hW]; exact (Below.refl _ _).alloc (Nat.le_refl _) _
  have hlaid := recs2_laid 2 1 1 tt 0 0 0 0 5 1 0 tt 0 0 0 0 false true false false w1
  rw [← hW] at hlaid
  have hgs : Gs W (.slice (some ⟨w1.heap.size, 0, none⟩) 2 2) (baseL tt) := Gs.lit (by rw [hW]; exact heap_alloc_new w1 _) HW.out 2 rfl (by omega)
  have HBW := Lib.hid (HB1.out.trans (hbW.mono HB1.out.size))
  have HL := Lib.hid (chainLogs (ea := ea) _ _ (q + 2) W (HS.out.below HBW.out) hgs HOK.out (by simp [baseL]) (by omega) (by omega))
  clear hW hbW hgs HB1
  go_wp2_with (refine wpList_buildSlice_run _ rfl _ _ _ rfl _ (by kernel_rfl) _ _ hlaid ?_)
  refine HL.out.mono ?_
  clear HL hlaid
  rintro e w3 ⟨X, Y, dx, dy, vx, vy, rfl, ht⟩
  have HX := Lib.hid ht.x
  have HB3 := Lib.hid (HBW.out.trans (ht.bel.mono HBW.out.size))
  clear ht HBW
  have HQ1 := Lib.hid (normFine HX.out (HS.out.below HB3.out) (q + 2 + 1) (q + 2 + 1) (by omega) (by omega) HN3.out)
  go_wp2_with fail
  refine HQ1.out.mono ?_
  clear HQ1
  rintro e w4 ⟨rfl, hb4⟩
  have HB4 := Lib.hid (HB3.out.trans (hb4.mono HB3.out.size))
  have HX4 := Lib.hid (HX.out.below hb4)
  have HQ2 := Lib.hid (allBad HX4.out (HS.out.below HB4.out) (q + 2 + 1) tt (by omega) (by omega) HN4.out)
  clear hb4 HX HB3
  go_wp2_with fail
  refine HQ2.out.mono ?_
  clear HQ2
  rintro e w5 ⟨a5, rfl, hb5, hev5⟩
  have HB5 := Lib.hid (HB4.out.trans (hb5.mono HB4.out.size))
  have HX5 := Lib.hid (HX4.out.below hb5)
  have HE5 := Lib.hid hev5
  have HQ3 := Lib.hid (normBad HX5.out (HS.out.below HB5.out) (q + 2 + 2) tt (by omega) (by omega) HN5.out)
  clear hb5 hev5 HX4 HB4
  go_wp2_with fail
  refine HQ3.out.mono ?_
  clear HQ3
  rintro e w6 ⟨a6, rfl, hb6, hev6⟩
  have HB6 := Lib.hid (HB5.out.trans (hb6.mono HB5.out.size))
  have HE6 := Lib.hid hev6
  have HE56 := Lib.hid (HE5.out.below hb6)
  clear hb6 hev6 HX5 HB5 HE5
  go_wp2_with fail
  refine (placed 108 tt (by omega) _).mono ?_
  rintro e w7 ⟨rfl, hb7⟩
  have HB7 := Lib.hid (HB6.out.trans (hb7.mono HB6.out.size))
  have HQ4 := Lib.hid (sameAt w7 (HS.out.below HB7.out) _ tt (HE56.out.below hb7))
  have HE67 := Lib.hid (HE6.out.below hb7)
  clear hb7 HB6 HE56 HE6
  go_wp2_with fail
  refine HQ4.out.mono ?_
  clear HQ4
  rintro e w8 ⟨rfl, hb8⟩
  have HB8 := Lib.hid (HB7.out.trans (hb8.mono HB7.out.size))
  have HE68 := Lib.hid (HE67.out.below hb8)
  clear hb8 HB7 HE67
  go_wp2_with fail
  refine (placed 108 tt (by omega) _).mono ?_
  rintro e w9 ⟨rfl, hb9⟩
  have HB9 := Lib.hid (HB8.out.trans (hb9.mono HB8.out.size))
  have HQ5 := Lib.hid (sameAt w9 (HS.out.below HB9.out) _ tt (HE68.out.below hb9))
  clear hb9 HB8 HE68
  go_wp2_with fail
  refine HQ5.out.mono ?_
  clear HQ5
  rintro e w10 ⟨rfl, hb10⟩
  have HB10 := Lib.hid (HB9.out.trans (hb10.mono HB9.out.size))
  clear hb10 HB9
  go_wp2_with fail
  go_ret
  exact ⟨rfl, HB10.out⟩
end Go.Proofs.YtccfiohcblecoaaDoor
