/- The walk of the law BlockTurned. -/
import Derived.Test.YtoikdhfihkbcbaaDoorBlM
import Derived.Test.YtoikdhfihkbcbaaDoorMkRecs
import Derived.Test.YtoikdhfihkbcbaaDoorSameRs
import Derived.Test.YtoikdhfihkbcbaaDoorSame
import Derived.Test.YtoikdhfihkbcbaaDoorXor
import Derived.Test.YtoikdhfihkbcbaaDoorNum
import Derived.BigQuiet
import Derived.IntWalk
namespace Go.Proofs.YtoikdhfihkbcbaaDoor
open Go.RowKit
set_option linter.unusedVariables false

theorem rec1_laidT (r : RecD) (w : World) : (Instr.buildSlice 28 1 #[(0, recV r)]).run Tryd.prog w = .ok (.slice (some ⟨w.heap.size, 0, none⟩) 1 1) (w.alloc (.cells (recCs r) 31)) := by kernel_rfl

theorem blockTurned_idle (epoch : Int) (v : Value) (l : List Int) (at_ by_ : Int) (w : World) (p : Option Addr) (T : TypeId) (hE : w.cell? ⟨0, 0, none⟩ = some (.iface T (.pointer p))) (hv : Ns .i64 w v l) (hbig : (150 : Int) < l.length) :
    Calls Tryd.prog 3 #[.int .i64 epoch, v, .int .i64 at_, .int .u8 by_] w fun e w' => e = .returned (.bool true) ∧ Below w.heap.size w w' := by
  obtain ⟨_, o, cap, rfl, hc1, hc2, hc3, _⟩ := hv
  unfold maxLen at hc2
  have HF := Lib.hid (blkFirst w p T hE)
  clear hE
  generalize l.length = n at *
  go_enter Tryd.func3, Tryd.ntmps3
  go_wp2_with fail
  refine HF.out.mono ?_
  rintro e w1 ⟨rfl, hb1⟩
  have HB1 := Lib.hid hb1
  clear hb1
  go_wp2_with fail
  go_ret
  exact ⟨rfl, HB1.out⟩

set_option maxRecDepth 20000 in
set_option maxHeartbeats 4000000 in
theorem blockTurned_walk0 {ea : Nat → Addr} (epoch : Int) (v : Value) (l : List Int) (at_ by_ : Int) (b1 : -9223372036854775808 ≤ epoch) (b2 : epoch ≤ 9223372036854775807) (a1 : -9223372036854775808 ≤ at_) (a2 : at_ ≤ 9223372036854775807) (y0 : 0 ≤ by_) (y1 : by_ ≤ 255) (yn : by_ ≠ 0) (w : World) (hs : E3 ea w) (hk : w.cell? ⟨2, 0, none⟩ = some (.iface 124 (.pointer (some (ea 4))))) (hv : Ns .i64 w v l) (hl : (l.length : Int) ≤ 150) :
    Calls Tryd.prog 3 #[.int .i64 epoch, v, .int .i64 at_, .int .u8 by_] w fun e w' => e = .returned (.bool true) ∧ Below w.heap.size w w' := by
  have HS := Lib.hid hs
  have HK := Lib.hid hk
  have hE : w.cell? ⟨0, 0, none⟩ = some (.iface 124 (.pointer (some (ea 1)))) := hs.r
  have HE := Lib.hid hE
  have HV := Lib.hid hv
  have HF := Lib.hid (blkFirst w _ _ hE)
  have hm0 := Int.emod_nonneg epoch (show (1000000 : Int) ≠ 0 by omega)
  have hm1 := Int.emod_lt_of_pos epoch (show (0 : Int) < 1000000 by omega)
  have HN1 := Lib.hid (fun W => number epoch 1000000 W (by omega) (by omega) b1 b2)
  generalize epoch % 1000000 = q at hm0 hm1 HN1
  obtain ⟨E, hEE⟩ : ∃ E, E = q + 1 := ⟨_, rfl⟩
  have hE1 : 1 ≤ E := by omega
  have hE2 : E ≤ 1000000 := by omega
  have HEE := Lib.hid hEE
  obtain ⟨_, o, cap, rfl, hc1, hc2, hc3, hcell⟩ := hv
  have HVL : Hid (l ≠ [] → ∀ b, (Value.slice o l.length cap).ownBlock = some b → b < w.heap.size) := Lib.hid (fun hne b e => by
    obtain ⟨a, rfl, hc⟩ := hcell hne
    have h := Below.lt (hc 0 (List.length_pos_iff.2 hne))
    have e1 : (a.add 0).block = a.block := by unfold Addr.add; split <;> rfl
    rw [e1] at h
    have e2 : a.block = b := by simpa [Value.ownBlock] using e
    omega)
  unfold maxLen at hc2
  obtain ⟨n, hn⟩ : ∃ n, n = l.length := ⟨_, rfl⟩
  rw [← hn] at hc1 hl HVL ⊢
  have HN := Lib.hid hn
  have HVN : Hid (Ns .i64 w (.slice o n cap) l) := Lib.hid (by rw [hn]; exact HV.out)
  have HA := Lib.hid (fun W => number at_ 256 W (by omega) (by omega) a1 a2)
  have hk0 := Int.emod_nonneg at_ (show (256 : Int) ≠ 0 by omega)
  have hk1 := Int.emod_lt_of_pos at_ (show (0 : Int) < 256 by omega)
  have yb : (by_ == 0) = false := by simp [yn]
  obtain ⟨t, ht⟩ : ∃ t : Nat, at_ % 256 = t := ⟨(at_ % 256).toNat, by omega⟩
  rw [ht] at HA hk0 hk1
  clear hn hcell hc3 b1 b2 hEE hE HV hs hk a1 a2 ht
  go_enter Tryd.func3, Tryd.ntmps3
  go_wp2_with fail
  refine HF.out.mono ?_
  clear HF
  rintro e w1 ⟨rfl, hb1⟩
  have HB1 := Lib.hid hb1
  clear hb1
  go_wp2_with fail
  refine (HN1.out _).mono ?_
  clear HN1
  rintro e w1' ⟨rfl, rfl⟩
  go_upto_region 7 with fail
  rw [← HEE.out]
  clear HEE hm0 hm1
  have hal : Below w1.heap.size w1 (w1.alloc (.cells #[.slice o n cap, .int .i64 0] 27)) := (Below.refl _ _).alloc (Nat.le_refl _) _
  have HB2 := Lib.hid (HB1.out.trans (hal.mono HB1.out.size))
  have hv1 := (HVN.out.below HB1.out).below hal
  have hvq : l ≠ [] → (Value.slice o n cap).ownBlock ≠ some w1.heap.size := fun hne e => by
    have h1 := HVL.out hne _ e
    have h2 := HB1.out.size
    omega
  have HVQ := Lib.hid hvq
  have HR := Lib.hid (mkRecs w1.heap.size (.slice o n cap) l (w1.alloc (.cells #[.slice o n cap, .int .i64 0] 27)) 0 5 (heap_alloc_new w1 _) hv1 hvq (by have := HN.out; omega) (by omega) (by omega) (by omega) (by omega))
  have HSZ : Hid ((w1.alloc (.cells #[.slice o n cap, .int .i64 0] 27)).heap.size = w1.heap.size + 1) := Lib.hid (by simp)
  clear hal hv1 hvq
  go_wp2_with fail
  refine HR.out.mono ?_
  clear HR
  rintro e w3 ⟨L, o3, cap3, p3, rfl, ho3, hok3, hl3, hp3a, hp3b, hs3, he3⟩
  have hge : ∀ k, k = w1.heap.size → w.heap.size ≤ k := fun k h => by rw [h]; exact HB1.out.size
  have HB3 := Lib.hid (HB2.out.trans (he3.below (B := w.heap.size) hge HB2.out.size))
  have hQ : w.heap.size ≤ w1.heap.size := HB1.out.size
  rw [HSZ.out] at ho3
  generalize w1.heap.size = Q at hge hs3 he3 ho3 HVQ hQ ⊢
  have HMX := Lib.hid (makeX Q (.slice o n cap) l w3 p3 hs3 (HVN.out.below HB3.out) HVQ.out (by have := HN.out; omega) hp3a (by omega))
  have HO3 := Lib.hid ho3
  have HOK3 := Lib.hid hok3
  have hform := ho3.form
  obtain ⟨o3', cap3', hv3, hca, hcb, _, _⟩ := hform
  simp only [Value.slice.injEq] at hv3
  obtain ⟨rfl, hlx, rfl⟩ := hv3
  unfold maxLen at hcb
  obtain ⟨m, hm⟩ : ∃ m, m = L.length := ⟨_, rfl⟩
  rw [← hm] at hl3 hca HO3 ⊢
  have HM := Lib.hid hm
  have hge' : ∀ k, k = Q → w.heap.size ≤ k := fun k h => by rw [h]; exact hQ
  have HGE := Lib.hid hge'
  have HQL := Lib.hid hQ
  clear he3 hge hge' hok3 ho3 HB2 HB1 hlx hm hs3 hp3a hp3b HVN HVL HVQ HSZ hQ
  go_wp2_with fail
  refine HMX.out.mono ?_
  clear HMX
  rintro e w4 ⟨r, p4, rfl, hrw, hrok, _, _, _, he4⟩
  have HB4 := Lib.hid (HB3.out.trans (he4.below (B := w.heap.size) HGE.out HB3.out.size))
  have HO4 := Lib.hid (HO3.out.same (w' := w4) fun b e => he4.block b (HO3.out.lt e).2 (fun (h : b = Q) => by have := (HO3.out.lt e).1; omega))
  clear he4 HO3 HB3 HGE
  obtain ⟨W5, hW5⟩ : ∃ W, W = w4.alloc (.cells (recCs r) 31) := ⟨_, rfl⟩
  have hlaid := rec1_laidT r w4
  rw [← hW5] at hlaid
  have hb5 : Below w4.heap.size w4 W5 := by rw [hW5]; exact (Below.refl _ _).alloc (Nat.le_refl _) _
  have hrw5 : RW w4.heap.size (recCs r) W5 := by rw [hW5]; exact RW.new w4 _
  have HB5 := Lib.hid (HB4.out.trans (hb5.mono HB4.out.size))
  have hoa := (HO4.out.mono (base' := w.heap.size) (by have := HQL.out; omega)).below hb5
  obtain ⟨gb, cap6, w6, hrun, ho6, hg6, _, _, hca6, hcb6⟩ := hoa.append1 r hrw HB5.out.size (by have := HM.out; omega) w4.heap.size hrw5 1 28
  have HB6 := Lib.hid (hoa.grown hg6 HB5.out (Nat.le_refl _) HB5.out.size)
  have hall : (L ++ [r]).all okR = true := by
    rw [List.all_eq_true]; intro x hx
    rcases List.mem_append.1 hx with h | h
    · exact HOK3.out x h
    · rw [List.mem_singleton] at h; subst h; exact hrok
  have HALL := Lib.hid hall
  have hlen : (L ++ [r]).length = m + 1 := by rw [List.length_append, ← HM.out]; rfl
  rw [← HM.out] at hrun ho6 hca6
  unfold maxLen at hcb6
  obtain ⟨LL, hLL⟩ : ∃ LL, LL = L ++ [r] := ⟨_, rfl⟩
  rw [← hLL] at HALL hlen ho6
  have HBY := Lib.hid (blkBytes E _ LL w6 hE1 (by omega) ho6.gs (by omega) (by omega) _ _ (by rw [HB6.out.cell (Below.lt HE.out)]; exact HE.out))
  have HO6 := Lib.hid ho6
  have HLEN := Lib.hid hlen
  clear hW5 hb5 hrw5 hoa ho6 hg6 hall hlen hLL HB5 HO4 HB4 HOK3 hrok
  generalize recV r = rv at hlaid ⊢
  generalize w4.heap.size = A at hlaid hrun
  go_wp2_with (first | (refine wpList_bs_run _ rfl _ _ _ rfl _ (by kernel_rfl) _ _ hlaid ?_) | (at_builtin; refine Lib.wpList_append_run _ rfl _ _ _ _ rfl _ _ rfl rfl _ _ hrun ?_))
  refine HBY.out.mono ?_
  clear HBY
  rintro en w7 ⟨hb7, h7⟩
  have HB7 := Lib.hid (HB6.out.trans (hb7.mono HB6.out.size))
  have HO7 := Lib.hid (HO6.out.below hb7)
  rcases h7 with ⟨_, o7, c7, rfl, ho7⟩ | ⟨hno, _⟩
  · have hl7 := blkB_len E LL (by rw [HLEN.out]; omega)
    have hrow := ho7.row (ne_nil_of_lt (k := 0) (by omega))
    rw [hl7] at hrow
    obtain ⟨g7, cap7, hv7, hgb7, hgs7, hc7a, hc7b⟩ := hrow
    simp only [Value.slice.injEq] at hv7
    obtain ⟨rfl, _, rfl⟩ := hv7
    unfold maxLen at hc7b
    have hx := ho7.bs.1.get (l := blkB E LL) t
    have hxc := ho7.cell (i := t) (by omega)
    have hfr := ho7.frozen t
    obtain ⟨z, hz, hz0, hz1, hzx⟩ := xor_byte ((blkB E LL).getD t 0) by_ hx.1 hx.2 y0 y1
    obtain ⟨hn1, hn2, hn3⟩ := turned_no (e := E) (L := LL) (by rw [HLEN.out]; omega) (k := t) (by omega) (hzx yn)
    obtain ⟨W, hW⟩ : ∃ W, W = w7.setCell ⟨g7, t, none⟩ (.int .u8 z) := ⟨_, rfl⟩
    have hset := ho7.set t hz0 hz1
    rw [← hW] at hset
    have hbW : Below w6.heap.size w7 W := by rw [hW]; exact (Below.refl _ _).setCell (p := ⟨g7, t, none⟩) hgb7 _
    have HBW := Lib.hid (HB6.out.trans ((hb7.trans hbW).mono HB6.out.size))
    have HOW := Lib.hid (HO6.out.below (hb7.trans hbW)).gs
    have HSW := Lib.hid (HS.out.below HBW.out)
    have HRD := Lib.hid (blkReadAny _ _ W hset.bs HSW.out (some (ea 4)) 124 ((HBW.out.cell (Below.lt HK.out)).trans HK.out) hn1 hn2)
    have HBS := Lib.hid hset.bs
    have HN3 := Lib.hid hn3
    have HWW := Lib.hid hW
    clear hb7 ho7 hset hbW hn1 hn2 hn3 hzx hW HO6 HO7 HB7 hlaid hrun hgb7 hgs7 hl7
    generalize (blkB E LL).getD t 0 = xx at hx hxc hz
    go_wp2_with fail
    refine (HA.out _).mono ?_
    clear HA
    rintro e w8 ⟨rfl, rfl⟩
    go_upto_region 14 with fail
    rw [← HWW.out]
    clear hxc hfr HWW hx hz hz0 hz1
    go_wp2_with fail
    refine HRD.out.mono ?_
    clear HRD
    rintro en w9 ⟨h9, hb9⟩
    have HB9 := Lib.hid (HBW.out.trans (hb9.mono HBW.out.size))
    have HO9 := Lib.hid (HOW.out.below hb9)
    have HBS9 := Lib.hid (HBS.out.below hb9)
    clear hb9 HBS HOW
    rcases h9 with rfl | ⟨nn, M, o9, c9, rfl, ho9, hbb, k1, k2, k3, k4, k5⟩
    · go_wp2_with fail
      go_ret
      exact ⟨rfl, HB9.out⟩
    · have HG9 := Lib.hid ho9.gs
      have hby := blkBytes nn _ M w9 k1 k2 ho9.gs k3 k4 (some (ea 1)) 124 ((HB9.out.cell (Below.lt HE.out)).trans HE.out)
      have HBY := Lib.hid hby
      have HALM : Hid (M.all okR = true) := Lib.hid (List.all_eq_true.2 fun r hr => (k5 r hr).1)
      obtain ⟨_, _, hv9, hca9, hcb9, _, _⟩ := ho9.form
      simp only [Value.slice.injEq] at hv9
      obtain ⟨rfl, _, rfl⟩ := hv9
      unfold maxLen at hcb9
      have HNE : Hid (nn = E → M ≠ LL) := Lib.hid (fun h1 h2 => HN3.out (by rw [← hbb, h1, h2]))
      rw [← hbb] at HBS9
      clear ho9 hby k5 hbb HN3
      obtain ⟨ml, hml⟩ : ∃ n, n = M.length := ⟨_, rfl⟩
      rw [← hml] at hca9 k3 k4 HG9 HBY ⊢
      have HML := Lib.hid hml
      clear hml
      go_wp2_with fail
      refine HBY.out.mono ?_
      clear HBY
      rintro en x1 ⟨hb1, h1⟩
      have HX1 := Lib.hid (HB9.out.trans (hb1.mono HB9.out.size))
      have HG1 := Lib.hid (HG9.out.below hb1)
      have HO1 := Lib.hid (HO9.out.below hb1)
      have HS1 := Lib.hid (HBS9.out.below hb1)
      rcases h1 with ⟨_, ox, cx, rfl, hox⟩ | ⟨hno, _⟩
      · have hsm : ∀ W', Below x1.heap.size x1 W' → Calls Tryd.prog 17 #[.slice (some ⟨g7, 0, none⟩) 256 c7, .slice ox 256 cx] W' fun e w' => e = .returned (.bool true) ∧ ∃ d, w' = W'.drewN d := fun W' hb => (sameBytes _ _ _ _ W' (HS1.out.below hb) (hox.bs.below hb)).mono (by rintro e w' ⟨rfl, d, hd⟩; exact ⟨by rw [sameB_iff.2 rfl], d, hd⟩)
        have HSM := Lib.hid hsm
        clear hsm hb1 hox HG9 HO9 HBS9 HB9
        by_cases hne : nn = E
        · subst hne
          have hsr : Calls Tryd.prog 16 #[.slice o9 ml c9, .slice (some ⟨gb, 0, none⟩) (m + 1) cap6] x1 fun e w' => e = .returned (.bool false) ∧ Below x1.heap.size x1 w' := (sameRecs _ _ M LL x1 HG1.out HO1.out).mono (by rintro e w' ⟨rfl, hb⟩; exact ⟨by rw [decide_eq_false (HNE.out rfl)], hb⟩)
          have HSR := Lib.hid hsr
          clear hsr
          go_wp2_with fail
          refine HSR.out.mono ?_
          clear HSR
          rintro en x2 ⟨rfl, hb2⟩
          have HX2 := Lib.hid hb2
          clear hb2
          go_wp2_with fail
          refine (HSM.out _ HX2.out).mono ?_
          clear HSM
          rintro en x3 ⟨rfl, d, rfl⟩
          go_wp2_with fail
          go_ret
          exact ⟨rfl, (HX1.out.trans (HX2.out.mono HX1.out.size)).trans (bdrew _ _ d)⟩
        · go_wp2_with fail
          refine (HSM.out _ (Below.refl _ _)).mono ?_
          clear HSM
          rintro en x3 ⟨rfl, d, rfl⟩
          go_wp2_with fail
          go_ret
          exact ⟨rfl, HX1.out.trans (bdrew _ _ d)⟩
      · exact absurd hno (by rw [HALM.out]; decide)
  · exact absurd hno (by rw [HALL.out]; decide)

theorem blockTurned_by (epoch : Int) (v : Value) (l : List Int) (at_ : Int) (w : World) (p : Option Addr) (T : TypeId) (hE : w.cell? ⟨0, 0, none⟩ = some (.iface T (.pointer p))) (hv : Ns .i64 w v l) (hl : (l.length : Int) ≤ 150) :
    Calls Tryd.prog 3 #[.int .i64 epoch, v, .int .i64 at_, .int .u8 0] w fun e w' => e = .returned (.bool true) ∧ Below w.heap.size w w' := by
  obtain ⟨_, o, cap, rfl, hc1, hc2, hc3, _⟩ := hv
  unfold maxLen at hc2
  have HF := Lib.hid (blkFirst w p T hE)
  clear hE
  generalize l.length = n at *
  go_enter Tryd.func3, Tryd.ntmps3
  go_wp2_with fail
  refine HF.out.mono ?_
  rintro e w1 ⟨rfl, hb1⟩
  have HB1 := Lib.hid hb1
  clear hb1
  go_wp2_with fail
  go_ret
  exact ⟨rfl, HB1.out⟩

theorem blockTurned_walk {ea : Nat → Addr} (epoch : Int) (v : Value) (l : List Int) (at_ by_ : Int) (b1 : -9223372036854775808 ≤ epoch) (b2 : epoch ≤ 9223372036854775807) (a1 : -9223372036854775808 ≤ at_) (a2 : at_ ≤ 9223372036854775807) (y0 : 0 ≤ by_) (y1 : by_ ≤ 255) (w : World) (hs : E3 ea w) (hk : w.cell? ⟨2, 0, none⟩ = some (.iface 124 (.pointer (some (ea 4))))) (hv : Ns .i64 w v l) :
    Calls Tryd.prog 3 #[.int .i64 epoch, v, .int .i64 at_, .int .u8 by_] w fun e w' => e = .returned (.bool true) ∧ Below w.heap.size w w' := by
  by_cases hl : (l.length : Int) ≤ 150
  · by_cases yn : by_ = 0
    · subst yn
      exact blockTurned_by epoch v l at_ w (some (ea 1)) _ hs.r hv hl
    · exact blockTurned_walk0 epoch v l at_ by_ b1 b2 a1 a2 y0 y1 yn w hs hk hv hl
  · exact blockTurned_idle epoch v l at_ by_ w (some (ea 1)) _ hs.r hv (by omega)
end Go.Proofs.YtoikdhfihkbcbaaDoor
