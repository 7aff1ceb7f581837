/- The walk of the law BlockSays. -/
import Derived.Test.YtpgelebmhhcodaaDoorBrS
import Derived.Test.YtpgelebmhhcodaaDoorMkRecs
import Derived.Test.YtpgelebmhhcodaaDoorSameRs
import Derived.Test.YtpgelebmhhcodaaDoorXor
import Derived.Test.YtpgelebmhhcodaaDoorByteT
import Derived.BigQuiet
import Derived.IntWalk
import Derived.Deep.Cut
namespace Go.Proofs.YtpgelebmhhcodaaDoor
open Go.RowKit
set_option linter.unusedVariables false

theorem rec1_laidS (r : RecD) (w : World) : (Instr.buildSlice 30 1 #[(0, recV r)]).run Tryd.prog w = .ok (.slice (some ⟨w.heap.size, 0, none⟩) 1 1) (w.alloc (.cells (recCs r) 24)) := by kernel_rfl
def bbL (e : Int) (L : List RecD) : List Int := if bbOk e L = true then blkB e L else []
def bbC (e : Int) (L : List RecD) : Int := if bbOk e L = true then 0 else 102
theorem bbL_len {e : Int} {L : List RecD} : (bbL e L).length ≤ 256 := by
  unfold bbL
  split
  · rename_i h
    have h6 : L.length ≤ 6 := by
      unfold bbOk inB at h
      simp only [Bool.and_eq_true, decide_eq_true_eq] at h
      omega
    exact Nat.le_of_eq (blkB_len e L h6)
  · simp
theorem bbC_ok (e : Int) (L : List RecD) : OkC (bbC e L) := by
  unfold bbC OkC
  split
  · exact .inl rfl
  · exact .inr ⟨by omega, by omega⟩
theorem blkBytesU {ea : Nat → Addr} (e : Int) (v : Value) (L : List RecD) (w : World) (he1 : -9223372036854775808 ≤ e) (he2 : e ≤ 9223372036854775807) (hs : Sen ea w) (hv : Gs w v L) :
    Calls Tryd.prog 7 #[.int .i64 e, v] w fun en w' => Below w.heap.size w w' ∧ ∃ o n c, en = .returned (.tuple #[.slice o n c, eC ea (bbC e L)]) ∧ n = (bbL e L).length ∧ Bs w' (.slice o n c) (bbL e L) := by
  refine (blkBytesAll e v L w he1 he2 hs hv).mono ?_
  rintro en w' ⟨hb, ⟨h, o, c, rfl, ho⟩ | ⟨h, rfl⟩⟩
  · have h6 : L.length ≤ 6 := by
      unfold bbOk inB at h
      simp only [Bool.and_eq_true, decide_eq_true_eq] at h
      omega
    unfold bbL bbC
    rw [if_pos h, if_pos h]
    exact ⟨hb, o, 256, c, rfl, (blkB_len e L h6).symm, ho.bs⟩
  · unfold bbL bbC
    rw [if_neg (by rw [h]; simp), if_neg (by rw [h]; simp)]
    exact ⟨hb, none, 0, 0, rfl, rfl, Bs.nil _⟩
theorem bbRefU (e : Int) (v : Value) (L : List RecD) (w : World) (he1 : -9223372036854775808 ≤ e) (he2 : e ≤ 9223372036854775807) (hv : Gs w v L) :
    Calls Tryd.prog 8 #[.int .i64 e, v] w fun en w' => Below w.heap.size w w' ∧ ∃ o n c, en = .returned (.tuple #[.slice o n c, .int .i64 (bbC e L)]) ∧ n = (bbL e L).length ∧ Bs w' (.slice o n c) (bbL e L) := by
  refine (bbRef e v L w he1 he2 hv).mono ?_
  rintro en w' ⟨hb, ⟨h, o, c, rfl, ho⟩ | ⟨h, rfl⟩⟩
  · have h6 : L.length ≤ 6 := by
      unfold bbOk inB at h
      simp only [Bool.and_eq_true, decide_eq_true_eq] at h
      omega
    unfold bbL bbC
    rw [if_pos h, if_pos h]
    exact ⟨hb, o, 256, c, rfl, (blkB_len e L h6).symm, ho.bs⟩
  · unfold bbL bbC
    rw [if_neg (by rw [h]; simp), if_neg (by rw [h]; simp)]
    exact ⟨hb, none, 0, 0, rfl, rfl, Bs.nil _⟩
set_option maxRecDepth 20000 in
set_option maxHeartbeats 4000000 in
theorem blockSays_walk0 {ea : Nat → Addr} (epoch : Int) (v : Value) (l : List Int) (r : RecD) (u : Value) (b : List Int) (at_ by_ : Int) (b1 : -9223372036854775808 ≤ epoch) (b2 : epoch ≤ 9223372036854775807) (a1 : -9223372036854775808 ≤ at_) (a2 : at_ ≤ 9223372036854775807) (y0 : 0 ≤ by_) (y1 : by_ ≤ 255) (w : World) (hs : Sen ea w) (hv : Ns .i64 w v l) (hu : Bs w u b) (hrw : r.W) (hl : (l.length : Int) ≤ 150) (hbl : (b.length : Int) ≤ 300) :
    Calls Tryd.prog 3 #[.int .i64 epoch, v, recV r, u, .int .i64 at_, .int .u8 by_] w fun e w' => e = .returned (.bool true) ∧ Below w.heap.size w w' := by
  obtain ⟨W0, hW0⟩ : ∃ W0, W0 = w.alloc (.cells (recCs r) 24) := ⟨_, rfl⟩
  have hb0 : Below w.heap.size w W0 := by rw [hW0]; exact (Below.refl _ _).alloc (Nat.le_refl _) _
  have HB0 := Lib.hid hb0
  have HR0 : Hid (RW w.heap.size (recCs r) W0) := Lib.hid (by rw [hW0]; exact RW.new w _)
  have HW0 := Lib.hid hW0
  have HS := Lib.hid (hs.below hb0)
  have HV := Lib.hid (hv.below hb0)
  have HU := Lib.hid (hu.below hb0)
  have HF := Lib.hid (blkFirst W0 _ _ (hs.below hb0).rng)
  obtain ⟨_, o, cap, rfl, hc1, hc2, hc3, hcell⟩ := hv
  have HVL : Hid (l ≠ [] → ∀ b, (Value.slice o l.length cap).ownBlock = some b → b < W0.heap.size) := Lib.hid (fun hne b e => by
    obtain ⟨a, rfl, hc⟩ := hcell hne
    have h := Below.lt (hc 0 (List.length_pos_iff.2 hne))
    have e1 : (a.add 0).block = a.block := by unfold Addr.add; split <;> rfl
    rw [e1] at h
    have e2 : a.block = b := by simpa [Value.ownBlock] using e
    have := hb0.size
    omega)
  obtain ⟨_, ou, cu, rfl, hcu1, hcu2, _, _⟩ := hu
  unfold maxLen at hc2 hcu2
  obtain ⟨n, hn⟩ : ∃ n, n = l.length := ⟨_, rfl⟩
  obtain ⟨nb, hnb⟩ : ∃ n, n = b.length := ⟨_, rfl⟩
  rw [← hn] at hc1 hl HVL HV ⊢
  rw [← hnb] at hcu1 hbl HU ⊢
  have HN := Lib.hid hn
  have HNB := Lib.hid hnb
  have HA := Lib.hid (fun W => number at_ 256 W (by omega) (by omega) a1 a2)
  obtain ⟨t, ht⟩ : ∃ t : Nat, at_ % 256 = t := ⟨(at_ % 256).toNat, by omega⟩
  have ht256 : t < 256 := by omega
  rw [ht] at HA
  have HRW := Lib.hid hrw
  have HRV : Hid (recV r = recV r) := Lib.hid rfl
  clear hn hnb hcell hc3 hs hW0 hb0 ht a1 a2 hrw
  obtain ⟨rr, hrr⟩ : ∃ rr, rr = r := ⟨_, rfl⟩
  have HRR := Lib.hid hrr
  rw [← hrr] at HR0 HRW HRV
  obtain ⟨k0, k1, k2, k3, k4, k5, k6, k7, k8, k9⟩ := r
  dsimp only [recV, recCs] at HW0 ⊢
  clear hrr
  go_enter Tryd.func3, Tryd.ntmps3
  go_upto_region 1 with fail
  rw [← HW0.out]
  generalize hBX : w.heap.size = BX at HR0 ⊢
  have HBX := Lib.hid hBX
  clear HW0 hBX
  go_wp2_with fail
  refine HF.out.mono ?_
  clear HF
  rintro e w1 ⟨rfl, hb1⟩
  have HB1 := Lib.hid hb1
  clear hb1
  go_upto_region 7 with fail
  have hal : Below w1.heap.size w1 (w1.alloc (.cells #[.slice o n cap, .int .i64 0] 29)) := (Below.refl _ _).alloc (Nat.le_refl _) _
  have HB2 := Lib.hid (HB1.out.trans (hal.mono HB1.out.size))
  have hv1 := (HV.out.below HB1.out).below hal
  have hvq : l ≠ [] → (Value.slice o n cap).ownBlock ≠ some w1.heap.size := fun hne e => by
    have h1 := HVL.out hne _ e
    have h2 := HB1.out.size
    omega
  have HVQ := Lib.hid hvq
  have HR := Lib.hid (mkRecs w1.heap.size (.slice o n cap) l (w1.alloc (.cells #[.slice o n cap, .int .i64 0] 29)) 0 8 (heap_alloc_new w1 _) hv1 hvq (by have := HN.out; omega) (by omega) (by omega) (by omega) (by omega))
  have HSZ : Hid ((w1.alloc (.cells #[.slice o n cap, .int .i64 0] 29)).heap.size = w1.heap.size + 1) := Lib.hid (by simp)
  clear hal hv1 hvq
  go_wp2_with fail
  refine HR.out.mono ?_
  clear HR
  rintro e w3 ⟨L, o3, cap3, p3, rfl, ho3, hok3, hl3, hp3a, hp3b, hs3, he3⟩
  have hQ : W0.heap.size ≤ w1.heap.size := HB1.out.size
  rw [HSZ.out] at ho3
  have hge : ∀ k, k = w1.heap.size → W0.heap.size ≤ k := fun k h => by rw [h]; exact hQ
  have HB3 := Lib.hid (HB2.out.trans (he3.below (B := W0.heap.size) hge HB2.out.size))
  generalize w1.heap.size = Q at hge hs3 he3 ho3 HVQ hQ ⊢
  have HGE := Lib.hid hge
  have HQL := Lib.hid hQ
  have HNX := Lib.hid (seqNextX Q l (.slice o n cap) p3 5 w3 w3 hs3 (Ext.refl _ _) (HV.out.below HB3.out) HVQ.out hp3a (by omega) (by have := HN.out; omega) (by omega) (by omega))
  obtain ⟨m, hm⟩ : ∃ m, m = L.length := ⟨_, rfl⟩
  rw [← hm] at hl3 hp3b ho3 ⊢
  have HM := Lib.hid hm
  have HO3 := Lib.hid ho3
  clear he3 hge hok3 ho3 HB2 HB1 hm hs3 HSZ hQ
  go_wp2_with fail
  refine HNX.out.mono ?_
  clear HNX
  rintro e w4 ⟨⟨x, rfl, hx0, hx1⟩, hs4, _, _, he4⟩
  have HB4 := Lib.hid (HB3.out.trans (he4.below (B := W0.heap.size) HGE.out HB3.out.size))
  have HO4 := Lib.hid (HO3.out.same (w' := w4) fun b e => he4.block b (HO3.out.lt e).2 (fun (h : b = Q) => by have := (HO3.out.lt e).1; omega))
  have HS4 := Lib.hid hs4
  clear he4 hs4 HO3 HB3
  go_upto_if 51 with fail
  go_cut [15] from 51 to 55 (fun s15 W => ∃ (o5 : Option Addr) (m5 c5 : Nat) (LL : List RecD), s15 = .slice o5 m5 c5 ∧ m5 ≤ 9 ∧ Hid (LL.length = m5) ∧ Hid (Og (Q + 1) W (.slice o5 m5 c5) LL) ∧ Hid (Below W0.heap.size W0 W) ∧ Hid (SeqAt W Q (.slice o n cap) (p3 + 1)))
  case first =>
    by_cases hx : x = 0
    · subst hx
      have hcel := HR0.out.below HB4.out
      rw [HRR.out] at hcel
      dsimp only [recCs] at hcel
      obtain ⟨f0, f1, f2, f3, f4, f5, f6, f7, f8, f9⟩ := hcel.cells
      obtain ⟨W5, hW5⟩ : ∃ W, W = w4.alloc (.cells (recCs rr) 24) := ⟨_, rfl⟩
      have hlaid := rec1_laidS rr w4
      rw [← hW5] at hlaid
      have hb5 : Below w4.heap.size w4 W5 := by rw [hW5]; exact (Below.refl _ _).alloc (Nat.le_refl _) _
      have hrw5 : RW w4.heap.size (recCs rr) W5 := by rw [hW5]; exact RW.new w4 _
      have HB5 := Lib.hid (HB4.out.trans (hb5.mono HB4.out.size))
      have hoa := HO4.out.below hb5
      have hQ4 : Q < w4.heap.size := (Array.getElem?_eq_some_iff.1 HS4.out).1
      obtain ⟨gb, cap6, w6, hrun, ho6, hg6, _, _, hca6, hcb6⟩ := hoa.append1 rr HRW.out (Nat.le_trans hQ4 hb5.size) (by have := HM.out; omega) w4.heap.size hrw5 1 30
      have HB6 := Lib.hid (hoa.grown hg6 HB5.out (by have := HQL.out; omega) HB5.out.size)
      have HS6 : Hid (SeqAt w6 Q (.slice o n cap) (p3 + 1)) := Lib.hid (by
        have h1 := hb5.block Q hQ4
        have h2 := hg6.block Q (Nat.lt_of_lt_of_le hQ4 hb5.size) (fun e => by have := (hoa.lt e.symm).1; omega)
        exact h2.trans (h1.trans HS4.out))
      rw [← HM.out] at hrun ho6
      have HO6 := Lib.hid ho6
      have HL6 : Hid ((L ++ [rr]).length = m + 1) := Lib.hid (by rw [List.length_append, ← HM.out]; rfl)
      rw [HRR.out] at hlaid
      dsimp only [recV] at hlaid
      clear hcel hW5 hb5 hrw5 hoa ho6 hg6 HB5 HO4 HB4 HS4 hQ4
      go_wp2_with (first | (refine wpList_bs_run _ rfl _ _ _ rfl _ (by kernel_rfl) _ _ hlaid ?_) | (at_builtin; refine Lib.wpList_append_run _ rfl _ _ _ _ rfl _ _ rfl rfl _ _ hrun ?_))
      go_meet
      exact ⟨_, m + 1, cap6, L ++ [rr], rfl, by omega, HL6, HO6, HB6, HS6⟩
    · have hxe : (x == 0) = false := by simp [hx]
      go_wp2_with fail
      go_meet
      exact ⟨o3, m, cap3, L, rfl, by omega, Lib.hid HM.out.symm, HO4, HB4, HS4⟩
  case rest =>
    obtain ⟨o5, m5, c5, LL, rfl, hm5, HLL, HO5, HB5, HS5⟩ := hcut
    clear HO4 HB4 HS4 HM HR0 HRW HRV HRR
    have HNX := Lib.hid (seqNextX Q l (.slice o n cap) (p3 + 1) 4 _ _ HS5.out (Ext.refl _ _) (HV.out.below HB5.out) HVQ.out (by omega) (by omega) (by have := HN.out; omega) (by omega) (by omega))
    go_wp2_with fail
    refine HNX.out.mono ?_
    clear HNX
    rintro e w6 ⟨⟨x4, rfl, hx40, hx41⟩, hs6, _, _, he6⟩
    have HB6 := Lib.hid (HB5.out.trans (he6.below (B := W0.heap.size) HGE.out HB5.out.size))
    have HO6 := Lib.hid (HO5.out.same (w' := w6) fun b e => he6.block b (HO5.out.lt e).2 (fun (h : b = Q) => by have := (HO5.out.lt e).1; omega))
    have HS6 := Lib.hid hs6
    clear he6 hs6 HO5 HB5 HS5
    go_upto_if 59 with fail
    go_cut [16] from 59 to 62 (fun s16 W => ∃ E : Int, s16 = .int .i64 E ∧ -9223372036854775808 ≤ E ∧ E ≤ 9223372036854775807 ∧ Hid (Og (Q + 1) W (.slice o5 m5 c5) LL) ∧ Hid (Below W0.heap.size W0 W))
    case first =>
      by_cases hx4 : 0 < x4
      · have HNX := Lib.hid (seqNextX Q l (.slice o n cap) (p3 + 1 + 1) 50 w6 w6 HS6.out (Ext.refl _ _) (HV.out.below HB6.out) HVQ.out (by omega) (by omega) (by have := HN.out; omega) (by omega) (by omega))
        go_wp2_with fail
        refine HNX.out.mono ?_
        clear HNX
        rintro e w7 ⟨⟨x5, rfl, hx50, hx51⟩, _, _, _, he7⟩
        have HB7 := Lib.hid (HB6.out.trans (he7.below (B := W0.heap.size) HGE.out HB6.out.size))
        have HO7 := Lib.hid (HO6.out.same (w' := w7) fun b e => he7.block b (HO6.out.lt e).2 (fun (h : b = Q) => by have := (HO6.out.lt e).1; omega))
        clear he7
        go_wp2_with fail
        go_meet
        exact ⟨1 + x5, by go_num, by omega, by omega, HO7, HB7⟩
      · go_wp2_with fail
        go_meet
        exact ⟨epoch, rfl, by omega, by omega, HO6, HB6⟩
    case rest =>
      obtain ⟨E, rfl, hE1, hE2, HO7, HB7⟩ := hcut
      clear HO6 HB6 HS6 hx40 hx41
      have HBY := Lib.hid (blkBytesU E _ LL _ hE1 hE2 (HS.out.below HB7.out) HO7.out.gs)
      go_wp2_with fail
      refine HBY.out.mono ?_
      clear HBY
      rintro en w8 ⟨hb8, ox, nx, cx, rfl, hnx, hx8⟩
      have HB8 := Lib.hid (HB7.out.trans (hb8.mono HB7.out.size))
      have HBZ := Lib.hid (bbRefU E _ LL w8 hE1 hE2 (HO7.out.gs.below hb8))
      have HX8 := Lib.hid hx8
      clear hb8 hx8 hnx HO7 HB7
      go_wp2_with fail
      refine HBZ.out.mono ?_
      clear HBZ
      rintro en w9 ⟨hb9, oy, ny, cy, rfl, hny, hy9⟩
      have HB9 := Lib.hid (HB8.out.trans (hb9.mono HB8.out.size))
      have HSB := Lib.hid (sameBytes _ _ _ _ w9 (HX8.out.below hb9) hy9)
      have HY9 := Lib.hid hy9
      have hny2 : ny ≤ 256 := by rw [hny]; exact bbL_len
      have HNY := Lib.hid hny
      have HIS := Lib.hid (fun W (hb : Below W0.heap.size W0 W) => isC W (HS.out.below hb) (bbC E LL) (bbC_ok E LL) (bbC E LL))
      rw [sameB_iff.2 rfl] at HSB
      generalize bbC E LL = CC at HIS ⊢
      have hcc : (CC == CC) = true := by simp
      rw [hcc] at HIS
      generalize bbL E LL = yl at HY9 HNY
      clear hb9 hy9 hny HB8 HX8 hcc
      go_wp2_with fail
      refine HSB.out.mono ?_
      clear HSB
      rintro en w10 ⟨rfl, nd, rfl⟩
      have HB10 := Lib.hid (HB9.out.trans (bdrew _ _ nd))
      have HY10 := Lib.hid (HY9.out.below (bdrew w9.heap.size _ nd))
      clear HB9 HY9
      go_wp2_with fail
      refine (HIS.out _ HB10.out).mono ?_
      clear HIS
      rintro en w11 ⟨rfl, hb11⟩
      have HB11 := Lib.hid (HB10.out.trans (hb11.mono HB10.out.size))
      have HY11 := Lib.hid (HY10.out.below hb11)
      have HFB := Lib.hid (fillRef _ b 256 w11 (HU.out.below HB11.out) (by have := HNB.out; omega) (by omega) (by omega))
      clear hb11 HB10 HY10
      go_wp2_with fail
      refine HFB.out.mono ?_
      clear HFB
      rintro en w12 ⟨vc, rfl, hb12, hoc⟩
      obtain ⟨_, oc, cc, rfl, _, hcc2, _, _⟩ := id hoc.bs
      obtain ⟨nc, hnc⟩ : ∃ nc, nc = (fillL b 256).length := ⟨_, rfl⟩
      rw [← hnc] at hoc ⊢
      clear hnc hcc2
      have HB12 := Lib.hid (HB11.out.trans (hb12.mono HB11.out.size))
      have HY12 := Lib.hid (HY11.out.below hb12)
      have HC12 := Lib.hid hoc.bs
      have HFD := Lib.hid (fillRef _ yl 256 w12 HY12.out (by have := HNY.out; omega) (by omega) (by omega))
      clear hb12 hoc HB11 HY11
      go_wp2_with fail
      refine HFD.out.mono ?_
      clear HFD
      rintro en w13 ⟨vd, rfl, hb13, hod⟩
      have hl13 : (fillL yl 256).length = 256 := by
        have h1 := fillL_length yl 256
        have h2 := HNY.out
        omega
      obtain ⟨g7, cap7, rfl, hgb7, hgs7, hc7a, hc7b⟩ := hod.row (ne_nil_of_lt (k := 0) (by omega))
      rw [hl13] at hod hc7a ⊢
      unfold maxLen at hc7b
      have hx := hod.bs.1.get (l := fillL yl 256) t
      have hxc := hod.cell (i := t) (by omega)
      have hfr := hod.frozen t
      obtain ⟨z, hz, hz0, hz1, _⟩ := xor_byte ((fillL yl 256).getD t 0) by_ hx.1 hx.2 y0 y1
      obtain ⟨W, hW⟩ : ∃ W, W = w13.setCell ⟨g7, t, none⟩ (.int .u8 z) := ⟨_, rfl⟩
      have hset := hod.set t hz0 hz1
      rw [← hW] at hset
      have hbW : Below w12.heap.size w12 W := by rw [hW]; exact hb13.setCell (p := ⟨g7, t, none⟩) hgb7 _
      have HBW := Lib.hid (HB12.out.trans (hbW.mono HB12.out.size))
      have HYW := Lib.hid (HY12.out.below hbW)
      have HCW := Lib.hid (HC12.out.below hbW)
      have HDW := Lib.hid hset.bs
      have HUW := Lib.hid (HU.out.below HBW.out)
      have HWW := Lib.hid hW
      generalize (fillL yl 256).getD t 0 = xx at hx hxc hz
      have htI : (t : Int) < 256 := by omega
      clear hb13 hod hset hbW hW HB12 HY12 HC12 hgb7 hgs7
      go_wp2_with fail
      refine (HA.out _).mono ?_
      clear HA
      rintro en w14 ⟨rfl, rfl⟩
      go_upto_region 21 with fail
      rw [← HWW.out]
      clear hxc hfr HWW hx hz hz0 hz1
      have hal : Below W.heap.size W (W.alloc (.cells #[.slice ou nb cu, .slice oc nc cc, .slice (some ⟨g7, 0, none⟩) 256 cap7, .slice oy ny cy] 25)) := (Below.refl _ _).alloc (Nat.le_refl _) _
      have hnew := heap_alloc_new W (.cells #[.slice ou nb cu, .slice oc nc cc, .slice (some ⟨g7, 0, none⟩) 256 cap7, .slice oy ny cy] 25)
      have HALL : Hid (∀ i : Nat, i < 4 → ∃ vi li, (W.alloc (.cells #[.slice ou nb cu, .slice oc nc cc, .slice (some ⟨g7, 0, none⟩) 256 cap7, .slice oy ny cy] 25)).cell? ⟨W.heap.size, i, none⟩ = some vi ∧ Bs (W.alloc (.cells #[.slice ou nb cu, .slice oc nc cc, .slice (some ⟨g7, 0, none⟩) 256 cap7, .slice oy ny cy] 25)) vi li) := Lib.hid (fun i hi => by
        have h4 : i = 0 ∨ i = 1 ∨ i = 2 ∨ i = 3 := by omega
        rcases h4 with rfl | rfl | rfl | rfl
        · exact ⟨_, _, by rw [cell_of_row _ _ _ _ _ (0, 0) hnew]; rfl, HUW.out.below hal⟩
        · exact ⟨_, _, by rw [cell_of_row _ _ _ _ _ (0, 0) hnew]; rfl, HCW.out.below hal⟩
        · exact ⟨_, _, by rw [cell_of_row _ _ _ _ _ (0, 0) hnew]; rfl, HDW.out.below hal⟩
        · exact ⟨_, _, by rw [cell_of_row _ _ _ _ _ (0, 0) hnew]; rfl, HYW.out.below hal⟩)
      have HBA := Lib.hid (HBW.out.trans (hal.mono HBW.out.size))
      clear hal hnew HUW HCW HDW HYW HBW
      go_upto_region 22 with fail
      generalize (W.alloc (.cells #[.slice ou nb cu, .slice oc nc cc, .slice (some ⟨g7, 0, none⟩) 256 cap7, .slice oy ny cy] 25)) = WA at *
      generalize W.heap.size = A at *
      go_wp2_with fail
      go_loopw [25] (fun s25 wr => ∃ i : Nat, s25 = .int .i64 i ∧ i ≤ 4 ∧ Hid (Below WA.heap.size WA wr)) (fun s25 _ => 4 - (intOf s25).toNat)
      case atStart => exact ⟨0, rfl, by omega, Lib.hid (Below.refl _ _)⟩
      case round =>
        obtain ⟨i, rfl, hi, HBR⟩ := hrel
        by_cases hi4 : (i : Int) < 4
        · obtain ⟨vi, li, hcel, hbs⟩ := HALL.out i (by omega)
          have d0 := (HBR.out.cell (Below.lt hcel)).trans hcel
          have HBS := Lib.hid (hbs.below HBR.out)
          have HBR0 := Lib.hid (HBA.out.trans (HBR.out.mono HBA.out.size))
          have HRD := Lib.hid (blkReadAll vi li wr HBS.out (HS.out.below HBR0.out))
          have HRE := Lib.hid (fun W2 (hb : Below wr.heap.size wr W2) => rbRef vi li W2 (HBS.out.below hb))
          have HIS := Lib.hid (fun W2 (hb : Below W0.heap.size W0 W2) => isC W2 (HS.out.below hb) (readBlk li).2.2 (readBlk_code li) (readBlk li).2.2)
          have HSR := Lib.hid (fun W2 (m p : Value) (h1 : Gs W2 m (readBlk li).2.1) (h2 : Gs W2 p (readBlk li).2.1) => sameRecs m p _ _ W2 h1 h2)
          unfold RRPost at HRE
          generalize readBlk li = RB at HRD HRE HIS HSR
          obtain ⟨R1, R2, R3⟩ := RB
          dsimp only at HRD HRE HIS HSR
          have hcc : (R3 == R3) = true := by simp
          rw [hcc] at HIS
          have hdd : decide (R2 = R2) = true := by simp
          rw [hdd] at HSR
          have KC : Hid (∀ W2, Below wr.heap.size wr W2 → W2.cell? ⟨A, i, none⟩ = some vi) := Lib.hid (fun W2 hb => (hb.cell (Below.lt d0)).trans d0)
          clear hcel hbs hcc hdd
          go_wp2_with fail
          refine HRD.out.mono ?_
          clear HRD
          rintro en x1 ⟨hb1, m1, rfl, hg1⟩
          have HX1 := Lib.hid hb1
          have HG1 := Lib.hid hg1
          have d1 := KC.out x1 hb1
          clear hb1 hg1 d0
          go_wp2_with fail
          refine (HRE.out x1 HX1.out).mono ?_
          clear HRE
          rintro en x2 ⟨hb2, m2, rfl, hg2⟩
          have HX2 := Lib.hid (HX1.out.trans (hb2.mono HX1.out.size))
          have HSR2 := Lib.hid (HSR.out x2 m1 m2 (HG1.out.below hb2) hg2)
          clear hb2 hg2 HSR KC d1
          go_wp2_with fail
          refine HSR2.out.mono ?_
          clear HSR2
          rintro en x3 ⟨rfl, hb3⟩
          have HX3 := Lib.hid (HX2.out.trans (hb3.mono HX2.out.size))
          have HIS3 := Lib.hid (HIS.out x3 (HBR0.out.trans (HX3.out.mono HBR0.out.size)))
          clear hb3 HIS
          go_wp2_with fail
          refine HIS3.out.mono ?_
          clear HIS3
          rintro en x4 ⟨rfl, hb4⟩
          have HX4 := Lib.hid (HBR.out.trans ((HX3.out.trans (hb4.mono HX3.out.size)).mono HBR.out.size))
          clear hb4
          go_wp2_with fail
          go_roundw
          case rel => exact ⟨i + 1, by go_num, by omega, HX4⟩
          case measure => simp [intOf]; omega
        · obtain rfl : i = 4 := by omega
          have HEND := Lib.hid (HB0.out.trans ((HBA.out.trans (HBR.out.mono HBA.out.size)).mono HB0.out.size))
          go_wp2_with fail
          go_ret
          exact ⟨rfl, HEND.out⟩
theorem blockSays_idle {ea : Nat → Addr} (epoch : Int) (v : Value) (l : List Int) (r : RecD) (u : Value) (b : List Int) (at_ by_ : Int) (w : World) (hs : Sen ea w) (hv : Ns .i64 w v l) (hu : Bs w u b) (hbig : (150 : Int) < l.length ∨ (300 : Int) < b.length) :
    Calls Tryd.prog 3 #[.int .i64 epoch, v, recV r, u, .int .i64 at_, .int .u8 by_] w fun e w' => e = .returned (.bool true) ∧ Below w.heap.size w w' := by
  obtain ⟨W0, hW0⟩ : ∃ W0, W0 = w.alloc (.cells (recCs r) 24) := ⟨_, rfl⟩
  have hb0 : Below w.heap.size w W0 := by rw [hW0]; exact (Below.refl _ _).alloc (Nat.le_refl _) _
  have HB0 := Lib.hid hb0
  have HW0 := Lib.hid hW0
  have HF := Lib.hid (blkFirst W0 _ _ (hs.below hb0).rng)
  obtain ⟨_, o, cap, rfl, hc1, hc2, _, _⟩ := hv
  obtain ⟨_, ou, cu, rfl, hcu1, hcu2, _, _⟩ := hu
  unfold maxLen at hc2 hcu2
  generalize l.length = n at *
  generalize b.length = nb at *
  clear hs hW0 hb0
  obtain ⟨k0, k1, k2, k3, k4, k5, k6, k7, k8, k9⟩ := r
  dsimp only [recV, recCs] at HW0 ⊢
  by_cases hn : (150 : Int) < n
  · clear hbig
    go_enter Tryd.func3, Tryd.ntmps3
    go_upto_region 1 with fail
    rw [← HW0.out]
    clear HW0
    go_wp2_with fail
    refine HF.out.mono ?_
    clear HF
    rintro e w1 ⟨rfl, hb1⟩
    have HB1 := Lib.hid (HB0.out.trans (hb1.mono HB0.out.size))
    clear hb1
    go_wp2_with fail
    go_ret
    exact ⟨rfl, HB1.out⟩
  · have hnb : (300 : Int) < nb := by omega
    clear hbig
    go_enter Tryd.func3, Tryd.ntmps3
    go_upto_region 1 with fail
    rw [← HW0.out]
    clear HW0
    go_wp2_with fail
    refine HF.out.mono ?_
    clear HF
    rintro e w1 ⟨rfl, hb1⟩
    have HB1 := Lib.hid (HB0.out.trans (hb1.mono HB0.out.size))
    clear hb1
    go_wp2_with fail
    go_ret
    exact ⟨rfl, HB1.out⟩
theorem blockSays_walk {ea : Nat → Addr} (epoch : Int) (v : Value) (l : List Int) (r : RecD) (u : Value) (b : List Int) (at_ by_ : Int) (b1 : -9223372036854775808 ≤ epoch) (b2 : epoch ≤ 9223372036854775807) (a1 : -9223372036854775808 ≤ at_) (a2 : at_ ≤ 9223372036854775807) (y0 : 0 ≤ by_) (y1 : by_ ≤ 255) (w : World) (hs : Sen ea w) (hv : Ns .i64 w v l) (hu : Bs w u b) (hrw : r.W) :
    Calls Tryd.prog 3 #[.int .i64 epoch, v, recV r, u, .int .i64 at_, .int .u8 by_] w fun e w' => e = .returned (.bool true) ∧ Below w.heap.size w w' := by
  by_cases hl : (l.length : Int) ≤ 150 ∧ (b.length : Int) ≤ 300
  · exact blockSays_walk0 epoch v l r u b at_ by_ b1 b2 a1 a2 y0 y1 w hs hv hu hrw hl.1 hl.2
  · exact blockSays_idle epoch v l r u b at_ by_ w hs hv hu (by omega)
end Go.Proofs.YtpgelebmhhcodaaDoor
