/- The walk of the law RecBack. -/
import Derived.Test.YtabpmpaeakebmaaDoorRecM
import Derived.Test.YtabpmpaeakebmaaDoorRecT
import Derived.Test.YtabpmpaeakebmaaDoorRecF
import Derived.Test.YtabpmpaeakebmaaDoorRecR
import Derived.Test.YtabpmpaeakebmaaDoorRecS
import Derived.Test.YtabpmpaeakebmaaDoorSame
import Derived.Test.YtabpmpaeakebmaaDoorBytesR
import Derived.Deep.Cut
namespace Go.Proofs.YtabpmpaeakebmaaDoor
open Go.RowKit
set_option linter.unusedVariables false

theorem recBack_idle (v u : Value) (l m : List Int) (old new : Int) (w : World) (p : Option Addr) (T : TypeId) (hE : w.cell? ⟨0, 0, none⟩ = some (.iface T (.pointer p))) (hv : Ns .i64 w v l) (hu : Bs w u m) (hbig : (60 : Int) < l.length ∨ (60 : Int) < m.length) :
    Calls Tryd.prog 9 #[v, u, .int .i64 old, .int .i64 new] w fun e w' => e = .returned (.bool true) ∧ Below w.heap.size w w' := by
  obtain ⟨_, o, cap, rfl, hc1, hc2, hc3, _⟩ := hv
  obtain ⟨_, o', cap', rfl, hd1, hd2, hd3, _⟩ := hu
  unfold maxLen at hc2 hd2
  have hF := recFirst w _ _ hE
  have HF := Lib.hid hF
  clear hF hE
  generalize l.length = n at *
  generalize m.length = k at *
  by_cases h1 : (60 : Int) < n
  · go_enter Tryd.func9, Tryd.ntmps9
    go_wp2_with fail
    refine HF.out.mono ?_
    rintro e w1 ⟨rfl, hb1⟩
    have HB1 := Lib.hid hb1
    clear hb1
    go_wp2_with fail
    go_ret
    exact ⟨rfl, HB1.out⟩
  · have h2 : (60 : Int) < k := by omega
    go_enter Tryd.func9, Tryd.ntmps9
    go_wp2_with fail
    refine HF.out.mono ?_
    rintro e w1 ⟨rfl, hb1⟩
    have HB1 := Lib.hid hb1
    clear hb1
    go_wp2_with fail
    go_ret
    exact ⟨rfl, HB1.out⟩

/-- what RecBack makes of a record -/
def turnOld (r : RecD) (old : Int) : RecD := if r.kind = 2 ∧ r.had = true then { r with old := old } else r
def turnNew (r : RecD) (new : Int) : RecD := if (r.kind = 2 ∨ r.kind = 3) ∧ r.has = true then { r with new := new } else r
theorem turnOld_ok {r : RecD} (h : okR r = true) (hw : r.W) {old : Int} (ho : I64 old) : okR (turnOld r old) = true ∧ (turnOld r old).W := by
  unfold turnOld
  split
  · rename_i hc
    obtain ⟨kind, txn, page, prev, next, key, had, has, o, n⟩ := r
    obtain ⟨rfl, rfl⟩ := hc
    refine ⟨?_, ⟨hw.kind, hw.txn, hw.page, hw.prev, hw.next, hw.key, ho, hw.new⟩⟩
    simp only [okR, txnTop, pageTop, prevB, nextB, keyB, valsB] at h ⊢
    simpa using h
  · exact ⟨h, hw⟩
theorem turnNew_ok {r : RecD} (h : okR r = true) (hw : r.W) {new : Int} (ho : I64 new) : okR (turnNew r new) = true ∧ (turnNew r new).W := by
  unfold turnNew
  split
  · rename_i hc
    obtain ⟨kind, txn, page, prev, next, key, had, has, o, n⟩ := r
    obtain ⟨hk, rfl⟩ := hc
    refine ⟨?_, ⟨hw.kind, hw.txn, hw.page, hw.prev, hw.next, hw.key, hw.old, ho⟩⟩
    dsimp only at hk
    rcases hk with rfl | rfl <;> (simp only [okR, txnTop, pageTop, prevB, nextB, keyB, valsB] at h ⊢; simpa using h)
  · exact ⟨h, hw⟩

set_option maxRecDepth 20000 in
set_option maxHeartbeats 4000000 in
theorem recBack_walk0 {ea : Nat → Addr} (v u : Value) (l m : List Int) (old new : Int) (ho : I64 old) (hnw : I64 new) (w : World) (hs : Sen ea w) (hv : Ns .i64 w v l) (hu : Bs w u m) (hl : (l.length : Int) ≤ 60) (hm : (m.length : Int) ≤ 60) :
    Calls Tryd.prog 9 #[v, u, .int .i64 old, .int .i64 new] w fun e w' => e = .returned (.bool true) ∧ Below w.heap.size w w' := by
  have hv' := hv
  have hu' := hu
  obtain ⟨_, o, cap, rfl, hc1, hc2, hc3, _⟩ := hv
  obtain ⟨_, o', cap', rfl, hd1, hd2, hd3, _⟩ := hu
  unfold maxLen at hc2 hd2
  have hF := recFirst w _ _ (hs.cell 1 (by decide))
  have hrb := fun (r : RecD) w' hb hr hok => recBytes r w' hr _ ((hs.below (w' := w') hb).cell 1 (by decide)) hok
  have hrd := fun v b w' hb hv => recRead (ea := ea) v b w' hv (hs.below (w' := w') hb).e3
  have hi2 : ∀ W, Below w.heap.size w W → Calls Tryd.prog 16 #[.iface 98 (.pointer (some (ea 2))), .int .i64 103] W fun e w' => e = .returned (.bool true) ∧ Below W.heap.size W w' :=
    fun W hb => isC W (hs.below hb) 103 (by unfold OkC; omega) 103
  have HF := Lib.hid hF
  have HRB := Lib.hid hrb
  have HRD := Lib.hid hrd
  have HI2 := Lib.hid hi2
  have HV := Lib.hid hv'
  have HU := Lib.hid hu'
  have HL := Lib.hid hl
  have HM := Lib.hid hm
  have HO := Lib.hid ho
  have HNW := Lib.hid hnw
  clear hF hrb hrd hi2 hv' hu' hs ho hnw
  obtain ⟨n, hn⟩ : ∃ n, n = l.length := ⟨_, rfl⟩
  obtain ⟨k, hk⟩ : ∃ k, k = m.length := ⟨_, rfl⟩
  rw [← hn] at hc1 hl ⊢
  rw [← hk] at hd1 hm ⊢
  have HN := Lib.hid hn
  have HK := Lib.hid hk
  clear hn hk
  go_enter Tryd.func9, Tryd.ntmps9
  go_wp2_with fail
  refine HF.out.mono ?_
  rintro e w1 ⟨rfl, hb1⟩
  have hmk1 := makeRec' _ l w1 (HV.out.below hb1) (by have := HL.out; omega)
  rw [← HN.out] at hmk1
  have HMK1 := Lib.hid hmk1
  have HB1 := Lib.hid hb1
  clear hb1 hmk1 HF
  go_wp2_with fail
  refine HMK1.out.mono ?_
  rintro e w2 ⟨⟨r, rfl, hrw, hrok⟩, hb2⟩
  have HB2 := Lib.hid (HB1.out.trans (hb2.mono HB1.out.size))
  obtain ⟨hok1, hw1⟩ := turnOld_ok hrok hrw HO.out
  obtain ⟨hok2, hw2⟩ := turnNew_ok hok1 hw1 HNW.out
  have HOK2 := Lib.hid hok2
  have HW2 := Lib.hid hw2
  have HT1 := Lib.hid (show turnOld r old = if r.kind = 2 ∧ r.had = true then { r with old := old } else r from rfl)
  have HT2 := Lib.hid (show turnNew (turnOld r old) new = if ((turnOld r old).kind = 2 ∨ (turnOld r old).kind = 3) ∧ (turnOld r old).has = true then { turnOld r old with new := new } else turnOld r old from rfl)
  clear HMK1 HB1 hb2 hrw hrok hok1 hok2 hw1 hw2
  obtain ⟨a0, a1, a2, a3, a4, a5, a6, a7, a8, a9⟩ := r
  dsimp only [recV]
  obtain ⟨w3, hw3⟩ : ∃ w3, w3 = w2.alloc (.cells #[.int .i64 a0, .int .i64 a1, .int .i64 a2, .int .i64 a3, .int .i64 a4, .int .i64 a5, .bool a6, .bool a7, .int .i64 a8, .int .i64 a9] 50) := ⟨_, rfl⟩
  have HB3 : Hid (Below w.heap.size w w3) := by rw [hw3]; exact HB2.out.alloc HB2.out.size _
  have HRA3 : Hid (RW w2.heap.size #[.int .i64 a0, .int .i64 a1, .int .i64 a2, .int .i64 a3, .int .i64 a4, .int .i64 a5, .bool a6, .bool a7, .int .i64 a8, .int .i64 a9] w3) := by rw [hw3]; exact RW.new _ _
  have HW3 := Lib.hid hw3
  have HSZ : Hid (w.heap.size ≤ w2.heap.size) := HB2.out.size
  clear hw3 HB2
  go_upto_region 7 with fail
  rw [← HW3.out]
  generalize w2.heap.size = A1 at HRA3 HSZ ⊢
  clear HW3
  obtain ⟨c0, c1, c2, c3, c4, c5, c6, c7, c8, c9⟩ := HRA3.out.cells
  have hfz := HRA3.out.frozen
  go_cut [45] from 23 (fun s45 wx => s45 = .bool (decide (a0 = 2) && a6) ∧ wx = w3)
  case first =>
    by_cases h2 : a0 = 2
    · have e2 : (a0 == 2) = true := by simpa using h2
      go_wp2_with fail
      go_meet
      exact ⟨by simp [h2], rfl⟩
    · have e2 : (a0 == 2) = false := by simpa using h2
      go_wp2_with fail
      go_meet
      exact ⟨by simp [h2], rfl⟩
  obtain ⟨rfl, rfl⟩ := hcut
  clear c0 c1 c2 c3 c4 c5 c6 c7 c8 c9 hfz
  go_upto_if 45 with fail
  go_cut [] from 23 (fun wx => Hid (RW A1 (recCs (turnOld ⟨a0, a1, a2, a3, a4, a5, a6, a7, a8, a9⟩ old)) wx) ∧ Hid (Below w.heap.size w wx))
  case first =>
    obtain ⟨c0, c1, c2, c3, c4, c5, c6, c7, c8, c9⟩ := HRA3.out.cells
    have hfz := HRA3.out.frozen
    by_cases hc : (decide (a0 = 2) && a6) = true
    · have hcc : a0 = 2 ∧ a6 = true := by simpa using hc
      have hset := setCell_rowR HRA3.out 8 (.int .i64 old)
      have hfin : Hid (RW A1 (recCs (turnOld ⟨a0, a1, a2, a3, a4, a5, a6, a7, a8, a9⟩ old)) (wc.setCell ⟨A1, 8, none⟩ (.int .i64 old))) := by
        have e : turnOld ⟨a0, a1, a2, a3, a4, a5, a6, a7, a8, a9⟩ old = ⟨a0, a1, a2, a3, a4, a5, a6, a7, old, a9⟩ := if_pos hcc
        rw [e]; exact hset
      have hbel : Hid (Below w.heap.size w (wc.setCell ⟨A1, 8, none⟩ (.int .i64 old))) := HB3.out.setCell (p := ⟨A1, 8, none⟩) HSZ.out _
      clear hset hcc
      rw [hc]
      go_wp2_with fail
      go_meet
      exact ⟨hfin, hbel⟩
    · have hcf : (decide (a0 = 2) && a6) = false := by simpa using hc
      have hcc : ¬ (a0 = 2 ∧ a6 = true) := by simpa using hc
      have hfin : Hid (RW A1 (recCs (turnOld ⟨a0, a1, a2, a3, a4, a5, a6, a7, a8, a9⟩ old)) wc) := by
        have e : turnOld ⟨a0, a1, a2, a3, a4, a5, a6, a7, a8, a9⟩ old = ⟨a0, a1, a2, a3, a4, a5, a6, a7, a8, a9⟩ := if_neg hcc
        rw [e]; exact HRA3.out
      clear hcc hc
      rw [hcf]
      go_wp2_with fail
      go_meet
      exact ⟨hfin, HB3⟩
  have HRA4 := hcut.1
  have HB4 := hcut.2
  clear hcut HRA3 HB3 HT1
  generalize turnOld ⟨a0, a1, a2, a3, a4, a5, a6, a7, a8, a9⟩ old = r1 at HRA4 HOK2 HW2 HT2
  obtain ⟨b0, b1, b2, b3, b4, b5, b6, b7, b8, b9⟩ := r1
  dsimp only [recCs] at HRA4
  obtain ⟨w4, hw4⟩ : ∃ w4, w4 = wc := ⟨_, rfl⟩
  rw [← hw4] at HRA4 HB4 ⊢
  clear hw4
  obtain ⟨c0, c1, c2, c3, c4, c5, c6, c7, c8, c9⟩ := HRA4.out.cells
  go_upto_region 9 with fail
  go_cut [59] from 23 (fun s59 wx => s59 = .bool ((decide (b0 = 2) || decide (b0 = 3)) && b7) ∧ wx = w4)
  case first =>
    by_cases h2 : b0 = 2
    · have e2 : (b0 == 2) = true := by simpa using h2
      go_wp2_with fail
      go_meet
      exact ⟨by simp [h2], rfl⟩
    · have e2 : (b0 == 2) = false := by simpa using h2
      by_cases h3 : b0 = 3
      · have e3 : (b0 == 3) = true := by simpa using h3
        go_wp2_with fail
        go_meet
        exact ⟨by simp [h3], rfl⟩
      · have e3 : (b0 == 3) = false := by simpa using h3
        go_wp2_with fail
        go_meet
        exact ⟨by simp [h2, h3], rfl⟩
  obtain ⟨rfl, rfl⟩ := hcut
  clear c0 c1 c2 c3 c4 c5 c6 c7 c8 c9
  go_upto_if 59 with fail
  go_cut [] from 23 (fun wx => Hid (RW A1 (recCs (turnNew ⟨b0, b1, b2, b3, b4, b5, b6, b7, b8, b9⟩ new)) wx) ∧ Hid (Below w.heap.size w wx))
  case first =>
    obtain ⟨c0, c1, c2, c3, c4, c5, c6, c7, c8, c9⟩ := HRA4.out.cells
    have hfz := HRA4.out.frozen
    by_cases hc : ((decide (b0 = 2) || decide (b0 = 3)) && b7) = true
    · have hcc : (b0 = 2 ∨ b0 = 3) ∧ b7 = true := by simpa using hc
      have hset := setCell_rowR HRA4.out 9 (.int .i64 new)
      have hfin : Hid (RW A1 (recCs (turnNew ⟨b0, b1, b2, b3, b4, b5, b6, b7, b8, b9⟩ new)) (wc.setCell ⟨A1, 9, none⟩ (.int .i64 new))) := by
        have e : turnNew ⟨b0, b1, b2, b3, b4, b5, b6, b7, b8, b9⟩ new = ⟨b0, b1, b2, b3, b4, b5, b6, b7, b8, new⟩ := if_pos hcc
        rw [e]; exact hset
      have hbel : Hid (Below w.heap.size w (wc.setCell ⟨A1, 9, none⟩ (.int .i64 new))) := HB4.out.setCell (p := ⟨A1, 9, none⟩) HSZ.out _
      clear hset hcc
      rw [hc]
      go_wp2_with fail
      go_meet
      exact ⟨hfin, hbel⟩
    · have hcf : ((decide (b0 = 2) || decide (b0 = 3)) && b7) = false := by simpa using hc
      have hcc : ¬ ((b0 = 2 ∨ b0 = 3) ∧ b7 = true) := by simpa using hc
      have hfin : Hid (RW A1 (recCs (turnNew ⟨b0, b1, b2, b3, b4, b5, b6, b7, b8, b9⟩ new)) wc) := by
        have e : turnNew ⟨b0, b1, b2, b3, b4, b5, b6, b7, b8, b9⟩ new = ⟨b0, b1, b2, b3, b4, b5, b6, b7, b8, b9⟩ := if_neg hcc
        rw [e]; exact HRA4.out
      clear hcc hc
      rw [hcf]
      go_wp2_with fail
      go_meet
      exact ⟨hfin, HB4⟩
  have HRA5 := hcut.1
  have HB5 := hcut.2
  clear hcut HRA4 HB4 HT2
  generalize turnNew ⟨b0, b1, b2, b3, b4, b5, b6, b7, b8, b9⟩ new = r2 at HRA5 HOK2 HW2
  have hby := fun w' hb => HRB.out r2 w' hb HW2.out HOK2.out
  have hback := readR_back HOK2.out HW2.out
  have hsm := fun W => sameRec r2 r2 W
  have hsme : sameRB r2 r2 = true := (sameRB_iff _ _).2 rfl
  rw [hsme] at hsm
  have hlen := recB_length r2
  generalize recB r2 = bb at hby hback hlen
  obtain ⟨d0, d1, d2, d3, d4, d5, d6, d7, d8, d9⟩ := r2
  dsimp only [recCs, recV] at HRA5 hby hback hsm
  have HBY := Lib.hid hby
  have HBK := Lib.hid hback
  have HSM := Lib.hid hsm
  have HLEN := Lib.hid hlen
  clear hby hback hsm hsme hlen HOK2 HW2
  obtain ⟨c0, c1, c2, c3, c4, c5, c6, c7, c8, c9⟩ := HRA5.out.cells
  go_wp2_with fail
  refine (HBY.out _ HB5.out).mono ?_
  rintro e w6 ⟨⟨x, rfl, hox⟩, hb6⟩
  have HB6 := Lib.hid (HB5.out.trans (hb6.mono HB5.out.size))
  have HRA6 := Lib.hid (HRA5.out.below hb6)
  have hbs := hox.bs
  obtain ⟨_, ox, cx, rfl, hx1, hx2, _, _⟩ := hox.bs
  unfold maxLen at hx2
  rw [HLEN.out] at hbs hx1 ⊢
  have HX6 := Lib.hid hbs
  clear hb6 hox hbs HBY HRA5 HB5 c0 c1 c2 c3 c4 c5 c6 c7 c8 c9
  go_wp2_with fail
  refine (HRD.out _ _ _ HB6.out HX6.out).mono ?_
  rintro e w7 ⟨rfl, hb7⟩
  rw [HBK.out, eC_zero]
  dsimp only [recV]
  have hal : Below w7.heap.size w7 (w7.alloc (.cells #[.int .i64 d0, .int .i64 d1, .int .i64 d2, .int .i64 d3, .int .i64 d4, .int .i64 d5, .bool d6, .bool d7, .int .i64 d8, .int .i64 d9] 50)) := (Below.refl _ _).alloc (Nat.le_refl _) _
  have hb8 := hb7.trans (hal.mono hb7.size)
  have HB8 := Lib.hid (HB6.out.trans (hb8.mono HB6.out.size))
  have HRA8 := Lib.hid (HRA6.out.below hb8)
  have HRC8 := Lib.hid (RW.new w7 #[.int .i64 d0, .int .i64 d1, .int .i64 d2, .int .i64 d3, .int .i64 d4, .int .i64 d5, .bool d6, .bool d7, .int .i64 d8, .int .i64 d9])
  have HX8 := Lib.hid (HX6.out.below hb8)
  obtain ⟨c0, c1, c2, c3, c4, c5, c6, c7, c8, c9⟩ := HRA8.out.cells
  obtain ⟨f0, f1, f2, f3, f4, f5, f6, f7, f8, f9⟩ := HRC8.out.cells
  clear hb7 hb8 hal HB6 HRA6 HX6 HBK
  go_wp2_with fail
  refine (HSM.out _).mono ?_
  rintro e w9 ⟨rfl, hb9⟩
  have HB9 := Lib.hid (HB8.out.trans (hb9.mono HB8.out.size))
  have HX9 := Lib.hid (HX8.out.below hb9)
  clear hb9 HB8 HRA8 HRC8 HX8 HSM c0 c1 c2 c3 c4 c5 c6 c7 c8 c9 f0 f1 f2 f3 f4 f5 f6 f7 f8 f9
  have HPRE9 := Lib.hid (HX9.out.pre 39 (by rw [HLEN.out]; omega))
  have HSH1 : Hid (readR (bb.take 39) = (rec00, 103)) := readR_len _ (by rw [List.length_take, HLEN.out]; decide)
  have HSH2 : Hid (readR (bb ++ [0]) = (rec00, 103)) := readR_len _ (by rw [List.length_append, HLEN.out]; decide)
  have HLB := Lib.hid (show bb.length ≤ 1000 by rw [HLEN.out]; omega)
  go_wp2_with fail
  refine (HRD.out _ _ _ HB9.out HPRE9.out).mono ?_
  rintro e w10 ⟨rfl, hb10⟩
  rw [HSH1.out]
  dsimp only [recV, rec00]
  rw [show eC ea 103 = .iface 98 (.pointer (some (ea 2))) from rfl]
  have hal : Below w10.heap.size w10 (w10.alloc (.cells #[.int .i64 0, .int .i64 0, .int .i64 0, .int .i64 0, .int .i64 0, .int .i64 0, .bool false, .bool false, .int .i64 0, .int .i64 0] 50)) := (Below.refl _ _).alloc (Nat.le_refl _) _
  have hb11 := hb10.trans (hal.mono hb10.size)
  have HB11 := Lib.hid (HB9.out.trans (hb11.mono HB9.out.size))
  have HX11 := Lib.hid (HX9.out.below hb11)
  clear hb10 hb11 hal HB9 HX9 HPRE9 HSH1
  go_wp2_with fail
  generalize (w10.alloc (.cells #[.int .i64 0, .int .i64 0, .int .i64 0, .int .i64 0, .int .i64 0, .int .i64 0, .bool false, .bool false, .int .i64 0, .int .i64 0] 50)) = w11 at HB11 HX11 ⊢
  generalize w10.heap.size = S10
  refine (bytesRef _ bb _ HX11.out (by have := HLB.out; omega)).mono ?_
  rintro e w12 ⟨vc, rfl, hb12, hoc⟩
  have HB12 := Lib.hid (HB11.out.trans (hb12.mono HB11.out.size))
  have hsz12 := HB12.out.size
  have hoc' := hoc.mono (base' := w.heap.size) HB11.out.size
  have hbw12 : Below w12.heap.size w12 (w12.alloc (.cells #[.int .u8 0] 5)) := (Below.refl _ _).alloc (Nat.le_refl _) _
  have hba12 : Below w.heap.size w (w12.alloc (.cells #[.int .u8 0] 5)) := HB12.out.alloc hsz12 _
  obtain ⟨v2, w14, hr, h1, h2, h3⟩ := byteT.append 24 (w12.alloc (.cells #[.int .u8 0] 5)) w.heap.size _ bb (hoc'.below hbw12) _ [0] (Ob.one (base := 0) (by omega) (by omega) (Nat.zero_le _)).bs (by have := HLB.out; simp; omega) (by simp; omega)
  have HB14 : Hid (Below w.heap.size w w14) := (hoc'.below hbw12).grown h2 hba12 (Nat.le_refl _) (by simp; omega)
  have hlen2 : (bb ++ [(0 : Int)]).length = 41 := by rw [List.length_append, HLEN.out]; rfl
  have hbs2 := h1.bs
  obtain ⟨_, oc, cc, rfl, _, hcc, _, _⟩ := h1.bs
  obtain ⟨_, od, cd, rfl, _, hcd, _, _⟩ := hoc'.bs
  rw [hlen2] at hbs2 hr
  rw [HLEN.out] at hr ⊢
  unfold maxLen at hcc hcd
  have HX14 := Lib.hid hbs2
  clear h1 h2 h3 hoc hoc' hbw12 hba12 hb12 hsz12 hbs2 hlen2 HB12 HX11
  go_wp2_with (at_builtin; refine Lib.wpList_append_run _ rfl _ _ _ _ rfl _ _ rfl rfl _ _ hr ?_)
  refine (HRD.out _ _ _ HB14.out HX14.out).mono ?_
  clear hr
  rintro e w15 ⟨rfl, hb15⟩
  rw [HSH2.out]
  dsimp only [recV, rec00]
  rw [show eC ea 103 = .iface 98 (.pointer (some (ea 2))) from rfl]
  have hb15' := HB14.out.trans (hb15.mono HB14.out.size)
  have HB16 := Lib.hid (hb15'.alloc hb15'.size (.cells #[.int .i64 0, .int .i64 0, .int .i64 0, .int .i64 0, .int .i64 0, .int .i64 0, .bool false, .bool false, .int .i64 0, .int .i64 0] 50))
  clear hb15 hb15' HB14 HX14 HSH2
  go_wp2_with fail
  generalize (w15.alloc (.cells #[.int .i64 0, .int .i64 0, .int .i64 0, .int .i64 0, .int .i64 0, .int .i64 0, .bool false, .bool false, .int .i64 0, .int .i64 0] 50)) = w16 at HB16 ⊢
  generalize w15.heap.size = S15
  have hu16 := HU.out.below HB16.out
  rw [← HK.out] at hu16
  have HU16 := Lib.hid hu16
  clear hu16
  refine (HRD.out _ m _ HB16.out HU16.out).mono ?_
  rintro e w17 ⟨rfl, hb17⟩
  have HB17 := Lib.hid (HB16.out.trans (hb17.mono HB16.out.size))
  have HU17 := Lib.hid (HU16.out.below hb17)
  have hro := fun h => readR_ok (b := m) h
  have hrW := readR_W HU17.out.1
  generalize readR m = rc at hro hrW ⊢
  obtain ⟨⟨g0, g1, g2, g3, g4, g5, g6, g7, g8, g9⟩, c⟩ := rc
  dsimp only [recV] at hro hrW ⊢
  clear hb17 HB16 HU16 HRD
  have hal : Below w17.heap.size w17 (w17.alloc (.cells #[.int .i64 g0, .int .i64 g1, .int .i64 g2, .int .i64 g3, .int .i64 g4, .int .i64 g5, .bool g6, .bool g7, .int .i64 g8, .int .i64 g9] 50)) := (Below.refl _ _).alloc (Nat.le_refl _) _
  by_cases hc0 : c = 0
  · obtain ⟨hm1, hok3⟩ := hro hc0
    subst hc0
    rw [eC_zero]
    have HB18 := Lib.hid (HB17.out.trans (hal.mono HB17.out.size))
    have HU18 := Lib.hid (HU17.out.below hal)
    have HRZ := Lib.hid (RW.new w17 #[.int .i64 g0, .int .i64 g1, .int .i64 g2, .int .i64 g3, .int .i64 g4, .int .i64 g5, .bool g6, .bool g7, .int .i64 g8, .int .i64 g9])
    have hbz := fun w' hb => HRB.out ⟨g0, g1, g2, g3, g4, g5, g6, g7, g8, g9⟩ w' hb hrW hok3
    rw [← hm1] at hbz
    dsimp only [recV] at hbz
    have HBZ := Lib.hid hbz
    obtain ⟨c0, c1, c2, c3, c4, c5, c6, c7, c8, c9⟩ := HRZ.out.cells
    clear hm1 hok3 hro hrW hal HB17 HU17 HRZ hbz HRB
    go_wp2_with fail
    refine (HBZ.out _ HB18.out).mono ?_
    clear HBZ
    rintro e w19 ⟨⟨vz, rfl, hoz⟩, hb19⟩
    have HB19 := Lib.hid (HB18.out.trans (hb19.mono HB18.out.size))
    have hsame := same_calls _ _ _ _ w19 (HU18.out.below hb19) hoz.bs
    rw [show sameB m m = true by simp [sameB]] at hsame
    have HSAME := Lib.hid hsame
    clear hb19 hoz hsame HB18 HU18 c0 c1 c2 c3 c4 c5 c6 c7 c8 c9
    go_wp2_with fail
    refine HSAME.out.mono ?_
    clear HSAME
    rintro e w20 ⟨rfl, hq20⟩
    have HB20 := Lib.hid (HB19.out.trans (hq20.below _))
    clear hq20 HB19
    go_wp2_with fail
    refine (HI2.out _ HB20.out).mono ?_
    rintro e w21 ⟨rfl, hb21⟩
    have HB21 := Lib.hid (HB20.out.trans (hb21.mono HB20.out.size))
    clear hb21 HB20
    go_wp2_with fail
    refine (HI2.out _ HB21.out).mono ?_
    rintro e w22 ⟨rfl, hb22⟩
    have HB22 := Lib.hid (HB21.out.trans (hb22.mono HB21.out.size))
    clear hb22 HB21
    go_wp2_with fail
    go_ret
    exact ⟨rfl, HB22.out⟩
  · have he : eC ea c = .iface 98 (.pointer (some (ea (c - 101).toNat))) := by unfold eC; rw [if_neg hc0]; rfl
    rw [he]
    generalize ea (c - 101).toNat = pc
    have HB20 := Lib.hid (HB17.out.trans (hal.mono HB17.out.size))
    clear he hc0 hro hrW hal HB17 HU17 HRB
    go_wp2_with fail
    refine (HI2.out _ HB20.out).mono ?_
    rintro e w21 ⟨rfl, hb21⟩
    have HB21 := Lib.hid (HB20.out.trans (hb21.mono HB20.out.size))
    clear hb21 HB20
    go_wp2_with fail
    refine (HI2.out _ HB21.out).mono ?_
    rintro e w22 ⟨rfl, hb22⟩
    have HB22 := Lib.hid (HB21.out.trans (hb22.mono HB21.out.size))
    clear hb22 HB21
    go_wp2_with fail
    go_ret
    exact ⟨rfl, HB22.out⟩

theorem recBack_walk {ea : Nat → Addr} (v u : Value) (l m : List Int) (old new : Int) (ho : I64 old) (hnw : I64 new) (w : World) (hs : Sen ea w) (hv : Ns .i64 w v l) (hu : Bs w u m) :
    Calls Tryd.prog 9 #[v, u, .int .i64 old, .int .i64 new] w fun e w' => e = .returned (.bool true) ∧ Below w.heap.size w w' := by
  by_cases h : (60 : Int) < l.length ∨ (60 : Int) < m.length
  · exact recBack_idle v u l m old new w _ _ (hs.cell 1 (by decide)) hv hu h
  · exact recBack_walk0 v u l m old new ho hnw w hs hv hu (by omega) (by omega)
end Go.Proofs.YtabpmpaeakebmaaDoor
