/- The walk of the law RecZeros. -/
import Derived.Test.YtabpmpaeakebmaaDoorRecM
import Derived.Test.YtabpmpaeakebmaaDoorRecT
import Derived.Test.YtabpmpaeakebmaaDoorRecF
import Derived.Test.YtabpmpaeakebmaaDoorRecR
import Derived.Test.YtabpmpaeakebmaaDoorBytesR
import Derived.Test.YtabpmpaeakebmaaDoorNum
import Derived.Test.YtabpmpaeakebmaaDoorXor
import Derived.Test.YtabpmpaeakebmaaDoorCI
namespace Go.Proofs.YtabpmpaeakebmaaDoor
open Go.RowKit
set_option linter.unusedVariables false

theorem recZeros_idle (v : Value) (l : List Int) (at_ by_ : Int) (w : World) (p : Option Addr) (T : TypeId) (hE : w.cell? ⟨0, 0, none⟩ = some (.iface T (.pointer p))) (hv : Ns .i64 w v l) (hidle : (60 : Int) < l.length ∨ by_ = 0) :
    Calls Tryd.prog 10 #[v, .int .i64 at_, .int .u8 by_] w fun e w' => e = .returned (.bool true) ∧ Below w.heap.size w w' := by
  obtain ⟨_, o, cap, rfl, hc1, hc2, hc3, _⟩ := hv
  unfold maxLen at hc2
  have hF := recFirst w _ _ hE
  have HF := Lib.hid hF
  clear hF hE
  generalize l.length = n at *
  by_cases h1 : (60 : Int) < n
  · go_enter Tryd.func10, Tryd.ntmps10
    go_wp2_with fail
    refine HF.out.mono ?_
    rintro e w1 ⟨rfl, hb1⟩
    have HB1 := Lib.hid hb1
    clear hb1
    go_wp2_with fail
    go_ret
    exact ⟨rfl, HB1.out⟩
  · obtain rfl : by_ = 0 := by omega
    go_enter Tryd.func10, Tryd.ntmps10
    go_wp2_with fail
    refine HF.out.mono ?_
    rintro e w1 ⟨rfl, hb1⟩
    have HB1 := Lib.hid hb1
    clear hb1
    go_wp2_with fail
    go_ret
    exact ⟨rfl, HB1.out⟩

theorem zeroAt_cases (i : Nat) (hi : i < 6) : ∃ k : Nat, [6, 7, 20, 21, 22, 23].getD i 0 = (k : Int) ∧ (k = 6 ∨ k = 7 ∨ k = 20 ∨ k = 21 ∨ k = 22 ∨ k = 23) := by
  match i, hi with
  | 0, _ => exact ⟨6, rfl, by omega⟩
  | 1, _ => exact ⟨7, rfl, by omega⟩
  | 2, _ => exact ⟨20, rfl, by omega⟩
  | 3, _ => exact ⟨21, rfl, by omega⟩
  | 4, _ => exact ⟨22, rfl, by omega⟩
  | 5, _ => exact ⟨23, rfl, by omega⟩
  | i + 6, h => omega

theorem set_back (b : List Int) (k : Nat) (z : Int) (hk : k < b.length) (h : b.getD k 0 = 0) : (b.set k z).set k 0 = b := by
  rw [List.set_set]
  apply List.ext_getElem (by simp)
  intro i h1 h2
  rw [List.getElem_set]
  split
  · rename_i e; subst e; rw [← h, getD_lt hk]
  · rfl

set_option maxRecDepth 20000 in
set_option maxHeartbeats 4000000 in
theorem recZeros_walk0 {ea : Nat → Addr} (v : Value) (l : List Int) (at_ by_ : Int) (h1 : -9223372036854775808 ≤ at_) (h2 : at_ ≤ 9223372036854775807) (h3 : 0 < by_) (h4 : by_ ≤ 255) (w : World) (hs : E3 ea w) (hv : Ns .i64 w v l) (hl : (l.length : Int) ≤ 60) :
    Calls Tryd.prog 10 #[v, .int .i64 at_, .int .u8 by_] w fun e w' => e = .returned (.bool true) ∧ Below w.heap.size w w' := by
  have hv' := hv
  obtain ⟨_, o, cap, rfl, hc1, hc2, hc3, _⟩ := hv
  unfold maxLen at hc2
  have hF := recFirst w _ _ hs.r
  have hrb := fun (r : RecD) w' hb hr hok => recBytes r w' hr _ (hs.below (w' := w') hb).r hok
  have hrd := fun v b w' hb hv => recRead (ea := ea) v b w' hv (hs.below (w' := w') hb)
  have hby : (by_ == 0) = false := by simp; omega
  have HF := Lib.hid hF
  have HRB := Lib.hid hrb
  have HRD := Lib.hid hrd
  have HV := Lib.hid hv'
  have HL := Lib.hid hl
  clear hF hrb hrd hv' hs
  obtain ⟨n, hn⟩ : ∃ n, n = l.length := ⟨_, rfl⟩
  rw [← hn] at hc1 hl ⊢
  have HN := Lib.hid hn
  clear hn
  go_enter Tryd.func10, Tryd.ntmps10
  go_wp2_with fail
  refine HF.out.mono ?_
  rintro e w1 ⟨rfl, hb1⟩
  have hmk1 := makeRec' _ l w1 (HV.out.below hb1) (by have := HL.out; omega)
  rw [← HN.out] at hmk1
  have HMK1 := Lib.hid hmk1
  have HB1 := Lib.hid hb1
  clear hb1 hmk1 HF
  go_wp2_with fail
  refine HMK1.out.mono ?_
  rintro e w2 ⟨⟨r, rfl, hrw, hrok⟩, hb2⟩
  have HB2 := Lib.hid (HB1.out.trans (hb2.mono HB1.out.size))
  have HSZ12 := Lib.hid (show w.heap.size ≤ w2.heap.size from (HB1.out.trans (hb2.mono HB1.out.size)).size)
  have hba := HRB.out _ w2 HB2.out hrw hrok
  have hback := readR_back hrok hrw
  have hzero := recB_zero r
  have hlen := recB_length r
  have hfl := recB_one r
  have hflb := flagsR_bounds r
  have hbB := isB_recB r
  generalize recB r = b at hba hback hzero hlen hfl hbB
  obtain ⟨a0, a1, a2, a3, a4, a5, a6, a7, a8, a9⟩ := r
  dsimp only [recV] at hba ⊢
  have HBA := Lib.hid hba
  clear HMK1 HB1 hb2 hrw hrok hba HRB
  go_wp2_with fail
  refine HBA.out.mono ?_
  clear HBA
  rintro e w3 ⟨⟨x, rfl, hox⟩, hb3⟩
  obtain ⟨gg, cpx, hvx, hgg, hgl, hcl, hcm⟩ := hox.row (ne_nil_of_lt (k := 0) (by omega))
  rw [hlen] at hvx hcl
  subst hvx
  unfold maxLen at hcm
  have HB3 := Lib.hid (HB2.out.trans (hb3.mono HB2.out.size))
  have HOX := Lib.hid hox
  clear hb3 hox HB2
  go_wp2_with fail
  refine (number at_ 6 _ (by omega) (by omega) h1 h2).mono ?_
  rintro e w4 ⟨rfl, rfl⟩
  have hi0 := Int.emod_nonneg at_ (show (6 : Int) ≠ 0 by omega)
  have hi1 := Int.emod_lt_of_pos at_ (show (0 : Int) < 6 by omega)
  obtain ⟨i, hi⟩ := Int.eq_ofNat_of_zero_le hi0
  rw [hi] at hi1 ⊢
  clear hi hi0 h1 h2
  have hal : Below w3.heap.size w3 (w3.alloc (.cells #[.int .i64 6, .int .i64 7, .int .i64 20, .int .i64 21, .int .i64 22, .int .i64 23] 3)) := (Below.refl _ _).alloc (Nat.le_refl _) _
  have hci : CI w3.heap.size [6, 7, 20, 21, 22, 23] (w3.alloc (.cells #[.int .i64 6, .int .i64 7, .int .i64 20, .int .i64 21, .int .i64 22, .int .i64 23] 3)) := CI.new rfl
  have hcell := hci i (by simp; omega)
  obtain ⟨k, hk, hkc⟩ := zeroAt_cases i (by omega)
  rw [hk] at hcell
  have hk40 : (k : Int) < 40 := by omega
  have HB4 := Lib.hid (HB3.out.trans (hal.mono HB3.out.size))
  have hox4 := HOX.out.below hal
  have hxc := hox4.cell (i := k) (by omega)
  have hz0 := hzero k hkc
  rw [hz0] at hxc
  have hfz := hox4.frozen k
  obtain ⟨z, hz, hzz0, hzz1, hzx⟩ := xor_byte 0 by_ (by omega) (by omega) (by omega) h4
  have hzne := hzx (by omega)
  have HSET := Lib.hid (HOX.out.set k hzz0 hzz1)
  clear hal hci hk hox4 hzx HB4 HOX
  go_wp2_with fail
  obtain ⟨w6, hw6⟩ : ∃ w6, w6 = (w3.setCell ⟨gg, k, none⟩ (.int .u8 z)).alloc (.cells #[.int .i64 6, .int .i64 7, .int .i64 20, .int .i64 21, .int .i64 22, .int .i64 23] 3) := ⟨_, rfl⟩
  rw [← hw6]
  have hb5 : Below w.heap.size w (w3.setCell ⟨gg, k, none⟩ (.int .u8 z)) := HB3.out.setCell (p := ⟨gg, k, none⟩) (by have := HSZ12.out; simp; omega) _
  have hox6 : Ob 5 w2.heap.size w6 (.slice (some ⟨gg, 0, none⟩) 40 cpx) (b.set k z) := by rw [hw6]; exact HSET.out.below ((Below.refl _ _).alloc (Nat.le_refl _) _)
  have hb6 : Below w.heap.size w w6 := by rw [hw6]; exact hb5.alloc hb5.size _
  have HB6 := Lib.hid hb6
  have HOX6 := Lib.hid hox6.bs
  have hrz : (readR (b.set k z)).2 ≠ 0 := readR_zero _ k hkc (by rw [List.getD_eq_getElem?_getD, List.getElem?_set_self (by omega)]; exact hzne)
  have hok6 : OkC (readR (b.set k z)).2 := by unfold readR OkC; split <;> (try split) <;> simp
  have hbk : (b.set k z).set k 0 = b := set_back b k z (by omega) hz0
  have hl6 : (b.set k z).length = 40 := by rw [List.length_set]; exact hlen
  clear hw6 hox6 hb5 hb6 hcell hxc hfz HSET HB3 hz hzne hzero
  refine (HRD.out _ _ _ HB6.out HOX6.out).mono ?_
  rintro e w7 ⟨rfl, hb7⟩
  have HB7 := Lib.hid (HB6.out.trans (hb7.mono HB6.out.size))
  have HOX7 := Lib.hid (HOX6.out.below hb7)
  generalize b.set k z = b6 at hrz hok6 hbk hl6 HOX7 ⊢
  generalize readR b6 = rc at hrz hok6 ⊢
  obtain ⟨⟨e0, e1, e2, e3, e4, e5, e6, e7, e8, e9⟩, c⟩ := rc
  dsimp only [recV] at hrz hok6 ⊢
  have he : eC ea c = .iface 98 (.pointer (some (ea (c - 101).toNat))) := by unfold eC; rw [if_neg hrz]; rfl
  rw [he]
  generalize ea (c - 101).toNat = pc
  clear he hrz hok6 hb7 HB6 HOX6
  have hal8 : Below w7.heap.size w7 (w7.alloc (.cells #[.int .i64 e0, .int .i64 e1, .int .i64 e2, .int .i64 e3, .int .i64 e4, .int .i64 e5, .bool e6, .bool e7, .int .i64 e8, .int .i64 e9] 50)) := (Below.refl _ _).alloc (Nat.le_refl _) _
  have HB8 := Lib.hid (HB7.out.trans (hal8.mono HB7.out.size))
  have HOX8 := Lib.hid (HOX7.out.below hal8)
  clear hal8 HB7 HOX7
  go_wp2_with fail
  refine (bytesRef _ b6 _ HOX8.out (by omega)).mono ?_
  rintro e w9 ⟨vd, rfl, hb9, hod⟩
  have HB9 := Lib.hid (HB8.out.trans (hb9.mono HB8.out.size))
  have hsz9 : w.heap.size ≤ (w7.alloc (.cells #[.int .i64 e0, .int .i64 e1, .int .i64 e2, .int .i64 e3, .int .i64 e4, .int .i64 e5, .bool e6, .bool e7, .int .i64 e8, .int .i64 e9] 50)).heap.size := HB8.out.size
  have hod' := hod.mono (base' := w.heap.size) hsz9
  obtain ⟨hd, cpd, hvd, hgd, hgdl, hcd, hcdm⟩ := hod'.row (ne_nil_of_lt (k := 0) (by omega))
  rw [hl6] at hvd hcd
  subst hvd
  unfold maxLen at hcdm
  have hdc := hod'.cell (i := k) (by omega)
  have hdf := hod'.frozen k
  have hset0 := hod'.set k (x := 0) (by omega) (by omega)
  rw [hbk] at hset0
  generalize b6.getD k 0 = y0 at hdc
  have HSET0 := Lib.hid hset0
  have hkN : k < 40 := by omega
  clear hb9 hod hod' HB8 HOX8 hset0 hsz9 hbk hl6 hkN
  go_wp2_with fail
  obtain ⟨w10, hw10⟩ : ∃ w10, w10 = w9.setCell ⟨hd, k, none⟩ (.int .u8 0) := ⟨_, rfl⟩
  rw [← hw10]
  have hod10 := HSET0.out
  rw [← hw10] at hod10
  have hb10 : Below w.heap.size w w10 := by rw [hw10]; exact HB9.out.setCell (p := ⟨hd, k, none⟩) hgd _
  have HB10 := Lib.hid hb10
  have HOD10 := Lib.hid hod10
  clear hw10 hod10 hb10 hdc hdf HB9 HSET0
  refine (HRD.out _ _ _ HB10.out HOD10.out.bs).mono ?_
  rintro e w11 ⟨rfl, hb11⟩
  rw [hback, eC_zero]
  dsimp only [recV]
  have hal12 : Below w11.heap.size w11 (w11.alloc (.cells #[.int .i64 a0, .int .i64 a1, .int .i64 a2, .int .i64 a3, .int .i64 a4, .int .i64 a5, .bool a6, .bool a7, .int .i64 a8, .int .i64 a9] 50)) := (Below.refl _ _).alloc (Nat.le_refl _) _
  have hb12 := hb11.trans (hal12.mono hb11.size)
  have HB12 := Lib.hid (HB10.out.trans (hb12.mono HB10.out.size))
  have hod12 := HOD10.out.below hb12
  have hc1 := hod12.cell (i := 1) (by omega)
  have hf1 := hod12.frozen 1
  rw [hfl] at hc1
  generalize flagsR ⟨a0, a1, a2, a3, a4, a5, a6, a7, a8, a9⟩ = fl at hflb hc1 hfl
  have hor : ∃ y, bits .or .u8 fl 4 = y ∧ 4 ≤ y ∧ y ≤ 255 := by
    have : fl = 0 ∨ fl = 1 ∨ fl = 2 ∨ fl = 3 := by omega
    rcases this with rfl | rfl | rfl | rfl <;> exact ⟨_, rfl, by decide, by decide⟩
  obtain ⟨y, hy, hy4, hy5⟩ := hor
  have HSET1 := Lib.hid (hod12.set 1 (x := y) (by omega) hy5)
  clear hb11 hal12 hb12 hod12 HB10 HOD10 hback hflb
  go_wp2_with fail
  generalize (w11.alloc (.cells #[.int .i64 a0, .int .i64 a1, .int .i64 a2, .int .i64 a3, .int .i64 a4, .int .i64 a5, .bool a6, .bool a7, .int .i64 a8, .int .i64 a9] 50)) = w12 at HB12 hc1 hf1 HSET1 ⊢
  obtain ⟨w13, hw13⟩ : ∃ w13, w13 = w12.setCell ⟨hd, 1, none⟩ (.int .u8 y) := ⟨_, rfl⟩
  rw [← hw13]
  have hod13 := HSET1.out
  rw [← hw13] at hod13
  have hb13 : Below w.heap.size w w13 := by rw [hw13]; exact HB12.out.setCell (p := ⟨hd, 1, none⟩) hgd _
  have hrf : (readR (b.set 1 y)).2 ≠ 0 := readR_flag _ (by rw [List.getD_eq_getElem?_getD, List.getElem?_set_self (by omega)]; show (3 : Int) < y; omega)
  have HB13 := Lib.hid hb13
  have HOD13 := Lib.hid hod13.bs
  clear hw13 hod13 hb13 hc1 hf1 HSET1 HB12 hy hfl
  refine (HRD.out _ _ _ HB13.out HOD13.out).mono ?_
  rintro e w14 ⟨rfl, hb14⟩
  have hb14' := HB13.out.trans (hb14.mono HB13.out.size)
  generalize readR (b.set 1 y) = rc at hrf ⊢
  obtain ⟨⟨f0, f1, f2, f3, f4, f5, f6, f7, f8, f9⟩, c2⟩ := rc
  dsimp only [recV] at hrf ⊢
  have he : eC ea c2 = .iface 98 (.pointer (some (ea (c2 - 101).toNat))) := by unfold eC; rw [if_neg hrf]; rfl
  rw [he]
  generalize ea (c2 - 101).toNat = pc2
  have HBF := Lib.hid (hb14'.alloc hb14'.size (.cells #[.int .i64 f0, .int .i64 f1, .int .i64 f2, .int .i64 f3, .int .i64 f4, .int .i64 f5, .bool f6, .bool f7, .int .i64 f8, .int .i64 f9] 50))
  clear he hrf hb14 hb14' HB13 HOD13 HRD
  go_wp2_with fail
  go_ret
  exact ⟨rfl, HBF.out⟩

theorem recZeros_walk {ea : Nat → Addr} (v : Value) (l : List Int) (at_ by_ : Int) (h1 : -9223372036854775808 ≤ at_) (h2 : at_ ≤ 9223372036854775807) (h3 : 0 ≤ by_) (h4 : by_ ≤ 255) (w : World) (hs : E3 ea w) (hv : Ns .i64 w v l) :
    Calls Tryd.prog 10 #[v, .int .i64 at_, .int .u8 by_] w fun e w' => e = .returned (.bool true) ∧ Below w.heap.size w w' := by
  by_cases h : (60 : Int) < l.length ∨ by_ = 0
  · exact recZeros_idle v l at_ by_ w _ _ hs.r hv h
  · exact recZeros_walk0 v l at_ by_ h1 h2 (by omega) h4 w hs hv (by omega)
end Go.Proofs.YtabpmpaeakebmaaDoor
