/- The walk of the law RecNumbers. -/
import Derived.Test.YtabpmpaeakebmaaDoorRecR
import Derived.Test.YtabpmpaeakebmaaDoorRecT
import Derived.Test.YtabpmpaeakebmaaDoorRecF
import Derived.Test.YtabpmpaeakebmaaDoorRecQ
namespace Go.Proofs.YtabpmpaeakebmaaDoor
open Go.RowKit
set_option linter.unusedVariables false

set_option maxRecDepth 20000 in
set_option maxHeartbeats 4000000 in
theorem recNumbers_walk_true {ea : Nat → Addr} (old new : Int) (h1 : I64 old) (h2 : I64 new) (w : World) (hs : E3 ea w) :
    Calls Tryd.prog 12 #[.int .i64 old, .int .i64 new, .bool true] w fun e w' => e = .returned (.bool true) ∧ Below w.heap.size w w' := by
  have hrb := fun (r : RecD) w' hb hr hok => recBytes r w' hr _ (hs.below (w' := w') hb).r hok
  have hrd := fun v b w' hb hv => recRead (ea := ea) v b w' hv (hs.below (w' := w') hb)
  have hF := recFirst w _ _ hs.r
  have HF := Lib.hid hF
  have hokA : okR ⟨2, 60000, 32, 1073741824, 0, 1048575, true, true, old, new⟩ = true := by simp [okR, inB, txnTop, pageTop, prevB, nextB, keyB, valsB]; omega
  have hokB : okR ⟨3, 1, 1, 1073741824, 1073741824, 0, true, true, 1073741824, new⟩ = true := by simp [okR, inB, txnTop, pageTop, prevB, nextB, keyB, valsB]; omega
  have hwA : RecD.W ⟨2, 60000, 32, 1073741824, 0, 1048575, true, true, old, new⟩ := by constructor <;> first | exact h1 | exact h2 | (dsimp only; unfold I64; omega)
  have hwB : RecD.W ⟨3, 1, 1, 1073741824, 1073741824, 0, true, true, 1073741824, new⟩ := by constructor <;> first | exact h1 | exact h2 | (dsimp only; unfold I64; omega)
  have hbA := fun w' hb => hrb _ w' hb hwA hokA
  have hbB := fun w' hb => hrb _ w' hb hwB hokB
  have hbkA := readR_back hokA hwA
  have hbkB := readR_back hokB hwB
  have hsmA := fun W => sameRec ⟨2, 60000, 32, 1073741824, 0, 1048575, true, true, old, new⟩ ⟨2, 60000, 32, 1073741824, 0, 1048575, true, true, old, new⟩ W
  have hsmB := fun W => sameRec ⟨3, 1, 1, 1073741824, 1073741824, 0, true, true, 1073741824, new⟩ ⟨3, 1, 1, 1073741824, 1073741824, 0, true, true, 1073741824, new⟩ W
  have hsq := fun W => recSame ⟨2, 60000, 32, 1073741824, 0, 1048575, true, true, old, new⟩ ⟨3, 1, 1, 1073741824, 1073741824, 0, true, true, 1073741824, new⟩ W
  have eA : sameRB ⟨2, 60000, 32, 1073741824, 0, 1048575, true, true, old, new⟩ ⟨2, 60000, 32, 1073741824, 0, 1048575, true, true, old, new⟩ = true := (sameRB_iff _ _).2 rfl
  have eB : sameRB ⟨3, 1, 1, 1073741824, 1073741824, 0, true, true, 1073741824, new⟩ ⟨3, 1, 1, 1073741824, 1073741824, 0, true, true, 1073741824, new⟩ = true := (sameRB_iff _ _).2 rfl
  have eQ : sameRB ⟨2, 60000, 32, 1073741824, 0, 1048575, true, true, old, new⟩ ⟨3, 1, 1, 1073741824, 1073741824, 0, true, true, 1073741824, new⟩ = false := rfl
  rw [eA] at hsmA
  rw [eB] at hsmB
  rw [eQ] at hsq
  dsimp only [recV] at hbA hbB hsmA hsmB hsq
  generalize recB ⟨2, 60000, 32, 1073741824, 0, 1048575, true, true, old, new⟩ = bA at hbA hbkA
  generalize recB ⟨3, 1, 1, 1073741824, 1073741824, 0, true, true, 1073741824, new⟩ = bB at hbB hbkB
  have HA := Lib.hid hbA
  have HB := Lib.hid hbB
  have HRD := Lib.hid hrd
  have HSA := Lib.hid hsmA
  have HSB := Lib.hid hsmB
  have HSQ := Lib.hid hsq
  have HKA := Lib.hid hbkA
  have HKB := Lib.hid hbkB
  clear hrb hrd hF hokA hokB hwA hwB hbA hbB hbkA hbkB hsmA hsmB hsq eA eB eQ hs h1 h2
  go_enter Tryd.func12, Tryd.ntmps12
  go_wp2_with fail
  refine HF.out.mono ?_
  rintro e w1 ⟨rfl, hb1⟩
  obtain ⟨W, hW⟩ : ∃ W, W = (w1.alloc (.cells #[.int .i64 2, .int .i64 60000, .int .i64 32, .int .i64 1073741824, .int .i64 0, .int .i64 1048575, .bool true, .bool true, .int .i64 old, .int .i64 new] 50)).alloc (.cells #[.int .i64 3, .int .i64 1, .int .i64 1, .int .i64 1073741824, .int .i64 1073741824, .int .i64 0, .bool true, .bool true, .int .i64 1073741824, .int .i64 new] 50) := ⟨_, rfl⟩
  have hbw : Below w.heap.size w W := by rw [hW]; exact (hb1.alloc hb1.size _).alloc (by have := hb1.size; simp; omega) _
  have hra : RW w1.heap.size #[.int .i64 2, .int .i64 60000, .int .i64 32, .int .i64 1073741824, .int .i64 0, .int .i64 1048575, .bool true, .bool true, .int .i64 old, .int .i64 new] W := by
    rw [hW]; exact (RW.new w1 _).below ((Below.refl _ _).alloc (Nat.le_refl _) _)
  have hrb : RW (w1.heap.size + 1) #[.int .i64 3, .int .i64 1, .int .i64 1, .int .i64 1073741824, .int .i64 1073741824, .int .i64 0, .bool true, .bool true, .int .i64 1073741824, .int .i64 new] W := by
    have h := RW.new (w1.alloc (.cells #[.int .i64 2, .int .i64 60000, .int .i64 32, .int .i64 1073741824, .int .i64 0, .int .i64 1048575, .bool true, .bool true, .int .i64 old, .int .i64 new] 50)) #[.int .i64 3, .int .i64 1, .int .i64 1, .int .i64 1073741824, .int .i64 1073741824, .int .i64 0, .bool true, .bool true, .int .i64 1073741824, .int .i64 new]
    rw [← hW] at h; simpa using h
  have HW := Lib.hid hW
  have HBW := Lib.hid hbw
  have HRA := Lib.hid hra
  have HRB := Lib.hid hrb
  clear hW hbw hra hrb hb1 HF
  go_wp2_with fail
  rw [← HW.out]
  refine (HA.out W HBW.out).mono ?_
  rintro e w2 ⟨⟨x, rfl, hox⟩, hb2⟩
  have HB2 := Lib.hid (HBW.out.trans (hb2.mono HBW.out.size))
  have HRA2 := Lib.hid (HRA.out.below hb2)
  have HRB2 := Lib.hid (HRB.out.below hb2)
  have HX := Lib.hid hox.bs
  obtain ⟨d0, d1, d2, d3, d4, d5, d6, d7, d8, d9⟩ := HRB2.out.cells
  clear hb2 hox HRA HRB HBW HW HA
  go_wp2_with fail
  refine (HB.out _ HB2.out).mono ?_
  rintro e w3 ⟨⟨y, rfl, hoy⟩, hb3⟩
  have HB3 := Lib.hid (HB2.out.trans (hb3.mono HB2.out.size))
  have HRA3 := Lib.hid (HRA2.out.below hb3)
  have HRB3 := Lib.hid (HRB2.out.below hb3)
  have HY := Lib.hid hoy.bs
  have HX3 := Lib.hid (HX.out.below hb3)
  clear hb3 hoy HRA2 HRB2 HB2 HX HB d0 d1 d2 d3 d4 d5 d6 d7 d8 d9
  go_wp2_with fail
  refine (HRD.out _ _ _ HB3.out HX3.out).mono ?_
  rintro e w4 ⟨rfl, hb4⟩
  rw [HKA.out, eC_zero]
  dsimp only [recV]
  have hal4 : Below w4.heap.size w4 (w4.alloc (.cells #[.int .i64 2, .int .i64 60000, .int .i64 32, .int .i64 1073741824, .int .i64 0, .int .i64 1048575, .bool true, .bool true, .int .i64 old, .int .i64 new] 50)) := (Below.refl _ _).alloc (Nat.le_refl _) _
  have hb4' := hb4.trans (hal4.mono hb4.size)
  have HC4 := Lib.hid (RW.new w4 #[.int .i64 2, .int .i64 60000, .int .i64 32, .int .i64 1073741824, .int .i64 0, .int .i64 1048575, .bool true, .bool true, .int .i64 old, .int .i64 new])
  have HB4 := Lib.hid (HB3.out.trans (hb4'.mono HB3.out.size))
  have HRA4 := Lib.hid (HRA3.out.below hb4')
  have HRB4 := Lib.hid (HRB3.out.below hb4')
  have HY4 := Lib.hid (HY.out.below hb4')
  clear hb4 hb4' hal4 HRA3 HRB3 HB3 HY HX3 HKA
  go_wp2_with fail
  generalize (w4.alloc (.cells #[.int .i64 2, .int .i64 60000, .int .i64 32, .int .i64 1073741824, .int .i64 0, .int .i64 1048575, .bool true, .bool true, .int .i64 old, .int .i64 new] 50)) = w5 at HC4 HB4 HRA4 HRB4 HY4 ⊢
  generalize w4.heap.size = P4 at HC4 ⊢
  refine (HRD.out _ _ _ HB4.out HY4.out).mono ?_
  rintro e w6 ⟨rfl, hb6⟩
  rw [HKB.out, eC_zero]
  dsimp only [recV]
  have hal6 : Below w6.heap.size w6 (w6.alloc (.cells #[.int .i64 3, .int .i64 1, .int .i64 1, .int .i64 1073741824, .int .i64 1073741824, .int .i64 0, .bool true, .bool true, .int .i64 1073741824, .int .i64 new] 50)) := (Below.refl _ _).alloc (Nat.le_refl _) _
  have hb6' := hb6.trans (hal6.mono hb6.size)
  have HD6 := Lib.hid (RW.new w6 #[.int .i64 3, .int .i64 1, .int .i64 1, .int .i64 1073741824, .int .i64 1073741824, .int .i64 0, .bool true, .bool true, .int .i64 1073741824, .int .i64 new])
  have HB6 := Lib.hid (HB4.out.trans (hb6'.mono HB4.out.size))
  have HRA6 := Lib.hid (HRA4.out.below hb6')
  have HRB6 := Lib.hid (HRB4.out.below hb6')
  have HC6 := Lib.hid (HC4.out.below hb6')
  obtain ⟨c0, c1, c2, c3, c4, c5, c6, c7, c8, c9⟩ := HRA6.out.cells
  obtain ⟨d0, d1, d2, d3, d4, d5, d6, d7, d8, d9⟩ := HC6.out.cells
  clear hb6 hb6' hal6 HRA4 HRB4 HB4 HY4 HKB HC4 HRD
  go_wp2_with fail
  generalize (w6.alloc (.cells #[.int .i64 3, .int .i64 1, .int .i64 1, .int .i64 1073741824, .int .i64 1073741824, .int .i64 0, .bool true, .bool true, .int .i64 1073741824, .int .i64 new] 50)) = w7 at HD6 HB6 HRA6 HRB6 HC6 ⊢
  generalize w6.heap.size = P6 at HD6 ⊢
  refine (HSA.out _).mono ?_
  rintro e w8 ⟨rfl, hb8⟩
  have HB8 := Lib.hid (HB6.out.trans (hb8.mono HB6.out.size))
  have HRA8 := Lib.hid (HRA6.out.below hb8)
  have HRB8 := Lib.hid (HRB6.out.below hb8)
  have HD8 := Lib.hid (HD6.out.below hb8)
  clear hb8 HRA6 HRB6 HB6 HD6 HC6 HSA c0 c1 c2 c3 c4 c5 c6 c7 c8 c9 d0 d1 d2 d3 d4 d5 d6 d7 d8 d9
  obtain ⟨c0, c1, c2, c3, c4, c5, c6, c7, c8, c9⟩ := HRB8.out.cells
  obtain ⟨d0, d1, d2, d3, d4, d5, d6, d7, d8, d9⟩ := HD8.out.cells
  go_wp2_with fail
  refine (HSB.out _).mono ?_
  rintro e w9 ⟨rfl, hb9⟩
  have HB9 := Lib.hid (HB8.out.trans (hb9.mono HB8.out.size))
  have HRA9 := Lib.hid (HRA8.out.below hb9)
  have HRB9 := Lib.hid (HRB8.out.below hb9)
  clear hb9 HRA8 HRB8 HB8 HD8 HSB c0 c1 c2 c3 c4 c5 c6 c7 c8 c9 d0 d1 d2 d3 d4 d5 d6 d7 d8 d9
  obtain ⟨c0, c1, c2, c3, c4, c5, c6, c7, c8, c9⟩ := HRA9.out.cells
  obtain ⟨d0, d1, d2, d3, d4, d5, d6, d7, d8, d9⟩ := HRB9.out.cells
  go_wp2_with fail
  refine (HSQ.out _).mono ?_
  rintro e w10 ⟨rfl, hb10⟩
  have HB10 := HB9.out.trans (hb10.mono HB9.out.size)
  go_wp2_with fail
  go_ret
  exact ⟨rfl, HB10⟩

set_option maxRecDepth 20000 in
set_option maxHeartbeats 4000000 in
theorem recNumbers_walk_false {ea : Nat → Addr} (old new : Int) (h1 : I64 old) (h2 : I64 new) (w : World) (hs : E3 ea w) :
    Calls Tryd.prog 12 #[.int .i64 old, .int .i64 new, .bool false] w fun e w' => e = .returned (.bool true) ∧ Below w.heap.size w w' := by
  have hrb := fun (r : RecD) w' hb hr hok => recBytes r w' hr _ (hs.below (w' := w') hb).r hok
  have hrd := fun v b w' hb hv => recRead (ea := ea) v b w' hv (hs.below (w' := w') hb)
  have hF := recFirst w _ _ hs.r
  have HF := Lib.hid hF
  have hokA : okR ⟨2, 60000, 32, 0, 0, 1048575, true, true, old, new⟩ = true := by simp [okR, inB, txnTop, pageTop, prevB, nextB, keyB, valsB]; omega
  have hokB : okR ⟨3, 1, 1, 0, 0, 0, true, true, 1073741824, new⟩ = true := by simp [okR, inB, txnTop, pageTop, prevB, nextB, keyB, valsB]; omega
  have hwA : RecD.W ⟨2, 60000, 32, 0, 0, 1048575, true, true, old, new⟩ := by constructor <;> first | exact h1 | exact h2 | (dsimp only; unfold I64; omega)
  have hwB : RecD.W ⟨3, 1, 1, 0, 0, 0, true, true, 1073741824, new⟩ := by constructor <;> first | exact h1 | exact h2 | (dsimp only; unfold I64; omega)
  have hbA := fun w' hb => hrb _ w' hb hwA hokA
  have hbB := fun w' hb => hrb _ w' hb hwB hokB
  have hbkA := readR_back hokA hwA
  have hbkB := readR_back hokB hwB
  have hsmA := fun W => sameRec ⟨2, 60000, 32, 0, 0, 1048575, true, true, old, new⟩ ⟨2, 60000, 32, 0, 0, 1048575, true, true, old, new⟩ W
  have hsmB := fun W => sameRec ⟨3, 1, 1, 0, 0, 0, true, true, 1073741824, new⟩ ⟨3, 1, 1, 0, 0, 0, true, true, 1073741824, new⟩ W
  have hsq := fun W => recSame ⟨2, 60000, 32, 0, 0, 1048575, true, true, old, new⟩ ⟨3, 1, 1, 0, 0, 0, true, true, 1073741824, new⟩ W
  have eA : sameRB ⟨2, 60000, 32, 0, 0, 1048575, true, true, old, new⟩ ⟨2, 60000, 32, 0, 0, 1048575, true, true, old, new⟩ = true := (sameRB_iff _ _).2 rfl
  have eB : sameRB ⟨3, 1, 1, 0, 0, 0, true, true, 1073741824, new⟩ ⟨3, 1, 1, 0, 0, 0, true, true, 1073741824, new⟩ = true := (sameRB_iff _ _).2 rfl
  have eQ : sameRB ⟨2, 60000, 32, 0, 0, 1048575, true, true, old, new⟩ ⟨3, 1, 1, 0, 0, 0, true, true, 1073741824, new⟩ = false := rfl
  rw [eA] at hsmA
  rw [eB] at hsmB
  rw [eQ] at hsq
  dsimp only [recV] at hbA hbB hsmA hsmB hsq
  generalize recB ⟨2, 60000, 32, 0, 0, 1048575, true, true, old, new⟩ = bA at hbA hbkA
  generalize recB ⟨3, 1, 1, 0, 0, 0, true, true, 1073741824, new⟩ = bB at hbB hbkB
  have HA := Lib.hid hbA
  have HB := Lib.hid hbB
  have HRD := Lib.hid hrd
  have HSA := Lib.hid hsmA
  have HSB := Lib.hid hsmB
  have HSQ := Lib.hid hsq
  have HKA := Lib.hid hbkA
  have HKB := Lib.hid hbkB
  clear hrb hrd hF hokA hokB hwA hwB hbA hbB hbkA hbkB hsmA hsmB hsq eA eB eQ hs h1 h2
  go_enter Tryd.func12, Tryd.ntmps12
  go_wp2_with fail
  refine HF.out.mono ?_
  rintro e w1 ⟨rfl, hb1⟩
  obtain ⟨W, hW⟩ : ∃ W, W = (w1.alloc (.cells #[.int .i64 2, .int .i64 60000, .int .i64 32, .int .i64 0, .int .i64 0, .int .i64 1048575, .bool true, .bool true, .int .i64 old, .int .i64 new] 50)).alloc (.cells #[.int .i64 3, .int .i64 1, .int .i64 1, .int .i64 0, .int .i64 0, .int .i64 0, .bool true, .bool true, .int .i64 1073741824, .int .i64 new] 50) := ⟨_, rfl⟩
  have hbw : Below w.heap.size w W := by rw [hW]; exact (hb1.alloc hb1.size _).alloc (by have := hb1.size; simp; omega) _
  have hra : RW w1.heap.size #[.int .i64 2, .int .i64 60000, .int .i64 32, .int .i64 0, .int .i64 0, .int .i64 1048575, .bool true, .bool true, .int .i64 old, .int .i64 new] W := by
    rw [hW]; exact (RW.new w1 _).below ((Below.refl _ _).alloc (Nat.le_refl _) _)
  have hrb : RW (w1.heap.size + 1) #[.int .i64 3, .int .i64 1, .int .i64 1, .int .i64 0, .int .i64 0, .int .i64 0, .bool true, .bool true, .int .i64 1073741824, .int .i64 new] W := by
    have h := RW.new (w1.alloc (.cells #[.int .i64 2, .int .i64 60000, .int .i64 32, .int .i64 0, .int .i64 0, .int .i64 1048575, .bool true, .bool true, .int .i64 old, .int .i64 new] 50)) #[.int .i64 3, .int .i64 1, .int .i64 1, .int .i64 0, .int .i64 0, .int .i64 0, .bool true, .bool true, .int .i64 1073741824, .int .i64 new]
    rw [← hW] at h; simpa using h
  have HW := Lib.hid hW
  have HBW := Lib.hid hbw
  have HRA := Lib.hid hra
  have HRB := Lib.hid hrb
  clear hW hbw hra hrb hb1 HF
  go_wp2_with fail
  rw [← HW.out]
  refine (HA.out W HBW.out).mono ?_
  rintro e w2 ⟨⟨x, rfl, hox⟩, hb2⟩
  have HB2 := Lib.hid (HBW.out.trans (hb2.mono HBW.out.size))
  have HRA2 := Lib.hid (HRA.out.below hb2)
  have HRB2 := Lib.hid (HRB.out.below hb2)
  have HX := Lib.hid hox.bs
  obtain ⟨d0, d1, d2, d3, d4, d5, d6, d7, d8, d9⟩ := HRB2.out.cells
  clear hb2 hox HRA HRB HBW HW HA
  go_wp2_with fail
  refine (HB.out _ HB2.out).mono ?_
  rintro e w3 ⟨⟨y, rfl, hoy⟩, hb3⟩
  have HB3 := Lib.hid (HB2.out.trans (hb3.mono HB2.out.size))
  have HRA3 := Lib.hid (HRA2.out.below hb3)
  have HRB3 := Lib.hid (HRB2.out.below hb3)
  have HY := Lib.hid hoy.bs
  have HX3 := Lib.hid (HX.out.below hb3)
  clear hb3 hoy HRA2 HRB2 HB2 HX HB d0 d1 d2 d3 d4 d5 d6 d7 d8 d9
  go_wp2_with fail
  refine (HRD.out _ _ _ HB3.out HX3.out).mono ?_
  rintro e w4 ⟨rfl, hb4⟩
  rw [HKA.out, eC_zero]
  dsimp only [recV]
  have hal4 : Below w4.heap.size w4 (w4.alloc (.cells #[.int .i64 2, .int .i64 60000, .int .i64 32, .int .i64 0, .int .i64 0, .int .i64 1048575, .bool true, .bool true, .int .i64 old, .int .i64 new] 50)) := (Below.refl _ _).alloc (Nat.le_refl _) _
  have hb4' := hb4.trans (hal4.mono hb4.size)
  have HC4 := Lib.hid (RW.new w4 #[.int .i64 2, .int .i64 60000, .int .i64 32, .int .i64 0, .int .i64 0, .int .i64 1048575, .bool true, .bool true, .int .i64 old, .int .i64 new])
  have HB4 := Lib.hid (HB3.out.trans (hb4'.mono HB3.out.size))
  have HRA4 := Lib.hid (HRA3.out.below hb4')
  have HRB4 := Lib.hid (HRB3.out.below hb4')
  have HY4 := Lib.hid (HY.out.below hb4')
  clear hb4 hb4' hal4 HRA3 HRB3 HB3 HY HX3 HKA
  go_wp2_with fail
  generalize (w4.alloc (.cells #[.int .i64 2, .int .i64 60000, .int .i64 32, .int .i64 0, .int .i64 0, .int .i64 1048575, .bool true, .bool true, .int .i64 old, .int .i64 new] 50)) = w5 at HC4 HB4 HRA4 HRB4 HY4 ⊢
  generalize w4.heap.size = P4 at HC4 ⊢
  refine (HRD.out _ _ _ HB4.out HY4.out).mono ?_
  rintro e w6 ⟨rfl, hb6⟩
  rw [HKB.out, eC_zero]
  dsimp only [recV]
  have hal6 : Below w6.heap.size w6 (w6.alloc (.cells #[.int .i64 3, .int .i64 1, .int .i64 1, .int .i64 0, .int .i64 0, .int .i64 0, .bool true, .bool true, .int .i64 1073741824, .int .i64 new] 50)) := (Below.refl _ _).alloc (Nat.le_refl _) _
  have hb6' := hb6.trans (hal6.mono hb6.size)
  have HD6 := Lib.hid (RW.new w6 #[.int .i64 3, .int .i64 1, .int .i64 1, .int .i64 0, .int .i64 0, .int .i64 0, .bool true, .bool true, .int .i64 1073741824, .int .i64 new])
  have HB6 := Lib.hid (HB4.out.trans (hb6'.mono HB4.out.size))
  have HRA6 := Lib.hid (HRA4.out.below hb6')
  have HRB6 := Lib.hid (HRB4.out.below hb6')
  have HC6 := Lib.hid (HC4.out.below hb6')
  obtain ⟨c0, c1, c2, c3, c4, c5, c6, c7, c8, c9⟩ := HRA6.out.cells
  obtain ⟨d0, d1, d2, d3, d4, d5, d6, d7, d8, d9⟩ := HC6.out.cells
  clear hb6 hb6' hal6 HRA4 HRB4 HB4 HY4 HKB HC4 HRD
  go_wp2_with fail
  generalize (w6.alloc (.cells #[.int .i64 3, .int .i64 1, .int .i64 1, .int .i64 0, .int .i64 0, .int .i64 0, .bool true, .bool true, .int .i64 1073741824, .int .i64 new] 50)) = w7 at HD6 HB6 HRA6 HRB6 HC6 ⊢
  generalize w6.heap.size = P6 at HD6 ⊢
  refine (HSA.out _).mono ?_
  rintro e w8 ⟨rfl, hb8⟩
  have HB8 := Lib.hid (HB6.out.trans (hb8.mono HB6.out.size))
  have HRA8 := Lib.hid (HRA6.out.below hb8)
  have HRB8 := Lib.hid (HRB6.out.below hb8)
  have HD8 := Lib.hid (HD6.out.below hb8)
  clear hb8 HRA6 HRB6 HB6 HD6 HC6 HSA c0 c1 c2 c3 c4 c5 c6 c7 c8 c9 d0 d1 d2 d3 d4 d5 d6 d7 d8 d9
  obtain ⟨c0, c1, c2, c3, c4, c5, c6, c7, c8, c9⟩ := HRB8.out.cells
  obtain ⟨d0, d1, d2, d3, d4, d5, d6, d7, d8, d9⟩ := HD8.out.cells
  go_wp2_with fail
  refine (HSB.out _).mono ?_
  rintro e w9 ⟨rfl, hb9⟩
  have HB9 := Lib.hid (HB8.out.trans (hb9.mono HB8.out.size))
  have HRA9 := Lib.hid (HRA8.out.below hb9)
  have HRB9 := Lib.hid (HRB8.out.below hb9)
  clear hb9 HRA8 HRB8 HB8 HD8 HSB c0 c1 c2 c3 c4 c5 c6 c7 c8 c9 d0 d1 d2 d3 d4 d5 d6 d7 d8 d9
  obtain ⟨c0, c1, c2, c3, c4, c5, c6, c7, c8, c9⟩ := HRA9.out.cells
  obtain ⟨d0, d1, d2, d3, d4, d5, d6, d7, d8, d9⟩ := HRB9.out.cells
  go_wp2_with fail
  refine (HSQ.out _).mono ?_
  rintro e w10 ⟨rfl, hb10⟩
  have HB10 := HB9.out.trans (hb10.mono HB9.out.size)
  go_wp2_with fail
  go_ret
  exact ⟨rfl, HB10⟩

theorem recNumbers_walk {ea : Nat → Addr} (old new : Int) (h1 : I64 old) (h2 : I64 new) (last : Bool) (w : World) (hs : E3 ea w) :
    Calls Tryd.prog 12 #[.int .i64 old, .int .i64 new, .bool last] w fun e w' => e = .returned (.bool true) ∧ Below w.heap.size w w' := by
  cases last
  · exact recNumbers_walk_false old new h1 h2 w hs
  · exact recNumbers_walk_true old new h1 h2 w hs
end Go.Proofs.YtabpmpaeakebmaaDoor
