/- Contract: the document's RecBytes (one of four). -/
import Derived.Test.YtpgelebmhhcodaaDoorRecC
import Derived.Test.YtpgelebmhhcodaaDoorByteT
import Derived.Test.YtpgelebmhhcodaaDoorRecRow
namespace Go.Proofs.YtpgelebmhhcodaaDoor
open Go.RowKit
set_option linter.unusedVariables false

set_option maxRecDepth 20000 in
set_option maxHeartbeats 3200000 in
theorem recBytesRefFF (kind txn page prev next key old new : Int) (w : World) :
    Calls Tryd.prog 24 #[.agg #[.int .i64 kind, .int .i64 txn, .int .i64 page, .int .i64 prev, .int .i64 next, .int .i64 key, .bool false, .bool false, .int .i64 old, .int .i64 new]] w fun e w' => (∃ v, e = .returned v ∧ Ob 5 w.heap.size w' v (recB ⟨kind, txn, page, prev, next, key, false, false, old, new⟩)) ∧ Below w.heap.size w w' := by
  have hb : Below w.heap.size w (w.alloc (.cells #[.int .i64 kind, .int .i64 txn, .int .i64 page, .int .i64 prev, .int .i64 next, .int .i64 key, .bool false, .bool false, .int .i64 old, .int .i64 new] 24)) := (Below.refl _ _).alloc (Nat.le_refl _) _
  have hrow := RW.new w #[.int .i64 kind, .int .i64 txn, .int .i64 page, .int .i64 prev, .int .i64 next, .int .i64 key, .bool false, .bool false, .int .i64 old, .int .i64 new]
  have o1 : bits .or .u64 0 1 = 1 := by decide
  have o2 : bits .or .u64 0 2 = 2 := by decide
  have o3 : bits .or .u64 1 2 = 3 := by decide
  have hu : ∀ n : Int, 0 ≤ IntKind.u64.wrap n ∧ IntKind.u64.wrap n ≤ 18446744073709551615 := fun n => by rw [IntKind.wrap_u64]; omega
  have HU := Lib.hid hu
  clear hu
  obtain ⟨cur, hmk, hob⟩ := byteT.make (w.alloc (.cells #[.int .i64 kind, .int .i64 txn, .int .i64 page, .int .i64 prev, .int .i64 next, .int .i64 key, .bool false, .bool false, .int .i64 old, .int .i64 new] 24)) w.heap.size .i64 .i64 40 40 (by omega) (by omega) (by omega) hb.size
  rw [show (w.alloc (.cells #[.int .i64 kind, .int .i64 txn, .int .i64 page, .int .i64 prev, .int .i64 next, .int .i64 key, .bool false, .bool false, .int .i64 old, .int .i64 new] 24)).heap.size = w.heap.size + 1 by simp] at hmk hob
  rw [show Int.toNat 40 = 40 from rfl] at hmk hob
  have hal : Below (w.alloc (.cells #[.int .i64 kind, .int .i64 txn, .int .i64 page, .int .i64 prev, .int .i64 next, .int .i64 key, .bool false, .bool false, .int .i64 old, .int .i64 new] 24)).heap.size (w.alloc (.cells #[.int .i64 kind, .int .i64 txn, .int .i64 page, .int .i64 prev, .int .i64 next, .int .i64 key, .bool false, .bool false, .int .i64 old, .int .i64 new] 24)) ((w.alloc (.cells #[.int .i64 kind, .int .i64 txn, .int .i64 page, .int .i64 prev, .int .i64 next, .int .i64 key, .bool false, .bool false, .int .i64 old, .int .i64 new] 24)).alloc (.cells cur 5)) := (Below.refl _ _).alloc (Nat.le_refl _) _
  have HB0 := Lib.hid (hb.trans (hal.mono hb.size))
  have HR0 := Lib.hid (hrow.below hal)
  obtain ⟨b0, e0⟩ : ∃ b, b = List.replicate 40 (0 : Int) := ⟨_, rfl⟩
  rw [← e0] at hob
  have l0 : b0.length = 40 := by rw [e0, List.length_replicate]
  have HO0 := Lib.hid hob
  have HL0 := Lib.hid l0
  have HE0 := Lib.hid e0
  clear hob l0 e0 hb hrow hal
  go_enter Tryd.func24, Tryd.ntmps24
  go_wp2_with fail
  refine (putRef _ b0 0 1 (IntKind.u64.wrap kind) _ HO0.out.bs (by rw [HL0.out]; omega) (by omega) (by omega) (by omega) (by omega) (HU.out kind).1 (HU.out kind).2).mono ?_
  rintro e x1 ⟨v1, rfl, hx1, hob1⟩
  have HB1 := Lib.hid (HB0.out.trans (hx1.mono HB0.out.size))
  have HR1 := Lib.hid (HR0.out.below hx1)
  obtain ⟨b1, e1⟩ : ∃ b, b = putL b0 0 1 (IntKind.u64.wrap kind) := ⟨_, rfl⟩
  rw [← e1] at hob1
  have l1 : b1.length = 40 := by rw [e1, putL_length]; exact HL0.out
  have HO1 := Lib.hid (hob1.mono (base' := w.heap.size) HB0.out.size)
  have HL1 := Lib.hid l1
  have HE1 := Lib.hid e1
  clear hx1 hob1 e1 l1 HB0 HR0 HO0 HL0
  obtain ⟨c0, c1, c2, c3, c4, c5, c6, c7, c8, c9⟩ := HR1.out.cells
  go_wp2_with fail
  refine (putRef _ b1 1 1 0 _ HO1.out.bs (by rw [HL1.out]; omega) (by omega) (by omega) (by omega) (by omega) (by omega) (by omega)).mono ?_
  rintro e x2 ⟨v2, rfl, hx2, hob2⟩
  have HB2 := Lib.hid (HB1.out.trans (hx2.mono HB1.out.size))
  have HR2 := Lib.hid (HR1.out.below hx2)
  obtain ⟨b2, e2⟩ : ∃ b, b = putL b1 1 1 0 := ⟨_, rfl⟩
  rw [← e2] at hob2
  have l2 : b2.length = 40 := by rw [e2, putL_length]; exact HL1.out
  have HO2 := Lib.hid (hob2.mono (base' := w.heap.size) HB1.out.size)
  have HL2 := Lib.hid l2
  have HE2 := Lib.hid e2
  clear hx2 hob2 e2 l2 HB1 HR1 HO1 HL1
  clear c0 c1 c2 c3 c4 c5 c6 c7 c8 c9
  obtain ⟨c0, c1, c2, c3, c4, c5, c6, c7, c8, c9⟩ := HR2.out.cells
  go_wp2_with fail
  refine (putRef _ b2 2 2 (IntKind.u64.wrap txn) _ HO2.out.bs (by rw [HL2.out]; omega) (by omega) (by omega) (by omega) (by omega) (HU.out txn).1 (HU.out txn).2).mono ?_
  rintro e x3 ⟨v3, rfl, hx3, hob3⟩
  have HB3 := Lib.hid (HB2.out.trans (hx3.mono HB2.out.size))
  have HR3 := Lib.hid (HR2.out.below hx3)
  obtain ⟨b3, e3⟩ : ∃ b, b = putL b2 2 2 (IntKind.u64.wrap txn) := ⟨_, rfl⟩
  rw [← e3] at hob3
  have l3 : b3.length = 40 := by rw [e3, putL_length]; exact HL2.out
  have HO3 := Lib.hid (hob3.mono (base' := w.heap.size) HB2.out.size)
  have HL3 := Lib.hid l3
  have HE3 := Lib.hid e3
  clear hx3 hob3 e3 l3 HB2 HR2 HO2 HL2
  clear c0 c1 c2 c3 c4 c5 c6 c7 c8 c9
  obtain ⟨c0, c1, c2, c3, c4, c5, c6, c7, c8, c9⟩ := HR3.out.cells
  go_wp2_with fail
  refine (putRef _ b3 4 2 (IntKind.u64.wrap page) _ HO3.out.bs (by rw [HL3.out]; omega) (by omega) (by omega) (by omega) (by omega) (HU.out page).1 (HU.out page).2).mono ?_
  rintro e x4 ⟨v4, rfl, hx4, hob4⟩
  have HB4 := Lib.hid (HB3.out.trans (hx4.mono HB3.out.size))
  have HR4 := Lib.hid (HR3.out.below hx4)
  obtain ⟨b4, e4⟩ : ∃ b, b = putL b3 4 2 (IntKind.u64.wrap page) := ⟨_, rfl⟩
  rw [← e4] at hob4
  have l4 : b4.length = 40 := by rw [e4, putL_length]; exact HL3.out
  have HO4 := Lib.hid (hob4.mono (base' := w.heap.size) HB3.out.size)
  have HL4 := Lib.hid l4
  have HE4 := Lib.hid e4
  clear hx4 hob4 e4 l4 HB3 HR3 HO3 HL3
  clear c0 c1 c2 c3 c4 c5 c6 c7 c8 c9
  obtain ⟨c0, c1, c2, c3, c4, c5, c6, c7, c8, c9⟩ := HR4.out.cells
  go_wp2_with fail
  refine (putRef _ b4 8 4 (IntKind.u64.wrap prev) _ HO4.out.bs (by rw [HL4.out]; omega) (by omega) (by omega) (by omega) (by omega) (HU.out prev).1 (HU.out prev).2).mono ?_
  rintro e x5 ⟨v5, rfl, hx5, hob5⟩
  have HB5 := Lib.hid (HB4.out.trans (hx5.mono HB4.out.size))
  have HR5 := Lib.hid (HR4.out.below hx5)
  obtain ⟨b5, e5⟩ : ∃ b, b = putL b4 8 4 (IntKind.u64.wrap prev) := ⟨_, rfl⟩
  rw [← e5] at hob5
  have l5 : b5.length = 40 := by rw [e5, putL_length]; exact HL4.out
  have HO5 := Lib.hid (hob5.mono (base' := w.heap.size) HB4.out.size)
  have HL5 := Lib.hid l5
  have HE5 := Lib.hid e5
  clear hx5 hob5 e5 l5 HB4 HR4 HO4 HL4
  clear c0 c1 c2 c3 c4 c5 c6 c7 c8 c9
  obtain ⟨c0, c1, c2, c3, c4, c5, c6, c7, c8, c9⟩ := HR5.out.cells
  go_wp2_with fail
  refine (putRef _ b5 12 4 (IntKind.u64.wrap next) _ HO5.out.bs (by rw [HL5.out]; omega) (by omega) (by omega) (by omega) (by omega) (HU.out next).1 (HU.out next).2).mono ?_
  rintro e x6 ⟨v6, rfl, hx6, hob6⟩
  have HB6 := Lib.hid (HB5.out.trans (hx6.mono HB5.out.size))
  have HR6 := Lib.hid (HR5.out.below hx6)
  obtain ⟨b6, e6⟩ : ∃ b, b = putL b5 12 4 (IntKind.u64.wrap next) := ⟨_, rfl⟩
  rw [← e6] at hob6
  have l6 : b6.length = 40 := by rw [e6, putL_length]; exact HL5.out
  have HO6 := Lib.hid (hob6.mono (base' := w.heap.size) HB5.out.size)
  have HL6 := Lib.hid l6
  have HE6 := Lib.hid e6
  clear hx6 hob6 e6 l6 HB5 HR5 HO5 HL5
  clear c0 c1 c2 c3 c4 c5 c6 c7 c8 c9
  obtain ⟨c0, c1, c2, c3, c4, c5, c6, c7, c8, c9⟩ := HR6.out.cells
  go_wp2_with fail
  refine (putRef _ b6 16 4 (IntKind.u64.wrap key) _ HO6.out.bs (by rw [HL6.out]; omega) (by omega) (by omega) (by omega) (by omega) (HU.out key).1 (HU.out key).2).mono ?_
  rintro e x7 ⟨v7, rfl, hx7, hob7⟩
  have HB7 := Lib.hid (HB6.out.trans (hx7.mono HB6.out.size))
  have HR7 := Lib.hid (HR6.out.below hx7)
  obtain ⟨b7, e7⟩ : ∃ b, b = putL b6 16 4 (IntKind.u64.wrap key) := ⟨_, rfl⟩
  rw [← e7] at hob7
  have l7 : b7.length = 40 := by rw [e7, putL_length]; exact HL6.out
  have HO7 := Lib.hid (hob7.mono (base' := w.heap.size) HB6.out.size)
  have HL7 := Lib.hid l7
  have HE7 := Lib.hid e7
  clear hx7 hob7 e7 l7 HB6 HR6 HO6 HL6
  clear c0 c1 c2 c3 c4 c5 c6 c7 c8 c9
  obtain ⟨c0, c1, c2, c3, c4, c5, c6, c7, c8, c9⟩ := HR7.out.cells
  go_wp2_with fail
  refine (putRef _ b7 24 8 (IntKind.u64.wrap old) _ HO7.out.bs (by rw [HL7.out]; omega) (by omega) (by omega) (by omega) (by omega) (HU.out old).1 (HU.out old).2).mono ?_
  rintro e x8 ⟨v8, rfl, hx8, hob8⟩
  have HB8 := Lib.hid (HB7.out.trans (hx8.mono HB7.out.size))
  have HR8 := Lib.hid (HR7.out.below hx8)
  obtain ⟨b8, e8⟩ : ∃ b, b = putL b7 24 8 (IntKind.u64.wrap old) := ⟨_, rfl⟩
  rw [← e8] at hob8
  have l8 : b8.length = 40 := by rw [e8, putL_length]; exact HL7.out
  have HO8 := Lib.hid (hob8.mono (base' := w.heap.size) HB7.out.size)
  have HL8 := Lib.hid l8
  have HE8 := Lib.hid e8
  clear hx8 hob8 e8 l8 HB7 HR7 HO7 HL7
  clear c0 c1 c2 c3 c4 c5 c6 c7 c8 c9
  obtain ⟨c0, c1, c2, c3, c4, c5, c6, c7, c8, c9⟩ := HR8.out.cells
  go_wp2_with fail
  refine (putRef _ b8 32 8 (IntKind.u64.wrap new) _ HO8.out.bs (by rw [HL8.out]; omega) (by omega) (by omega) (by omega) (by omega) (HU.out new).1 (HU.out new).2).mono ?_
  rintro e x9 ⟨v9, rfl, hx9, hob9⟩
  have HB9 := Lib.hid (HB8.out.trans (hx9.mono HB8.out.size))
  have HR9 := Lib.hid (HR8.out.below hx9)
  obtain ⟨b9, e9⟩ : ∃ b, b = putL b8 32 8 (IntKind.u64.wrap new) := ⟨_, rfl⟩
  rw [← e9] at hob9
  have l9 : b9.length = 40 := by rw [e9, putL_length]; exact HL8.out
  have HO9 := Lib.hid (hob9.mono (base' := w.heap.size) HB8.out.size)
  have HL9 := Lib.hid l9
  have HE9 := Lib.hid e9
  clear hx9 hob9 e9 l9 HB8 HR8 HO8 HL8
  clear c0 c1 c2 c3 c4 c5 c6 c7 c8 c9
  obtain ⟨c0, c1, c2, c3, c4, c5, c6, c7, c8, c9⟩ := HR9.out.cells
  go_wp2_with fail
  go_ret
  have hfin : recB ⟨kind, txn, page, prev, next, key, false, false, old, new⟩ = b9 := by rw [HE9.out, HE8.out, HE7.out, HE6.out, HE5.out, HE4.out, HE3.out, HE2.out, HE1.out, HE0.out]; simp only [IntKind.wrap_u64]; rfl
  rw [hfin]
  exact ⟨⟨_, rfl, HO9.out⟩, HB9.out⟩

set_option maxRecDepth 20000 in
set_option maxHeartbeats 3200000 in
theorem recBytesRefFT (kind txn page prev next key old new : Int) (w : World) :
    Calls Tryd.prog 24 #[.agg #[.int .i64 kind, .int .i64 txn, .int .i64 page, .int .i64 prev, .int .i64 next, .int .i64 key, .bool false, .bool true, .int .i64 old, .int .i64 new]] w fun e w' => (∃ v, e = .returned v ∧ Ob 5 w.heap.size w' v (recB ⟨kind, txn, page, prev, next, key, false, true, old, new⟩)) ∧ Below w.heap.size w w' := by
  have hb : Below w.heap.size w (w.alloc (.cells #[.int .i64 kind, .int .i64 txn, .int .i64 page, .int .i64 prev, .int .i64 next, .int .i64 key, .bool false, .bool true, .int .i64 old, .int .i64 new] 24)) := (Below.refl _ _).alloc (Nat.le_refl _) _
  have hrow := RW.new w #[.int .i64 kind, .int .i64 txn, .int .i64 page, .int .i64 prev, .int .i64 next, .int .i64 key, .bool false, .bool true, .int .i64 old, .int .i64 new]
  have o1 : bits .or .u64 0 1 = 1 := by decide
  have o2 : bits .or .u64 0 2 = 2 := by decide
  have o3 : bits .or .u64 1 2 = 3 := by decide
  have hu : ∀ n : Int, 0 ≤ IntKind.u64.wrap n ∧ IntKind.u64.wrap n ≤ 18446744073709551615 := fun n => by rw [IntKind.wrap_u64]; omega
  have HU := Lib.hid hu
  clear hu
  obtain ⟨cur, hmk, hob⟩ := byteT.make (w.alloc (.cells #[.int .i64 kind, .int .i64 txn, .int .i64 page, .int .i64 prev, .int .i64 next, .int .i64 key, .bool false, .bool true, .int .i64 old, .int .i64 new] 24)) w.heap.size .i64 .i64 40 40 (by omega) (by omega) (by omega) hb.size
  rw [show (w.alloc (.cells #[.int .i64 kind, .int .i64 txn, .int .i64 page, .int .i64 prev, .int .i64 next, .int .i64 key, .bool false, .bool true, .int .i64 old, .int .i64 new] 24)).heap.size = w.heap.size + 1 by simp] at hmk hob
  rw [show Int.toNat 40 = 40 from rfl] at hmk hob
  have hal : Below (w.alloc (.cells #[.int .i64 kind, .int .i64 txn, .int .i64 page, .int .i64 prev, .int .i64 next, .int .i64 key, .bool false, .bool true, .int .i64 old, .int .i64 new] 24)).heap.size (w.alloc (.cells #[.int .i64 kind, .int .i64 txn, .int .i64 page, .int .i64 prev, .int .i64 next, .int .i64 key, .bool false, .bool true, .int .i64 old, .int .i64 new] 24)) ((w.alloc (.cells #[.int .i64 kind, .int .i64 txn, .int .i64 page, .int .i64 prev, .int .i64 next, .int .i64 key, .bool false, .bool true, .int .i64 old, .int .i64 new] 24)).alloc (.cells cur 5)) := (Below.refl _ _).alloc (Nat.le_refl _) _
  have HB0 := Lib.hid (hb.trans (hal.mono hb.size))
  have HR0 := Lib.hid (hrow.below hal)
  obtain ⟨b0, e0⟩ : ∃ b, b = List.replicate 40 (0 : Int) := ⟨_, rfl⟩
  rw [← e0] at hob
  have l0 : b0.length = 40 := by rw [e0, List.length_replicate]
  have HO0 := Lib.hid hob
  have HL0 := Lib.hid l0
  have HE0 := Lib.hid e0
  clear hob l0 e0 hb hrow hal
  go_enter Tryd.func24, Tryd.ntmps24
  go_wp2_with fail
  refine (putRef _ b0 0 1 (IntKind.u64.wrap kind) _ HO0.out.bs (by rw [HL0.out]; omega) (by omega) (by omega) (by omega) (by omega) (HU.out kind).1 (HU.out kind).2).mono ?_
  rintro e x1 ⟨v1, rfl, hx1, hob1⟩
  have HB1 := Lib.hid (HB0.out.trans (hx1.mono HB0.out.size))
  have HR1 := Lib.hid (HR0.out.below hx1)
  obtain ⟨b1, e1⟩ : ∃ b, b = putL b0 0 1 (IntKind.u64.wrap kind) := ⟨_, rfl⟩
  rw [← e1] at hob1
  have l1 : b1.length = 40 := by rw [e1, putL_length]; exact HL0.out
  have HO1 := Lib.hid (hob1.mono (base' := w.heap.size) HB0.out.size)
  have HL1 := Lib.hid l1
  have HE1 := Lib.hid e1
  clear hx1 hob1 e1 l1 HB0 HR0 HO0 HL0
  obtain ⟨c0, c1, c2, c3, c4, c5, c6, c7, c8, c9⟩ := HR1.out.cells
  go_wp2_with fail
  refine (putRef _ b1 1 1 2 _ HO1.out.bs (by rw [HL1.out]; omega) (by omega) (by omega) (by omega) (by omega) (by omega) (by omega)).mono ?_
  rintro e x2 ⟨v2, rfl, hx2, hob2⟩
  have HB2 := Lib.hid (HB1.out.trans (hx2.mono HB1.out.size))
  have HR2 := Lib.hid (HR1.out.below hx2)
  obtain ⟨b2, e2⟩ : ∃ b, b = putL b1 1 1 2 := ⟨_, rfl⟩
  rw [← e2] at hob2
  have l2 : b2.length = 40 := by rw [e2, putL_length]; exact HL1.out
  have HO2 := Lib.hid (hob2.mono (base' := w.heap.size) HB1.out.size)
  have HL2 := Lib.hid l2
  have HE2 := Lib.hid e2
  clear hx2 hob2 e2 l2 HB1 HR1 HO1 HL1
  clear c0 c1 c2 c3 c4 c5 c6 c7 c8 c9
  obtain ⟨c0, c1, c2, c3, c4, c5, c6, c7, c8, c9⟩ := HR2.out.cells
  go_wp2_with fail
  refine (putRef _ b2 2 2 (IntKind.u64.wrap txn) _ HO2.out.bs (by rw [HL2.out]; omega) (by omega) (by omega) (by omega) (by omega) (HU.out txn).1 (HU.out txn).2).mono ?_
  rintro e x3 ⟨v3, rfl, hx3, hob3⟩
  have HB3 := Lib.hid (HB2.out.trans (hx3.mono HB2.out.size))
  have HR3 := Lib.hid (HR2.out.below hx3)
  obtain ⟨b3, e3⟩ : ∃ b, b = putL b2 2 2 (IntKind.u64.wrap txn) := ⟨_, rfl⟩
  rw [← e3] at hob3
  have l3 : b3.length = 40 := by rw [e3, putL_length]; exact HL2.out
  have HO3 := Lib.hid (hob3.mono (base' := w.heap.size) HB2.out.size)
  have HL3 := Lib.hid l3
  have HE3 := Lib.hid e3
  clear hx3 hob3 e3 l3 HB2 HR2 HO2 HL2
  clear c0 c1 c2 c3 c4 c5 c6 c7 c8 c9
  obtain ⟨c0, c1, c2, c3, c4, c5, c6, c7, c8, c9⟩ := HR3.out.cells
  go_wp2_with fail
  refine (putRef _ b3 4 2 (IntKind.u64.wrap page) _ HO3.out.bs (by rw [HL3.out]; omega) (by omega) (by omega) (by omega) (by omega) (HU.out page).1 (HU.out page).2).mono ?_
  rintro e x4 ⟨v4, rfl, hx4, hob4⟩
  have HB4 := Lib.hid (HB3.out.trans (hx4.mono HB3.out.size))
  have HR4 := Lib.hid (HR3.out.below hx4)
  obtain ⟨b4, e4⟩ : ∃ b, b = putL b3 4 2 (IntKind.u64.wrap page) := ⟨_, rfl⟩
  rw [← e4] at hob4
  have l4 : b4.length = 40 := by rw [e4, putL_length]; exact HL3.out
  have HO4 := Lib.hid (hob4.mono (base' := w.heap.size) HB3.out.size)
  have HL4 := Lib.hid l4
  have HE4 := Lib.hid e4
  clear hx4 hob4 e4 l4 HB3 HR3 HO3 HL3
  clear c0 c1 c2 c3 c4 c5 c6 c7 c8 c9
  obtain ⟨c0, c1, c2, c3, c4, c5, c6, c7, c8, c9⟩ := HR4.out.cells
  go_wp2_with fail
  refine (putRef _ b4 8 4 (IntKind.u64.wrap prev) _ HO4.out.bs (by rw [HL4.out]; omega) (by omega) (by omega) (by omega) (by omega) (HU.out prev).1 (HU.out prev).2).mono ?_
  rintro e x5 ⟨v5, rfl, hx5, hob5⟩
  have HB5 := Lib.hid (HB4.out.trans (hx5.mono HB4.out.size))
  have HR5 := Lib.hid (HR4.out.below hx5)
  obtain ⟨b5, e5⟩ : ∃ b, b = putL b4 8 4 (IntKind.u64.wrap prev) := ⟨_, rfl⟩
  rw [← e5] at hob5
  have l5 : b5.length = 40 := by rw [e5, putL_length]; exact HL4.out
  have HO5 := Lib.hid (hob5.mono (base' := w.heap.size) HB4.out.size)
  have HL5 := Lib.hid l5
  have HE5 := Lib.hid e5
  clear hx5 hob5 e5 l5 HB4 HR4 HO4 HL4
  clear c0 c1 c2 c3 c4 c5 c6 c7 c8 c9
  obtain ⟨c0, c1, c2, c3, c4, c5, c6, c7, c8, c9⟩ := HR5.out.cells
  go_wp2_with fail
  refine (putRef _ b5 12 4 (IntKind.u64.wrap next) _ HO5.out.bs (by rw [HL5.out]; omega) (by omega) (by omega) (by omega) (by omega) (HU.out next).1 (HU.out next).2).mono ?_
  rintro e x6 ⟨v6, rfl, hx6, hob6⟩
  have HB6 := Lib.hid (HB5.out.trans (hx6.mono HB5.out.size))
  have HR6 := Lib.hid (HR5.out.below hx6)
  obtain ⟨b6, e6⟩ : ∃ b, b = putL b5 12 4 (IntKind.u64.wrap next) := ⟨_, rfl⟩
  rw [← e6] at hob6
  have l6 : b6.length = 40 := by rw [e6, putL_length]; exact HL5.out
  have HO6 := Lib.hid (hob6.mono (base' := w.heap.size) HB5.out.size)
  have HL6 := Lib.hid l6
  have HE6 := Lib.hid e6
  clear hx6 hob6 e6 l6 HB5 HR5 HO5 HL5
  clear c0 c1 c2 c3 c4 c5 c6 c7 c8 c9
  obtain ⟨c0, c1, c2, c3, c4, c5, c6, c7, c8, c9⟩ := HR6.out.cells
  go_wp2_with fail
  refine (putRef _ b6 16 4 (IntKind.u64.wrap key) _ HO6.out.bs (by rw [HL6.out]; omega) (by omega) (by omega) (by omega) (by omega) (HU.out key).1 (HU.out key).2).mono ?_
  rintro e x7 ⟨v7, rfl, hx7, hob7⟩
  have HB7 := Lib.hid (HB6.out.trans (hx7.mono HB6.out.size))
  have HR7 := Lib.hid (HR6.out.below hx7)
  obtain ⟨b7, e7⟩ : ∃ b, b = putL b6 16 4 (IntKind.u64.wrap key) := ⟨_, rfl⟩
  rw [← e7] at hob7
  have l7 : b7.length = 40 := by rw [e7, putL_length]; exact HL6.out
  have HO7 := Lib.hid (hob7.mono (base' := w.heap.size) HB6.out.size)
  have HL7 := Lib.hid l7
  have HE7 := Lib.hid e7
  clear hx7 hob7 e7 l7 HB6 HR6 HO6 HL6
  clear c0 c1 c2 c3 c4 c5 c6 c7 c8 c9
  obtain ⟨c0, c1, c2, c3, c4, c5, c6, c7, c8, c9⟩ := HR7.out.cells
  go_wp2_with fail
  refine (putRef _ b7 24 8 (IntKind.u64.wrap old) _ HO7.out.bs (by rw [HL7.out]; omega) (by omega) (by omega) (by omega) (by omega) (HU.out old).1 (HU.out old).2).mono ?_
  rintro e x8 ⟨v8, rfl, hx8, hob8⟩
  have HB8 := Lib.hid (HB7.out.trans (hx8.mono HB7.out.size))
  have HR8 := Lib.hid (HR7.out.below hx8)
  obtain ⟨b8, e8⟩ : ∃ b, b = putL b7 24 8 (IntKind.u64.wrap old) := ⟨_, rfl⟩
  rw [← e8] at hob8
  have l8 : b8.length = 40 := by rw [e8, putL_length]; exact HL7.out
  have HO8 := Lib.hid (hob8.mono (base' := w.heap.size) HB7.out.size)
  have HL8 := Lib.hid l8
  have HE8 := Lib.hid e8
  clear hx8 hob8 e8 l8 HB7 HR7 HO7 HL7
  clear c0 c1 c2 c3 c4 c5 c6 c7 c8 c9
  obtain ⟨c0, c1, c2, c3, c4, c5, c6, c7, c8, c9⟩ := HR8.out.cells
  go_wp2_with fail
  refine (putRef _ b8 32 8 (IntKind.u64.wrap new) _ HO8.out.bs (by rw [HL8.out]; omega) (by omega) (by omega) (by omega) (by omega) (HU.out new).1 (HU.out new).2).mono ?_
  rintro e x9 ⟨v9, rfl, hx9, hob9⟩
  have HB9 := Lib.hid (HB8.out.trans (hx9.mono HB8.out.size))
  have HR9 := Lib.hid (HR8.out.below hx9)
  obtain ⟨b9, e9⟩ : ∃ b, b = putL b8 32 8 (IntKind.u64.wrap new) := ⟨_, rfl⟩
  rw [← e9] at hob9
  have l9 : b9.length = 40 := by rw [e9, putL_length]; exact HL8.out
  have HO9 := Lib.hid (hob9.mono (base' := w.heap.size) HB8.out.size)
  have HL9 := Lib.hid l9
  have HE9 := Lib.hid e9
  clear hx9 hob9 e9 l9 HB8 HR8 HO8 HL8
  clear c0 c1 c2 c3 c4 c5 c6 c7 c8 c9
  obtain ⟨c0, c1, c2, c3, c4, c5, c6, c7, c8, c9⟩ := HR9.out.cells
  go_wp2_with fail
  go_ret
  have hfin : recB ⟨kind, txn, page, prev, next, key, false, true, old, new⟩ = b9 := by rw [HE9.out, HE8.out, HE7.out, HE6.out, HE5.out, HE4.out, HE3.out, HE2.out, HE1.out, HE0.out]; simp only [IntKind.wrap_u64]; rfl
  rw [hfin]
  exact ⟨⟨_, rfl, HO9.out⟩, HB9.out⟩

set_option maxRecDepth 20000 in
set_option maxHeartbeats 3200000 in
theorem recBytesRefTF (kind txn page prev next key old new : Int) (w : World) :
    Calls Tryd.prog 24 #[.agg #[.int .i64 kind, .int .i64 txn, .int .i64 page, .int .i64 prev, .int .i64 next, .int .i64 key, .bool true, .bool false, .int .i64 old, .int .i64 new]] w fun e w' => (∃ v, e = .returned v ∧ Ob 5 w.heap.size w' v (recB ⟨kind, txn, page, prev, next, key, true, false, old, new⟩)) ∧ Below w.heap.size w w' := by
  have hb : Below w.heap.size w (w.alloc (.cells #[.int .i64 kind, .int .i64 txn, .int .i64 page, .int .i64 prev, .int .i64 next, .int .i64 key, .bool true, .bool false, .int .i64 old, .int .i64 new] 24)) := (Below.refl _ _).alloc (Nat.le_refl _) _
  have hrow := RW.new w #[.int .i64 kind, .int .i64 txn, .int .i64 page, .int .i64 prev, .int .i64 next, .int .i64 key, .bool true, .bool false, .int .i64 old, .int .i64 new]
  have o1 : bits .or .u64 0 1 = 1 := by decide
  have o2 : bits .or .u64 0 2 = 2 := by decide
  have o3 : bits .or .u64 1 2 = 3 := by decide
  have hu : ∀ n : Int, 0 ≤ IntKind.u64.wrap n ∧ IntKind.u64.wrap n ≤ 18446744073709551615 := fun n => by rw [IntKind.wrap_u64]; omega
  have HU := Lib.hid hu
  clear hu
  obtain ⟨cur, hmk, hob⟩ := byteT.make (w.alloc (.cells #[.int .i64 kind, .int .i64 txn, .int .i64 page, .int .i64 prev, .int .i64 next, .int .i64 key, .bool true, .bool false, .int .i64 old, .int .i64 new] 24)) w.heap.size .i64 .i64 40 40 (by omega) (by omega) (by omega) hb.size
  rw [show (w.alloc (.cells #[.int .i64 kind, .int .i64 txn, .int .i64 page, .int .i64 prev, .int .i64 next, .int .i64 key, .bool true, .bool false, .int .i64 old, .int .i64 new] 24)).heap.size = w.heap.size + 1 by simp] at hmk hob
  rw [show Int.toNat 40 = 40 from rfl] at hmk hob
  have hal : Below (w.alloc (.cells #[.int .i64 kind, .int .i64 txn, .int .i64 page, .int .i64 prev, .int .i64 next, .int .i64 key, .bool true, .bool false, .int .i64 old, .int .i64 new] 24)).heap.size (w.alloc (.cells #[.int .i64 kind, .int .i64 txn, .int .i64 page, .int .i64 prev, .int .i64 next, .int .i64 key, .bool true, .bool false, .int .i64 old, .int .i64 new] 24)) ((w.alloc (.cells #[.int .i64 kind, .int .i64 txn, .int .i64 page, .int .i64 prev, .int .i64 next, .int .i64 key, .bool true, .bool false, .int .i64 old, .int .i64 new] 24)).alloc (.cells cur 5)) := (Below.refl _ _).alloc (Nat.le_refl _) _
  have HB0 := Lib.hid (hb.trans (hal.mono hb.size))
  have HR0 := Lib.hid (hrow.below hal)
  obtain ⟨b0, e0⟩ : ∃ b, b = List.replicate 40 (0 : Int) := ⟨_, rfl⟩
  rw [← e0] at hob
  have l0 : b0.length = 40 := by rw [e0, List.length_replicate]
  have HO0 := Lib.hid hob
  have HL0 := Lib.hid l0
  have HE0 := Lib.hid e0
  clear hob l0 e0 hb hrow hal
  go_enter Tryd.func24, Tryd.ntmps24
  go_wp2_with fail
  refine (putRef _ b0 0 1 (IntKind.u64.wrap kind) _ HO0.out.bs (by rw [HL0.out]; omega) (by omega) (by omega) (by omega) (by omega) (HU.out kind).1 (HU.out kind).2).mono ?_
  rintro e x1 ⟨v1, rfl, hx1, hob1⟩
  have HB1 := Lib.hid (HB0.out.trans (hx1.mono HB0.out.size))
  have HR1 := Lib.hid (HR0.out.below hx1)
  obtain ⟨b1, e1⟩ : ∃ b, b = putL b0 0 1 (IntKind.u64.wrap kind) := ⟨_, rfl⟩
  rw [← e1] at hob1
  have l1 : b1.length = 40 := by rw [e1, putL_length]; exact HL0.out
  have HO1 := Lib.hid (hob1.mono (base' := w.heap.size) HB0.out.size)
  have HL1 := Lib.hid l1
  have HE1 := Lib.hid e1
  clear hx1 hob1 e1 l1 HB0 HR0 HO0 HL0
  obtain ⟨c0, c1, c2, c3, c4, c5, c6, c7, c8, c9⟩ := HR1.out.cells
  go_wp2_with fail
  refine (putRef _ b1 1 1 1 _ HO1.out.bs (by rw [HL1.out]; omega) (by omega) (by omega) (by omega) (by omega) (by omega) (by omega)).mono ?_
  rintro e x2 ⟨v2, rfl, hx2, hob2⟩
  have HB2 := Lib.hid (HB1.out.trans (hx2.mono HB1.out.size))
  have HR2 := Lib.hid (HR1.out.below hx2)
  obtain ⟨b2, e2⟩ : ∃ b, b = putL b1 1 1 1 := ⟨_, rfl⟩
  rw [← e2] at hob2
  have l2 : b2.length = 40 := by rw [e2, putL_length]; exact HL1.out
  have HO2 := Lib.hid (hob2.mono (base' := w.heap.size) HB1.out.size)
  have HL2 := Lib.hid l2
  have HE2 := Lib.hid e2
  clear hx2 hob2 e2 l2 HB1 HR1 HO1 HL1
  clear c0 c1 c2 c3 c4 c5 c6 c7 c8 c9
  obtain ⟨c0, c1, c2, c3, c4, c5, c6, c7, c8, c9⟩ := HR2.out.cells
  go_wp2_with fail
  refine (putRef _ b2 2 2 (IntKind.u64.wrap txn) _ HO2.out.bs (by rw [HL2.out]; omega) (by omega) (by omega) (by omega) (by omega) (HU.out txn).1 (HU.out txn).2).mono ?_
  rintro e x3 ⟨v3, rfl, hx3, hob3⟩
  have HB3 := Lib.hid (HB2.out.trans (hx3.mono HB2.out.size))
  have HR3 := Lib.hid (HR2.out.below hx3)
  obtain ⟨b3, e3⟩ : ∃ b, b = putL b2 2 2 (IntKind.u64.wrap txn) := ⟨_, rfl⟩
  rw [← e3] at hob3
  have l3 : b3.length = 40 := by rw [e3, putL_length]; exact HL2.out
  have HO3 := Lib.hid (hob3.mono (base' := w.heap.size) HB2.out.size)
  have HL3 := Lib.hid l3
  have HE3 := Lib.hid e3
  clear hx3 hob3 e3 l3 HB2 HR2 HO2 HL2
  clear c0 c1 c2 c3 c4 c5 c6 c7 c8 c9
  obtain ⟨c0, c1, c2, c3, c4, c5, c6, c7, c8, c9⟩ := HR3.out.cells
  go_wp2_with fail
  refine (putRef _ b3 4 2 (IntKind.u64.wrap page) _ HO3.out.bs (by rw [HL3.out]; omega) (by omega) (by omega) (by omega) (by omega) (HU.out page).1 (HU.out page).2).mono ?_
  rintro e x4 ⟨v4, rfl, hx4, hob4⟩
  have HB4 := Lib.hid (HB3.out.trans (hx4.mono HB3.out.size))
  have HR4 := Lib.hid (HR3.out.below hx4)
  obtain ⟨b4, e4⟩ : ∃ b, b = putL b3 4 2 (IntKind.u64.wrap page) := ⟨_, rfl⟩
  rw [← e4] at hob4
  have l4 : b4.length = 40 := by rw [e4, putL_length]; exact HL3.out
  have HO4 := Lib.hid (hob4.mono (base' := w.heap.size) HB3.out.size)
  have HL4 := Lib.hid l4
  have HE4 := Lib.hid e4
  clear hx4 hob4 e4 l4 HB3 HR3 HO3 HL3
  clear c0 c1 c2 c3 c4 c5 c6 c7 c8 c9
  obtain ⟨c0, c1, c2, c3, c4, c5, c6, c7, c8, c9⟩ := HR4.out.cells
  go_wp2_with fail
  refine (putRef _ b4 8 4 (IntKind.u64.wrap prev) _ HO4.out.bs (by rw [HL4.out]; omega) (by omega) (by omega) (by omega) (by omega) (HU.out prev).1 (HU.out prev).2).mono ?_
  rintro e x5 ⟨v5, rfl, hx5, hob5⟩
  have HB5 := Lib.hid (HB4.out.trans (hx5.mono HB4.out.size))
  have HR5 := Lib.hid (HR4.out.below hx5)
  obtain ⟨b5, e5⟩ : ∃ b, b = putL b4 8 4 (IntKind.u64.wrap prev) := ⟨_, rfl⟩
  rw [← e5] at hob5
  have l5 : b5.length = 40 := by rw [e5, putL_length]; exact HL4.out
  have HO5 := Lib.hid (hob5.mono (base' := w.heap.size) HB4.out.size)
  have HL5 := Lib.hid l5
  have HE5 := Lib.hid e5
  clear hx5 hob5 e5 l5 HB4 HR4 HO4 HL4
  clear c0 c1 c2 c3 c4 c5 c6 c7 c8 c9
  obtain ⟨c0, c1, c2, c3, c4, c5, c6, c7, c8, c9⟩ := HR5.out.cells
  go_wp2_with fail
  refine (putRef _ b5 12 4 (IntKind.u64.wrap next) _ HO5.out.bs (by rw [HL5.out]; omega) (by omega) (by omega) (by omega) (by omega) (HU.out next).1 (HU.out next).2).mono ?_
  rintro e x6 ⟨v6, rfl, hx6, hob6⟩
  have HB6 := Lib.hid (HB5.out.trans (hx6.mono HB5.out.size))
  have HR6 := Lib.hid (HR5.out.below hx6)
  obtain ⟨b6, e6⟩ : ∃ b, b = putL b5 12 4 (IntKind.u64.wrap next) := ⟨_, rfl⟩
  rw [← e6] at hob6
  have l6 : b6.length = 40 := by rw [e6, putL_length]; exact HL5.out
  have HO6 := Lib.hid (hob6.mono (base' := w.heap.size) HB5.out.size)
  have HL6 := Lib.hid l6
  have HE6 := Lib.hid e6
  clear hx6 hob6 e6 l6 HB5 HR5 HO5 HL5
  clear c0 c1 c2 c3 c4 c5 c6 c7 c8 c9
  obtain ⟨c0, c1, c2, c3, c4, c5, c6, c7, c8, c9⟩ := HR6.out.cells
  go_wp2_with fail
  refine (putRef _ b6 16 4 (IntKind.u64.wrap key) _ HO6.out.bs (by rw [HL6.out]; omega) (by omega) (by omega) (by omega) (by omega) (HU.out key).1 (HU.out key).2).mono ?_
  rintro e x7 ⟨v7, rfl, hx7, hob7⟩
  have HB7 := Lib.hid (HB6.out.trans (hx7.mono HB6.out.size))
  have HR7 := Lib.hid (HR6.out.below hx7)
  obtain ⟨b7, e7⟩ : ∃ b, b = putL b6 16 4 (IntKind.u64.wrap key) := ⟨_, rfl⟩
  rw [← e7] at hob7
  have l7 : b7.length = 40 := by rw [e7, putL_length]; exact HL6.out
  have HO7 := Lib.hid (hob7.mono (base' := w.heap.size) HB6.out.size)
  have HL7 := Lib.hid l7
  have HE7 := Lib.hid e7
  clear hx7 hob7 e7 l7 HB6 HR6 HO6 HL6
  clear c0 c1 c2 c3 c4 c5 c6 c7 c8 c9
  obtain ⟨c0, c1, c2, c3, c4, c5, c6, c7, c8, c9⟩ := HR7.out.cells
  go_wp2_with fail
  refine (putRef _ b7 24 8 (IntKind.u64.wrap old) _ HO7.out.bs (by rw [HL7.out]; omega) (by omega) (by omega) (by omega) (by omega) (HU.out old).1 (HU.out old).2).mono ?_
  rintro e x8 ⟨v8, rfl, hx8, hob8⟩
  have HB8 := Lib.hid (HB7.out.trans (hx8.mono HB7.out.size))
  have HR8 := Lib.hid (HR7.out.below hx8)
  obtain ⟨b8, e8⟩ : ∃ b, b = putL b7 24 8 (IntKind.u64.wrap old) := ⟨_, rfl⟩
  rw [← e8] at hob8
  have l8 : b8.length = 40 := by rw [e8, putL_length]; exact HL7.out
  have HO8 := Lib.hid (hob8.mono (base' := w.heap.size) HB7.out.size)
  have HL8 := Lib.hid l8
  have HE8 := Lib.hid e8
  clear hx8 hob8 e8 l8 HB7 HR7 HO7 HL7
  clear c0 c1 c2 c3 c4 c5 c6 c7 c8 c9
  obtain ⟨c0, c1, c2, c3, c4, c5, c6, c7, c8, c9⟩ := HR8.out.cells
  go_wp2_with fail
  refine (putRef _ b8 32 8 (IntKind.u64.wrap new) _ HO8.out.bs (by rw [HL8.out]; omega) (by omega) (by omega) (by omega) (by omega) (HU.out new).1 (HU.out new).2).mono ?_
  rintro e x9 ⟨v9, rfl, hx9, hob9⟩
  have HB9 := Lib.hid (HB8.out.trans (hx9.mono HB8.out.size))
  have HR9 := Lib.hid (HR8.out.below hx9)
  obtain ⟨b9, e9⟩ : ∃ b, b = putL b8 32 8 (IntKind.u64.wrap new) := ⟨_, rfl⟩
  rw [← e9] at hob9
  have l9 : b9.length = 40 := by rw [e9, putL_length]; exact HL8.out
  have HO9 := Lib.hid (hob9.mono (base' := w.heap.size) HB8.out.size)
  have HL9 := Lib.hid l9
  have HE9 := Lib.hid e9
  clear hx9 hob9 e9 l9 HB8 HR8 HO8 HL8
  clear c0 c1 c2 c3 c4 c5 c6 c7 c8 c9
  obtain ⟨c0, c1, c2, c3, c4, c5, c6, c7, c8, c9⟩ := HR9.out.cells
  go_wp2_with fail
  go_ret
  have hfin : recB ⟨kind, txn, page, prev, next, key, true, false, old, new⟩ = b9 := by rw [HE9.out, HE8.out, HE7.out, HE6.out, HE5.out, HE4.out, HE3.out, HE2.out, HE1.out, HE0.out]; simp only [IntKind.wrap_u64]; rfl
  rw [hfin]
  exact ⟨⟨_, rfl, HO9.out⟩, HB9.out⟩

set_option maxRecDepth 20000 in
set_option maxHeartbeats 3200000 in
theorem recBytesRefTT (kind txn page prev next key old new : Int) (w : World) :
    Calls Tryd.prog 24 #[.agg #[.int .i64 kind, .int .i64 txn, .int .i64 page, .int .i64 prev, .int .i64 next, .int .i64 key, .bool true, .bool true, .int .i64 old, .int .i64 new]] w fun e w' => (∃ v, e = .returned v ∧ Ob 5 w.heap.size w' v (recB ⟨kind, txn, page, prev, next, key, true, true, old, new⟩)) ∧ Below w.heap.size w w' := by
  have hb : Below w.heap.size w (w.alloc (.cells #[.int .i64 kind, .int .i64 txn, .int .i64 page, .int .i64 prev, .int .i64 next, .int .i64 key, .bool true, .bool true, .int .i64 old, .int .i64 new] 24)) := (Below.refl _ _).alloc (Nat.le_refl _) _
  have hrow := RW.new w #[.int .i64 kind, .int .i64 txn, .int .i64 page, .int .i64 prev, .int .i64 next, .int .i64 key, .bool true, .bool true, .int .i64 old, .int .i64 new]
  have o1 : bits .or .u64 0 1 = 1 := by decide
  have o2 : bits .or .u64 0 2 = 2 := by decide
  have o3 : bits .or .u64 1 2 = 3 := by decide
  have hu : ∀ n : Int, 0 ≤ IntKind.u64.wrap n ∧ IntKind.u64.wrap n ≤ 18446744073709551615 := fun n => by rw [IntKind.wrap_u64]; omega
  have HU := Lib.hid hu
  clear hu
  obtain ⟨cur, hmk, hob⟩ := byteT.make (w.alloc (.cells #[.int .i64 kind, .int .i64 txn, .int .i64 page, .int .i64 prev, .int .i64 next, .int .i64 key, .bool true, .bool true, .int .i64 old, .int .i64 new] 24)) w.heap.size .i64 .i64 40 40 (by omega) (by omega) (by omega) hb.size
  rw [show (w.alloc (.cells #[.int .i64 kind, .int .i64 txn, .int .i64 page, .int .i64 prev, .int .i64 next, .int .i64 key, .bool true, .bool true, .int .i64 old, .int .i64 new] 24)).heap.size = w.heap.size + 1 by simp] at hmk hob
  rw [show Int.toNat 40 = 40 from rfl] at hmk hob
  have hal : Below (w.alloc (.cells #[.int .i64 kind, .int .i64 txn, .int .i64 page, .int .i64 prev, .int .i64 next, .int .i64 key, .bool true, .bool true, .int .i64 old, .int .i64 new] 24)).heap.size (w.alloc (.cells #[.int .i64 kind, .int .i64 txn, .int .i64 page, .int .i64 prev, .int .i64 next, .int .i64 key, .bool true, .bool true, .int .i64 old, .int .i64 new] 24)) ((w.alloc (.cells #[.int .i64 kind, .int .i64 txn, .int .i64 page, .int .i64 prev, .int .i64 next, .int .i64 key, .bool true, .bool true, .int .i64 old, .int .i64 new] 24)).alloc (.cells cur 5)) := (Below.refl _ _).alloc (Nat.le_refl _) _
  have HB0 := Lib.hid (hb.trans (hal.mono hb.size))
  have HR0 := Lib.hid (hrow.below hal)
  obtain ⟨b0, e0⟩ : ∃ b, b = List.replicate 40 (0 : Int) := ⟨_, rfl⟩
  rw [← e0] at hob
  have l0 : b0.length = 40 := by rw [e0, List.length_replicate]
  have HO0 := Lib.hid hob
  have HL0 := Lib.hid l0
  have HE0 := Lib.hid e0
  clear hob l0 e0 hb hrow hal
  go_enter Tryd.func24, Tryd.ntmps24
  go_wp2_with fail
  refine (putRef _ b0 0 1 (IntKind.u64.wrap kind) _ HO0.out.bs (by rw [HL0.out]; omega) (by omega) (by omega) (by omega) (by omega) (HU.out kind).1 (HU.out kind).2).mono ?_
  rintro e x1 ⟨v1, rfl, hx1, hob1⟩
  have HB1 := Lib.hid (HB0.out.trans (hx1.mono HB0.out.size))
  have HR1 := Lib.hid (HR0.out.below hx1)
  obtain ⟨b1, e1⟩ : ∃ b, b = putL b0 0 1 (IntKind.u64.wrap kind) := ⟨_, rfl⟩
  rw [← e1] at hob1
  have l1 : b1.length = 40 := by rw [e1, putL_length]; exact HL0.out
  have HO1 := Lib.hid (hob1.mono (base' := w.heap.size) HB0.out.size)
  have HL1 := Lib.hid l1
  have HE1 := Lib.hid e1
  clear hx1 hob1 e1 l1 HB0 HR0 HO0 HL0
  obtain ⟨c0, c1, c2, c3, c4, c5, c6, c7, c8, c9⟩ := HR1.out.cells
  go_wp2_with fail
  refine (putRef _ b1 1 1 3 _ HO1.out.bs (by rw [HL1.out]; omega) (by omega) (by omega) (by omega) (by omega) (by omega) (by omega)).mono ?_
  rintro e x2 ⟨v2, rfl, hx2, hob2⟩
  have HB2 := Lib.hid (HB1.out.trans (hx2.mono HB1.out.size))
  have HR2 := Lib.hid (HR1.out.below hx2)
  obtain ⟨b2, e2⟩ : ∃ b, b = putL b1 1 1 3 := ⟨_, rfl⟩
  rw [← e2] at hob2
  have l2 : b2.length = 40 := by rw [e2, putL_length]; exact HL1.out
  have HO2 := Lib.hid (hob2.mono (base' := w.heap.size) HB1.out.size)
  have HL2 := Lib.hid l2
  have HE2 := Lib.hid e2
  clear hx2 hob2 e2 l2 HB1 HR1 HO1 HL1
  clear c0 c1 c2 c3 c4 c5 c6 c7 c8 c9
  obtain ⟨c0, c1, c2, c3, c4, c5, c6, c7, c8, c9⟩ := HR2.out.cells
  go_wp2_with fail
  refine (putRef _ b2 2 2 (IntKind.u64.wrap txn) _ HO2.out.bs (by rw [HL2.out]; omega) (by omega) (by omega) (by omega) (by omega) (HU.out txn).1 (HU.out txn).2).mono ?_
  rintro e x3 ⟨v3, rfl, hx3, hob3⟩
  have HB3 := Lib.hid (HB2.out.trans (hx3.mono HB2.out.size))
  have HR3 := Lib.hid (HR2.out.below hx3)
  obtain ⟨b3, e3⟩ : ∃ b, b = putL b2 2 2 (IntKind.u64.wrap txn) := ⟨_, rfl⟩
  rw [← e3] at hob3
  have l3 : b3.length = 40 := by rw [e3, putL_length]; exact HL2.out
  have HO3 := Lib.hid (hob3.mono (base' := w.heap.size) HB2.out.size)
  have HL3 := Lib.hid l3
  have HE3 := Lib.hid e3
  clear hx3 hob3 e3 l3 HB2 HR2 HO2 HL2
  clear c0 c1 c2 c3 c4 c5 c6 c7 c8 c9
  obtain ⟨c0, c1, c2, c3, c4, c5, c6, c7, c8, c9⟩ := HR3.out.cells
  go_wp2_with fail
  refine (putRef _ b3 4 2 (IntKind.u64.wrap page) _ HO3.out.bs (by rw [HL3.out]; omega) (by omega) (by omega) (by omega) (by omega) (HU.out page).1 (HU.out page).2).mono ?_
  rintro e x4 ⟨v4, rfl, hx4, hob4⟩
  have HB4 := Lib.hid (HB3.out.trans (hx4.mono HB3.out.size))
  have HR4 := Lib.hid (HR3.out.below hx4)
  obtain ⟨b4, e4⟩ : ∃ b, b = putL b3 4 2 (IntKind.u64.wrap page) := ⟨_, rfl⟩
  rw [← e4] at hob4
  have l4 : b4.length = 40 := by rw [e4, putL_length]; exact HL3.out
  have HO4 := Lib.hid (hob4.mono (base' := w.heap.size) HB3.out.size)
  have HL4 := Lib.hid l4
  have HE4 := Lib.hid e4
  clear hx4 hob4 e4 l4 HB3 HR3 HO3 HL3
  clear c0 c1 c2 c3 c4 c5 c6 c7 c8 c9
  obtain ⟨c0, c1, c2, c3, c4, c5, c6, c7, c8, c9⟩ := HR4.out.cells
  go_wp2_with fail
  refine (putRef _ b4 8 4 (IntKind.u64.wrap prev) _ HO4.out.bs (by rw [HL4.out]; omega) (by omega) (by omega) (by omega) (by omega) (HU.out prev).1 (HU.out prev).2).mono ?_
  rintro e x5 ⟨v5, rfl, hx5, hob5⟩
  have HB5 := Lib.hid (HB4.out.trans (hx5.mono HB4.out.size))
  have HR5 := Lib.hid (HR4.out.below hx5)
  obtain ⟨b5, e5⟩ : ∃ b, b = putL b4 8 4 (IntKind.u64.wrap prev) := ⟨_, rfl⟩
  rw [← e5] at hob5
  have l5 : b5.length = 40 := by rw [e5, putL_length]; exact HL4.out
  have HO5 := Lib.hid (hob5.mono (base' := w.heap.size) HB4.out.size)
  have HL5 := Lib.hid l5
  have HE5 := Lib.hid e5
  clear hx5 hob5 e5 l5 HB4 HR4 HO4 HL4
  clear c0 c1 c2 c3 c4 c5 c6 c7 c8 c9
  obtain ⟨c0, c1, c2, c3, c4, c5, c6, c7, c8, c9⟩ := HR5.out.cells
  go_wp2_with fail
  refine (putRef _ b5 12 4 (IntKind.u64.wrap next) _ HO5.out.bs (by rw [HL5.out]; omega) (by omega) (by omega) (by omega) (by omega) (HU.out next).1 (HU.out next).2).mono ?_
  rintro e x6 ⟨v6, rfl, hx6, hob6⟩
  have HB6 := Lib.hid (HB5.out.trans (hx6.mono HB5.out.size))
  have HR6 := Lib.hid (HR5.out.below hx6)
  obtain ⟨b6, e6⟩ : ∃ b, b = putL b5 12 4 (IntKind.u64.wrap next) := ⟨_, rfl⟩
  rw [← e6] at hob6
  have l6 : b6.length = 40 := by rw [e6, putL_length]; exact HL5.out
  have HO6 := Lib.hid (hob6.mono (base' := w.heap.size) HB5.out.size)
  have HL6 := Lib.hid l6
  have HE6 := Lib.hid e6
  clear hx6 hob6 e6 l6 HB5 HR5 HO5 HL5
  clear c0 c1 c2 c3 c4 c5 c6 c7 c8 c9
  obtain ⟨c0, c1, c2, c3, c4, c5, c6, c7, c8, c9⟩ := HR6.out.cells
  go_wp2_with fail
  refine (putRef _ b6 16 4 (IntKind.u64.wrap key) _ HO6.out.bs (by rw [HL6.out]; omega) (by omega) (by omega) (by omega) (by omega) (HU.out key).1 (HU.out key).2).mono ?_
  rintro e x7 ⟨v7, rfl, hx7, hob7⟩
  have HB7 := Lib.hid (HB6.out.trans (hx7.mono HB6.out.size))
  have HR7 := Lib.hid (HR6.out.below hx7)
  obtain ⟨b7, e7⟩ : ∃ b, b = putL b6 16 4 (IntKind.u64.wrap key) := ⟨_, rfl⟩
  rw [← e7] at hob7
  have l7 : b7.length = 40 := by rw [e7, putL_length]; exact HL6.out
  have HO7 := Lib.hid (hob7.mono (base' := w.heap.size) HB6.out.size)
  have HL7 := Lib.hid l7
  have HE7 := Lib.hid e7
  clear hx7 hob7 e7 l7 HB6 HR6 HO6 HL6
  clear c0 c1 c2 c3 c4 c5 c6 c7 c8 c9
  obtain ⟨c0, c1, c2, c3, c4, c5, c6, c7, c8, c9⟩ := HR7.out.cells
  go_wp2_with fail
  refine (putRef _ b7 24 8 (IntKind.u64.wrap old) _ HO7.out.bs (by rw [HL7.out]; omega) (by omega) (by omega) (by omega) (by omega) (HU.out old).1 (HU.out old).2).mono ?_
  rintro e x8 ⟨v8, rfl, hx8, hob8⟩
  have HB8 := Lib.hid (HB7.out.trans (hx8.mono HB7.out.size))
  have HR8 := Lib.hid (HR7.out.below hx8)
  obtain ⟨b8, e8⟩ : ∃ b, b = putL b7 24 8 (IntKind.u64.wrap old) := ⟨_, rfl⟩
  rw [← e8] at hob8
  have l8 : b8.length = 40 := by rw [e8, putL_length]; exact HL7.out
  have HO8 := Lib.hid (hob8.mono (base' := w.heap.size) HB7.out.size)
  have HL8 := Lib.hid l8
  have HE8 := Lib.hid e8
  clear hx8 hob8 e8 l8 HB7 HR7 HO7 HL7
  clear c0 c1 c2 c3 c4 c5 c6 c7 c8 c9
  obtain ⟨c0, c1, c2, c3, c4, c5, c6, c7, c8, c9⟩ := HR8.out.cells
  go_wp2_with fail
  refine (putRef _ b8 32 8 (IntKind.u64.wrap new) _ HO8.out.bs (by rw [HL8.out]; omega) (by omega) (by omega) (by omega) (by omega) (HU.out new).1 (HU.out new).2).mono ?_
  rintro e x9 ⟨v9, rfl, hx9, hob9⟩
  have HB9 := Lib.hid (HB8.out.trans (hx9.mono HB8.out.size))
  have HR9 := Lib.hid (HR8.out.below hx9)
  obtain ⟨b9, e9⟩ : ∃ b, b = putL b8 32 8 (IntKind.u64.wrap new) := ⟨_, rfl⟩
  rw [← e9] at hob9
  have l9 : b9.length = 40 := by rw [e9, putL_length]; exact HL8.out
  have HO9 := Lib.hid (hob9.mono (base' := w.heap.size) HB8.out.size)
  have HL9 := Lib.hid l9
  have HE9 := Lib.hid e9
  clear hx9 hob9 e9 l9 HB8 HR8 HO8 HL8
  clear c0 c1 c2 c3 c4 c5 c6 c7 c8 c9
  obtain ⟨c0, c1, c2, c3, c4, c5, c6, c7, c8, c9⟩ := HR9.out.cells
  go_wp2_with fail
  go_ret
  have hfin : recB ⟨kind, txn, page, prev, next, key, true, true, old, new⟩ = b9 := by rw [HE9.out, HE8.out, HE7.out, HE6.out, HE5.out, HE4.out, HE3.out, HE2.out, HE1.out, HE0.out]; simp only [IntKind.wrap_u64]; rfl
  rw [hfin]
  exact ⟨⟨_, rfl, HO9.out⟩, HB9.out⟩

/-- RecBytes, whatever the record -/
theorem recBytesRef (r : RecD) (w : World) :
    Calls Tryd.prog 24 #[recV r] w fun e w' => (∃ v, e = .returned v ∧ Ob 5 w.heap.size w' v (recB r)) ∧ Below w.heap.size w w' := by
  obtain ⟨kind, txn, page, prev, next, key, had, has, old, new⟩ := r
  cases had <;> cases has
  · exact recBytesRefFF _ _ _ _ _ _ _ _ w
  · exact recBytesRefFT _ _ _ _ _ _ _ _ w
  · exact recBytesRefTF _ _ _ _ _ _ _ _ w
  · exact recBytesRefTT _ _ _ _ _ _ _ _ w
end Go.Proofs.YtpgelebmhhcodaaDoor
