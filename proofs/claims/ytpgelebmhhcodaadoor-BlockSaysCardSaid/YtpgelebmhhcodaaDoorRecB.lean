/- Contract of rec.Bytes. -/
import Derived.Test.YtpgelebmhhcodaaDoorRecC
import Derived.Test.YtpgelebmhhcodaaDoorByteT
namespace Go.Proofs.YtpgelebmhhcodaaDoor
open Go.RowKit
set_option linter.unusedVariables false

/-- the nine numbers stand in a row of threes -/
def C3 (A : Nat) (r : RecD) (w : World) : Prop := ∀ k, k < 9 → w.cell? ⟨A, k * 3, none⟩ = some (.int .u64 (recAt k)) ∧ w.cell? ⟨A, k * 3 + 1, none⟩ = some (.int .u64 (recSz k)) ∧ w.cell? ⟨A, k * 3 + 2, none⟩ = some (.int .u64 (recNo r k))
theorem C3.below {A : Nat} {r : RecD} {w w' : World} (h : C3 A r w) (hb : Below w.heap.size w w') : C3 A r w' := by
  intro k hk
  obtain ⟨h1, h2, h3⟩ := h k hk
  exact ⟨by rw [hb.cell (Below.lt h1)]; exact h1, by rw [hb.cell (Below.lt h2)]; exact h2, by rw [hb.cell (Below.lt h3)]; exact h3⟩
theorem C3.mk {A : Nat} {r : RecD} {w : World} {T : TypeId} {cs : Array Value} (h : w.heap[A]? = some (.cells cs T (0, 0))) (h2 : ∀ k, k < 9 → cs[k * 3]? = some (.int .u64 (recAt k)) ∧ cs[k * 3 + 1]? = some (.int .u64 (recSz k)) ∧ cs[k * 3 + 2]? = some (.int .u64 (recNo r k))) : C3 A r w := by
  intro k hk
  obtain ⟨a, b, c⟩ := h2 k hk
  exact ⟨by rw [cell_of_row w A _ cs T (0, 0) h]; exact a, by rw [cell_of_row w A _ cs T (0, 0) h]; exact b, by rw [cell_of_row w A _ cs T (0, 0) h]; exact c⟩

theorem c3_start (w : World) (cur : Array Value) (kind txn page prev next key old new : Int) (had has : Bool) (fl : Int) (hfl : fl = flagsR ⟨kind, txn, page, prev, next, key, had, has, old, new⟩) :
    C3 (w.heap.size + 1) ⟨kind, txn, page, prev, next, key, had, has, old, new⟩ ((w.alloc (.cells cur 5)).alloc (.cells #[.int .u64 0, .int .u64 1, .int .u64 (IntKind.u64.wrap kind), .int .u64 1, .int .u64 1, .int .u64 fl, .int .u64 2, .int .u64 2, .int .u64 (IntKind.u64.wrap txn), .int .u64 4, .int .u64 2, .int .u64 (IntKind.u64.wrap page), .int .u64 8, .int .u64 4, .int .u64 (IntKind.u64.wrap prev), .int .u64 12, .int .u64 4, .int .u64 (IntKind.u64.wrap next), .int .u64 16, .int .u64 4, .int .u64 (IntKind.u64.wrap key), .int .u64 24, .int .u64 8, .int .u64 (IntKind.u64.wrap old), .int .u64 32, .int .u64 8, .int .u64 (IntKind.u64.wrap new)] 73)) := by
  refine C3.mk (T := 73) (by have := heap_alloc_new (w.alloc (.cells cur 5)) (.cells #[.int .u64 0, .int .u64 1, .int .u64 (IntKind.u64.wrap kind), .int .u64 1, .int .u64 1, .int .u64 fl, .int .u64 2, .int .u64 2, .int .u64 (IntKind.u64.wrap txn), .int .u64 4, .int .u64 2, .int .u64 (IntKind.u64.wrap page), .int .u64 8, .int .u64 4, .int .u64 (IntKind.u64.wrap prev), .int .u64 12, .int .u64 4, .int .u64 (IntKind.u64.wrap next), .int .u64 16, .int .u64 4, .int .u64 (IntKind.u64.wrap key), .int .u64 24, .int .u64 8, .int .u64 (IntKind.u64.wrap old), .int .u64 32, .int .u64 8, .int .u64 (IntKind.u64.wrap new)] 73); simpa using this) ?_
  intro k hk
  subst hfl
  simp only [IntKind.wrap_u64]
  match k, hk with
  | 0, _ | 1, _ | 2, _ | 3, _ | 4, _ | 5, _ | 6, _ | 7, _ | 8, _ => exact ⟨rfl, rfl, rfl⟩
  | k + 9, h => omega

set_option maxHeartbeats 1600000 in
theorem recBytesFF (kind txn page prev next key old new : Int) (w : World) (hr : RecD.W ⟨kind, txn, page, prev, next, key, false, false, old, new⟩) (eR : Value) (hE : w.cell? ⟨0, 0, none⟩ = some eR) (hok : okR ⟨kind, txn, page, prev, next, key, false, false, old, new⟩ = true) :
    Calls Tryd.prog 19 #[.agg #[.int .i64 kind, .int .i64 txn, .int .i64 page, .int .i64 prev, .int .i64 next, .int .i64 key, .bool false, .bool false, .int .i64 old, .int .i64 new]] w fun e w' => (∃ v, e = .returned (.tuple #[v, .nilIface]) ∧ Ob 5 w.heap.size w' v (recB ⟨kind, txn, page, prev, next, key, false, false, old, new⟩)) ∧ Below w.heap.size w w' := by
  have hb : ∀ o, Below w.heap.size w (w.alloc o) := fun o => (Below.refl _ _).alloc (Nat.le_refl _) _
  have hlt := Below.lt hE
  have hc := fun w' (h : Below w.heap.size w w') => recCheck ⟨kind, txn, page, prev, next, key, false, false, old, new⟩ w' eR (by rw [h.cell hlt]; exact hE)
  rw [hok] at hc
  dsimp only [recV, errIf] at hc
  simp only [if_true] at hc
  have HC := Lib.hid hc
  clear hc
  obtain ⟨h1, h2, h3, h4, h5, h6, h7, h8⟩ := hr
  dsimp only at h1 h2 h3 h4 h5 h6 h7 h8
  unfold I64 at h1 h2 h3 h4 h5 h6 h7 h8
  have o1 : bits .or .u64 0 1 = 1 := by decide
  have o2 : bits .or .u64 0 2 = 2 := by decide
  have o3 : bits .or .u64 1 2 = 3 := by decide
  go_enter Tryd.func19, Tryd.ntmps19
  go_wp2_with fail
  refine (HC.out _ (hb _)).mono ?_
  rintro e w1 ⟨rfl, hb1⟩
  have hbw1 : Below w.heap.size w w1 := (hb _).trans (hb1.mono (hb _).size)
  obtain ⟨c0, c1, c2, c3, c4, c5, c6, c7, c8, c9, hz⟩ := after10 hb1
  obtain ⟨cur, hmk, hob⟩ := byteT.make w1 w.heap.size .i64 .i64 40 40 (by omega) (by omega) (by omega) hbw1.size
  have hC := c3_start w1 cur kind txn page prev next key old new false false 0 rfl
  have hbw2 : Below w.heap.size w ((w1.alloc (.cells cur 5)).alloc (.cells #[.int .u64 0, .int .u64 1, .int .u64 (IntKind.u64.wrap kind), .int .u64 1, .int .u64 1, .int .u64 0, .int .u64 2, .int .u64 2, .int .u64 (IntKind.u64.wrap txn), .int .u64 4, .int .u64 2, .int .u64 (IntKind.u64.wrap page), .int .u64 8, .int .u64 4, .int .u64 (IntKind.u64.wrap prev), .int .u64 12, .int .u64 4, .int .u64 (IntKind.u64.wrap next), .int .u64 16, .int .u64 4, .int .u64 (IntKind.u64.wrap key), .int .u64 24, .int .u64 8, .int .u64 (IntKind.u64.wrap old), .int .u64 32, .int .u64 8, .int .u64 (IntKind.u64.wrap new)] 73)) := (hbw1.alloc hbw1.size _).alloc (by have := hbw1.size; simp; omega) _
  have hob2 := hob.below (w' := (w1.alloc (.cells cur 5)).alloc (.cells #[.int .u64 0, .int .u64 1, .int .u64 (IntKind.u64.wrap kind), .int .u64 1, .int .u64 1, .int .u64 0, .int .u64 2, .int .u64 2, .int .u64 (IntKind.u64.wrap txn), .int .u64 4, .int .u64 2, .int .u64 (IntKind.u64.wrap page), .int .u64 8, .int .u64 4, .int .u64 (IntKind.u64.wrap prev), .int .u64 12, .int .u64 4, .int .u64 (IntKind.u64.wrap next), .int .u64 16, .int .u64 4, .int .u64 (IntKind.u64.wrap key), .int .u64 24, .int .u64 8, .int .u64 (IntKind.u64.wrap old), .int .u64 32, .int .u64 8, .int .u64 (IntKind.u64.wrap new)] 73)) ((Below.refl _ _).alloc (Nat.le_refl _) _)
  clear hE hok
  go_wp2_with fail
  generalize (w1.alloc (.cells cur 5)).alloc (.cells #[.int .u64 0, .int .u64 1, .int .u64 (IntKind.u64.wrap kind), .int .u64 1, .int .u64 1, .int .u64 0, .int .u64 2, .int .u64 2, .int .u64 (IntKind.u64.wrap txn), .int .u64 4, .int .u64 2, .int .u64 (IntKind.u64.wrap page), .int .u64 8, .int .u64 4, .int .u64 (IntKind.u64.wrap prev), .int .u64 12, .int .u64 4, .int .u64 (IntKind.u64.wrap next), .int .u64 16, .int .u64 4, .int .u64 (IntKind.u64.wrap key), .int .u64 24, .int .u64 8, .int .u64 (IntKind.u64.wrap old), .int .u64 32, .int .u64 8, .int .u64 (IntKind.u64.wrap new)] 73) = W at hC hbw2 hob2 ⊢
  have HCC := Lib.hid hC
  clear hC
  go_loopw [6, 59] (fun b i wr => ∃ k : Nat, i = .int .i64 k ∧ k ≤ 9 ∧ Below w.heap.size w wr ∧ Hid (C3 (w1.heap.size + 1) ⟨kind, txn, page, prev, next, key, false, false, old, new⟩ wr) ∧ Ob 5 w.heap.size wr b (recTo ⟨kind, txn, page, prev, next, key, false, false, old, new⟩ k)) (fun _ i _ => 9 - (intOf i).toNat)
  case atStart => exact ⟨0, rfl, by omega, hbw2, HCC, hob2⟩
  case round =>
    obtain ⟨k, rfl, hk, hbr, hCr, hobr⟩ := hrel
    by_cases hlt : k < 9
    · obtain ⟨x0, x1, x2⟩ := hCr.out k hlt
      have hab := recAt_bounds k hlt
      have hnb := recNo_bounds ⟨kind, txn, page, prev, next, key, false, false, old, new⟩ k hlt
      have hstep : recTo ⟨kind, txn, page, prev, next, key, false, false, old, new⟩ (k + 1) = putL (recTo ⟨kind, txn, page, prev, next, key, false, false, old, new⟩ k) (recAt k) (recSz k) (recNo ⟨kind, txn, page, prev, next, key, false, false, old, new⟩ k) := rfl
      have hlen := recTo_length ⟨kind, txn, page, prev, next, key, false, false, old, new⟩ k
      have HST := Lib.hid hstep
      have HL := Lib.hid hlen
      clear hstep hlen
      generalize recTo ⟨kind, txn, page, prev, next, key, false, false, old, new⟩ k = b0 at hobr HST HL
      generalize recAt k = pa at x0 hab HST
      generalize recSz k = ps at x1 hab HST
      generalize recNo ⟨kind, txn, page, prev, next, key, false, false, old, new⟩ k = pn at x2 hnb HST
      have hk9 : (k : Int) < 9 := by omega
      have hba : Below wr.heap.size wr (wr.alloc (.cells #[.int .u64 pa, .int .u64 ps, .int .u64 pn] 73)) := (Below.refl _ _).alloc (Nat.le_refl _) _
      have hbb := hobr.below hba
      have hbw3 : Below w.heap.size w (wr.alloc (.cells #[.int .u64 pa, .int .u64 ps, .int .u64 pn] 73)) := hbr.alloc hbr.size _
      have hC3 := hCr.out.below hba
      have HC3 := Lib.hid hC3
      clear hC3
      go_wp2_with fail
      refine (put _ b0 pa ps pn _ hbb.bs (by rw [HL.out]; omega) (by omega) (by omega) (by omega) (by omega) hnb.1 hnb.2).mono ?_
      rintro e w4 ⟨v4, rfl, hb4, hob4⟩
      rw [← HST.out] at hob4
      have hfin1 := hbw3.trans (hb4.mono hbw3.size)
      have hfin2 : Hid (C3 (w1.heap.size + 1) ⟨kind, txn, page, prev, next, key, false, false, old, new⟩ w4) := HC3.out.below hb4
      have hfin3 := hob4.mono (base' := w.heap.size) hbw3.size
      go_wp2_with fail
      go_roundw
      case rel => exact ⟨k + 1, by go_num, by omega, hfin1, hfin2, hfin3⟩
      case measure => simp [intOf]; omega
    · obtain rfl : k = 9 := by omega
      rw [recTo_all] at hobr
      go_wp2_with fail
      go_ret2
      exact ⟨⟨_, rfl, hobr⟩, hbr⟩

set_option maxHeartbeats 1600000 in
theorem recBytesFT (kind txn page prev next key old new : Int) (w : World) (hr : RecD.W ⟨kind, txn, page, prev, next, key, false, true, old, new⟩) (eR : Value) (hE : w.cell? ⟨0, 0, none⟩ = some eR) (hok : okR ⟨kind, txn, page, prev, next, key, false, true, old, new⟩ = true) :
    Calls Tryd.prog 19 #[.agg #[.int .i64 kind, .int .i64 txn, .int .i64 page, .int .i64 prev, .int .i64 next, .int .i64 key, .bool false, .bool true, .int .i64 old, .int .i64 new]] w fun e w' => (∃ v, e = .returned (.tuple #[v, .nilIface]) ∧ Ob 5 w.heap.size w' v (recB ⟨kind, txn, page, prev, next, key, false, true, old, new⟩)) ∧ Below w.heap.size w w' := by
  have hb : ∀ o, Below w.heap.size w (w.alloc o) := fun o => (Below.refl _ _).alloc (Nat.le_refl _) _
  have hlt := Below.lt hE
  have hc := fun w' (h : Below w.heap.size w w') => recCheck ⟨kind, txn, page, prev, next, key, false, true, old, new⟩ w' eR (by rw [h.cell hlt]; exact hE)
  rw [hok] at hc
  dsimp only [recV, errIf] at hc
  simp only [if_true] at hc
  have HC := Lib.hid hc
  clear hc
  obtain ⟨h1, h2, h3, h4, h5, h6, h7, h8⟩ := hr
  dsimp only at h1 h2 h3 h4 h5 h6 h7 h8
  unfold I64 at h1 h2 h3 h4 h5 h6 h7 h8
  have o1 : bits .or .u64 0 1 = 1 := by decide
  have o2 : bits .or .u64 0 2 = 2 := by decide
  have o3 : bits .or .u64 1 2 = 3 := by decide
  go_enter Tryd.func19, Tryd.ntmps19
  go_wp2_with fail
  refine (HC.out _ (hb _)).mono ?_
  rintro e w1 ⟨rfl, hb1⟩
  have hbw1 : Below w.heap.size w w1 := (hb _).trans (hb1.mono (hb _).size)
  obtain ⟨c0, c1, c2, c3, c4, c5, c6, c7, c8, c9, hz⟩ := after10 hb1
  obtain ⟨cur, hmk, hob⟩ := byteT.make w1 w.heap.size .i64 .i64 40 40 (by omega) (by omega) (by omega) hbw1.size
  have hC := c3_start w1 cur kind txn page prev next key old new false true 2 rfl
  have hbw2 : Below w.heap.size w ((w1.alloc (.cells cur 5)).alloc (.cells #[.int .u64 0, .int .u64 1, .int .u64 (IntKind.u64.wrap kind), .int .u64 1, .int .u64 1, .int .u64 2, .int .u64 2, .int .u64 2, .int .u64 (IntKind.u64.wrap txn), .int .u64 4, .int .u64 2, .int .u64 (IntKind.u64.wrap page), .int .u64 8, .int .u64 4, .int .u64 (IntKind.u64.wrap prev), .int .u64 12, .int .u64 4, .int .u64 (IntKind.u64.wrap next), .int .u64 16, .int .u64 4, .int .u64 (IntKind.u64.wrap key), .int .u64 24, .int .u64 8, .int .u64 (IntKind.u64.wrap old), .int .u64 32, .int .u64 8, .int .u64 (IntKind.u64.wrap new)] 73)) := (hbw1.alloc hbw1.size _).alloc (by have := hbw1.size; simp; omega) _
  have hob2 := hob.below (w' := (w1.alloc (.cells cur 5)).alloc (.cells #[.int .u64 0, .int .u64 1, .int .u64 (IntKind.u64.wrap kind), .int .u64 1, .int .u64 1, .int .u64 2, .int .u64 2, .int .u64 2, .int .u64 (IntKind.u64.wrap txn), .int .u64 4, .int .u64 2, .int .u64 (IntKind.u64.wrap page), .int .u64 8, .int .u64 4, .int .u64 (IntKind.u64.wrap prev), .int .u64 12, .int .u64 4, .int .u64 (IntKind.u64.wrap next), .int .u64 16, .int .u64 4, .int .u64 (IntKind.u64.wrap key), .int .u64 24, .int .u64 8, .int .u64 (IntKind.u64.wrap old), .int .u64 32, .int .u64 8, .int .u64 (IntKind.u64.wrap new)] 73)) ((Below.refl _ _).alloc (Nat.le_refl _) _)
  clear hE hok
  go_wp2_with fail
  generalize (w1.alloc (.cells cur 5)).alloc (.cells #[.int .u64 0, .int .u64 1, .int .u64 (IntKind.u64.wrap kind), .int .u64 1, .int .u64 1, .int .u64 2, .int .u64 2, .int .u64 2, .int .u64 (IntKind.u64.wrap txn), .int .u64 4, .int .u64 2, .int .u64 (IntKind.u64.wrap page), .int .u64 8, .int .u64 4, .int .u64 (IntKind.u64.wrap prev), .int .u64 12, .int .u64 4, .int .u64 (IntKind.u64.wrap next), .int .u64 16, .int .u64 4, .int .u64 (IntKind.u64.wrap key), .int .u64 24, .int .u64 8, .int .u64 (IntKind.u64.wrap old), .int .u64 32, .int .u64 8, .int .u64 (IntKind.u64.wrap new)] 73) = W at hC hbw2 hob2 ⊢
  have HCC := Lib.hid hC
  clear hC
  go_loopw [6, 59] (fun b i wr => ∃ k : Nat, i = .int .i64 k ∧ k ≤ 9 ∧ Below w.heap.size w wr ∧ Hid (C3 (w1.heap.size + 1) ⟨kind, txn, page, prev, next, key, false, true, old, new⟩ wr) ∧ Ob 5 w.heap.size wr b (recTo ⟨kind, txn, page, prev, next, key, false, true, old, new⟩ k)) (fun _ i _ => 9 - (intOf i).toNat)
  case atStart => exact ⟨0, rfl, by omega, hbw2, HCC, hob2⟩
  case round =>
    obtain ⟨k, rfl, hk, hbr, hCr, hobr⟩ := hrel
    by_cases hlt : k < 9
    · obtain ⟨x0, x1, x2⟩ := hCr.out k hlt
      have hab := recAt_bounds k hlt
      have hnb := recNo_bounds ⟨kind, txn, page, prev, next, key, false, true, old, new⟩ k hlt
      have hstep : recTo ⟨kind, txn, page, prev, next, key, false, true, old, new⟩ (k + 1) = putL (recTo ⟨kind, txn, page, prev, next, key, false, true, old, new⟩ k) (recAt k) (recSz k) (recNo ⟨kind, txn, page, prev, next, key, false, true, old, new⟩ k) := rfl
      have hlen := recTo_length ⟨kind, txn, page, prev, next, key, false, true, old, new⟩ k
      have HST := Lib.hid hstep
      have HL := Lib.hid hlen
      clear hstep hlen
      generalize recTo ⟨kind, txn, page, prev, next, key, false, true, old, new⟩ k = b0 at hobr HST HL
      generalize recAt k = pa at x0 hab HST
      generalize recSz k = ps at x1 hab HST
      generalize recNo ⟨kind, txn, page, prev, next, key, false, true, old, new⟩ k = pn at x2 hnb HST
      have hk9 : (k : Int) < 9 := by omega
      have hba : Below wr.heap.size wr (wr.alloc (.cells #[.int .u64 pa, .int .u64 ps, .int .u64 pn] 73)) := (Below.refl _ _).alloc (Nat.le_refl _) _
      have hbb := hobr.below hba
      have hbw3 : Below w.heap.size w (wr.alloc (.cells #[.int .u64 pa, .int .u64 ps, .int .u64 pn] 73)) := hbr.alloc hbr.size _
      have hC3 := hCr.out.below hba
      have HC3 := Lib.hid hC3
      clear hC3
      go_wp2_with fail
      refine (put _ b0 pa ps pn _ hbb.bs (by rw [HL.out]; omega) (by omega) (by omega) (by omega) (by omega) hnb.1 hnb.2).mono ?_
      rintro e w4 ⟨v4, rfl, hb4, hob4⟩
      rw [← HST.out] at hob4
      have hfin1 := hbw3.trans (hb4.mono hbw3.size)
      have hfin2 : Hid (C3 (w1.heap.size + 1) ⟨kind, txn, page, prev, next, key, false, true, old, new⟩ w4) := HC3.out.below hb4
      have hfin3 := hob4.mono (base' := w.heap.size) hbw3.size
      go_wp2_with fail
      go_roundw
      case rel => exact ⟨k + 1, by go_num, by omega, hfin1, hfin2, hfin3⟩
      case measure => simp [intOf]; omega
    · obtain rfl : k = 9 := by omega
      rw [recTo_all] at hobr
      go_wp2_with fail
      go_ret2
      exact ⟨⟨_, rfl, hobr⟩, hbr⟩

set_option maxHeartbeats 1600000 in
theorem recBytesTF (kind txn page prev next key old new : Int) (w : World) (hr : RecD.W ⟨kind, txn, page, prev, next, key, true, false, old, new⟩) (eR : Value) (hE : w.cell? ⟨0, 0, none⟩ = some eR) (hok : okR ⟨kind, txn, page, prev, next, key, true, false, old, new⟩ = true) :
    Calls Tryd.prog 19 #[.agg #[.int .i64 kind, .int .i64 txn, .int .i64 page, .int .i64 prev, .int .i64 next, .int .i64 key, .bool true, .bool false, .int .i64 old, .int .i64 new]] w fun e w' => (∃ v, e = .returned (.tuple #[v, .nilIface]) ∧ Ob 5 w.heap.size w' v (recB ⟨kind, txn, page, prev, next, key, true, false, old, new⟩)) ∧ Below w.heap.size w w' := by
  have hb : ∀ o, Below w.heap.size w (w.alloc o) := fun o => (Below.refl _ _).alloc (Nat.le_refl _) _
  have hlt := Below.lt hE
  have hc := fun w' (h : Below w.heap.size w w') => recCheck ⟨kind, txn, page, prev, next, key, true, false, old, new⟩ w' eR (by rw [h.cell hlt]; exact hE)
  rw [hok] at hc
  dsimp only [recV, errIf] at hc
  simp only [if_true] at hc
  have HC := Lib.hid hc
  clear hc
  obtain ⟨h1, h2, h3, h4, h5, h6, h7, h8⟩ := hr
  dsimp only at h1 h2 h3 h4 h5 h6 h7 h8
  unfold I64 at h1 h2 h3 h4 h5 h6 h7 h8
  have o1 : bits .or .u64 0 1 = 1 := by decide
  have o2 : bits .or .u64 0 2 = 2 := by decide
  have o3 : bits .or .u64 1 2 = 3 := by decide
  go_enter Tryd.func19, Tryd.ntmps19
  go_wp2_with fail
  refine (HC.out _ (hb _)).mono ?_
  rintro e w1 ⟨rfl, hb1⟩
  have hbw1 : Below w.heap.size w w1 := (hb _).trans (hb1.mono (hb _).size)
  obtain ⟨c0, c1, c2, c3, c4, c5, c6, c7, c8, c9, hz⟩ := after10 hb1
  obtain ⟨cur, hmk, hob⟩ := byteT.make w1 w.heap.size .i64 .i64 40 40 (by omega) (by omega) (by omega) hbw1.size
  have hC := c3_start w1 cur kind txn page prev next key old new true false 1 rfl
  have hbw2 : Below w.heap.size w ((w1.alloc (.cells cur 5)).alloc (.cells #[.int .u64 0, .int .u64 1, .int .u64 (IntKind.u64.wrap kind), .int .u64 1, .int .u64 1, .int .u64 1, .int .u64 2, .int .u64 2, .int .u64 (IntKind.u64.wrap txn), .int .u64 4, .int .u64 2, .int .u64 (IntKind.u64.wrap page), .int .u64 8, .int .u64 4, .int .u64 (IntKind.u64.wrap prev), .int .u64 12, .int .u64 4, .int .u64 (IntKind.u64.wrap next), .int .u64 16, .int .u64 4, .int .u64 (IntKind.u64.wrap key), .int .u64 24, .int .u64 8, .int .u64 (IntKind.u64.wrap old), .int .u64 32, .int .u64 8, .int .u64 (IntKind.u64.wrap new)] 73)) := (hbw1.alloc hbw1.size _).alloc (by have := hbw1.size; simp; omega) _
  have hob2 := hob.below (w' := (w1.alloc (.cells cur 5)).alloc (.cells #[.int .u64 0, .int .u64 1, .int .u64 (IntKind.u64.wrap kind), .int .u64 1, .int .u64 1, .int .u64 1, .int .u64 2, .int .u64 2, .int .u64 (IntKind.u64.wrap txn), .int .u64 4, .int .u64 2, .int .u64 (IntKind.u64.wrap page), .int .u64 8, .int .u64 4, .int .u64 (IntKind.u64.wrap prev), .int .u64 12, .int .u64 4, .int .u64 (IntKind.u64.wrap next), .int .u64 16, .int .u64 4, .int .u64 (IntKind.u64.wrap key), .int .u64 24, .int .u64 8, .int .u64 (IntKind.u64.wrap old), .int .u64 32, .int .u64 8, .int .u64 (IntKind.u64.wrap new)] 73)) ((Below.refl _ _).alloc (Nat.le_refl _) _)
  clear hE hok
  go_wp2_with fail
  generalize (w1.alloc (.cells cur 5)).alloc (.cells #[.int .u64 0, .int .u64 1, .int .u64 (IntKind.u64.wrap kind), .int .u64 1, .int .u64 1, .int .u64 1, .int .u64 2, .int .u64 2, .int .u64 (IntKind.u64.wrap txn), .int .u64 4, .int .u64 2, .int .u64 (IntKind.u64.wrap page), .int .u64 8, .int .u64 4, .int .u64 (IntKind.u64.wrap prev), .int .u64 12, .int .u64 4, .int .u64 (IntKind.u64.wrap next), .int .u64 16, .int .u64 4, .int .u64 (IntKind.u64.wrap key), .int .u64 24, .int .u64 8, .int .u64 (IntKind.u64.wrap old), .int .u64 32, .int .u64 8, .int .u64 (IntKind.u64.wrap new)] 73) = W at hC hbw2 hob2 ⊢
  have HCC := Lib.hid hC
  clear hC
  go_loopw [6, 59] (fun b i wr => ∃ k : Nat, i = .int .i64 k ∧ k ≤ 9 ∧ Below w.heap.size w wr ∧ Hid (C3 (w1.heap.size + 1) ⟨kind, txn, page, prev, next, key, true, false, old, new⟩ wr) ∧ Ob 5 w.heap.size wr b (recTo ⟨kind, txn, page, prev, next, key, true, false, old, new⟩ k)) (fun _ i _ => 9 - (intOf i).toNat)
  case atStart => exact ⟨0, rfl, by omega, hbw2, HCC, hob2⟩
  case round =>
    obtain ⟨k, rfl, hk, hbr, hCr, hobr⟩ := hrel
    by_cases hlt : k < 9
    · obtain ⟨x0, x1, x2⟩ := hCr.out k hlt
      have hab := recAt_bounds k hlt
      have hnb := recNo_bounds ⟨kind, txn, page, prev, next, key, true, false, old, new⟩ k hlt
      have hstep : recTo ⟨kind, txn, page, prev, next, key, true, false, old, new⟩ (k + 1) = putL (recTo ⟨kind, txn, page, prev, next, key, true, false, old, new⟩ k) (recAt k) (recSz k) (recNo ⟨kind, txn, page, prev, next, key, true, false, old, new⟩ k) := rfl
      have hlen := recTo_length ⟨kind, txn, page, prev, next, key, true, false, old, new⟩ k
      have HST := Lib.hid hstep
      have HL := Lib.hid hlen
      clear hstep hlen
      generalize recTo ⟨kind, txn, page, prev, next, key, true, false, old, new⟩ k = b0 at hobr HST HL
      generalize recAt k = pa at x0 hab HST
      generalize recSz k = ps at x1 hab HST
      generalize recNo ⟨kind, txn, page, prev, next, key, true, false, old, new⟩ k = pn at x2 hnb HST
      have hk9 : (k : Int) < 9 := by omega
      have hba : Below wr.heap.size wr (wr.alloc (.cells #[.int .u64 pa, .int .u64 ps, .int .u64 pn] 73)) := (Below.refl _ _).alloc (Nat.le_refl _) _
      have hbb := hobr.below hba
      have hbw3 : Below w.heap.size w (wr.alloc (.cells #[.int .u64 pa, .int .u64 ps, .int .u64 pn] 73)) := hbr.alloc hbr.size _
      have hC3 := hCr.out.below hba
      have HC3 := Lib.hid hC3
      clear hC3
      go_wp2_with fail
      refine (put _ b0 pa ps pn _ hbb.bs (by rw [HL.out]; omega) (by omega) (by omega) (by omega) (by omega) hnb.1 hnb.2).mono ?_
      rintro e w4 ⟨v4, rfl, hb4, hob4⟩
      rw [← HST.out] at hob4
      have hfin1 := hbw3.trans (hb4.mono hbw3.size)
      have hfin2 : Hid (C3 (w1.heap.size + 1) ⟨kind, txn, page, prev, next, key, true, false, old, new⟩ w4) := HC3.out.below hb4
      have hfin3 := hob4.mono (base' := w.heap.size) hbw3.size
      go_wp2_with fail
      go_roundw
      case rel => exact ⟨k + 1, by go_num, by omega, hfin1, hfin2, hfin3⟩
      case measure => simp [intOf]; omega
    · obtain rfl : k = 9 := by omega
      rw [recTo_all] at hobr
      go_wp2_with fail
      go_ret2
      exact ⟨⟨_, rfl, hobr⟩, hbr⟩

set_option maxHeartbeats 1600000 in
theorem recBytesTT (kind txn page prev next key old new : Int) (w : World) (hr : RecD.W ⟨kind, txn, page, prev, next, key, true, true, old, new⟩) (eR : Value) (hE : w.cell? ⟨0, 0, none⟩ = some eR) (hok : okR ⟨kind, txn, page, prev, next, key, true, true, old, new⟩ = true) :
    Calls Tryd.prog 19 #[.agg #[.int .i64 kind, .int .i64 txn, .int .i64 page, .int .i64 prev, .int .i64 next, .int .i64 key, .bool true, .bool true, .int .i64 old, .int .i64 new]] w fun e w' => (∃ v, e = .returned (.tuple #[v, .nilIface]) ∧ Ob 5 w.heap.size w' v (recB ⟨kind, txn, page, prev, next, key, true, true, old, new⟩)) ∧ Below w.heap.size w w' := by
  have hb : ∀ o, Below w.heap.size w (w.alloc o) := fun o => (Below.refl _ _).alloc (Nat.le_refl _) _
  have hlt := Below.lt hE
  have hc := fun w' (h : Below w.heap.size w w') => recCheck ⟨kind, txn, page, prev, next, key, true, true, old, new⟩ w' eR (by rw [h.cell hlt]; exact hE)
  rw [hok] at hc
  dsimp only [recV, errIf] at hc
  simp only [if_true] at hc
  have HC := Lib.hid hc
  clear hc
  obtain ⟨h1, h2, h3, h4, h5, h6, h7, h8⟩ := hr
  dsimp only at h1 h2 h3 h4 h5 h6 h7 h8
  unfold I64 at h1 h2 h3 h4 h5 h6 h7 h8
  have o1 : bits .or .u64 0 1 = 1 := by decide
  have o2 : bits .or .u64 0 2 = 2 := by decide
  have o3 : bits .or .u64 1 2 = 3 := by decide
  go_enter Tryd.func19, Tryd.ntmps19
  go_wp2_with fail
  refine (HC.out _ (hb _)).mono ?_
  rintro e w1 ⟨rfl, hb1⟩
  have hbw1 : Below w.heap.size w w1 := (hb _).trans (hb1.mono (hb _).size)
  obtain ⟨c0, c1, c2, c3, c4, c5, c6, c7, c8, c9, hz⟩ := after10 hb1
  obtain ⟨cur, hmk, hob⟩ := byteT.make w1 w.heap.size .i64 .i64 40 40 (by omega) (by omega) (by omega) hbw1.size
  have hC := c3_start w1 cur kind txn page prev next key old new true true 3 rfl
  have hbw2 : Below w.heap.size w ((w1.alloc (.cells cur 5)).alloc (.cells #[.int .u64 0, .int .u64 1, .int .u64 (IntKind.u64.wrap kind), .int .u64 1, .int .u64 1, .int .u64 3, .int .u64 2, .int .u64 2, .int .u64 (IntKind.u64.wrap txn), .int .u64 4, .int .u64 2, .int .u64 (IntKind.u64.wrap page), .int .u64 8, .int .u64 4, .int .u64 (IntKind.u64.wrap prev), .int .u64 12, .int .u64 4, .int .u64 (IntKind.u64.wrap next), .int .u64 16, .int .u64 4, .int .u64 (IntKind.u64.wrap key), .int .u64 24, .int .u64 8, .int .u64 (IntKind.u64.wrap old), .int .u64 32, .int .u64 8, .int .u64 (IntKind.u64.wrap new)] 73)) := (hbw1.alloc hbw1.size _).alloc (by have := hbw1.size; simp; omega) _
  have hob2 := hob.below (w' := (w1.alloc (.cells cur 5)).alloc (.cells #[.int .u64 0, .int .u64 1, .int .u64 (IntKind.u64.wrap kind), .int .u64 1, .int .u64 1, .int .u64 3, .int .u64 2, .int .u64 2, .int .u64 (IntKind.u64.wrap txn), .int .u64 4, .int .u64 2, .int .u64 (IntKind.u64.wrap page), .int .u64 8, .int .u64 4, .int .u64 (IntKind.u64.wrap prev), .int .u64 12, .int .u64 4, .int .u64 (IntKind.u64.wrap next), .int .u64 16, .int .u64 4, .int .u64 (IntKind.u64.wrap key), .int .u64 24, .int .u64 8, .int .u64 (IntKind.u64.wrap old), .int .u64 32, .int .u64 8, .int .u64 (IntKind.u64.wrap new)] 73)) ((Below.refl _ _).alloc (Nat.le_refl _) _)
  clear hE hok
  go_wp2_with fail
  generalize (w1.alloc (.cells cur 5)).alloc (.cells #[.int .u64 0, .int .u64 1, .int .u64 (IntKind.u64.wrap kind), .int .u64 1, .int .u64 1, .int .u64 3, .int .u64 2, .int .u64 2, .int .u64 (IntKind.u64.wrap txn), .int .u64 4, .int .u64 2, .int .u64 (IntKind.u64.wrap page), .int .u64 8, .int .u64 4, .int .u64 (IntKind.u64.wrap prev), .int .u64 12, .int .u64 4, .int .u64 (IntKind.u64.wrap next), .int .u64 16, .int .u64 4, .int .u64 (IntKind.u64.wrap key), .int .u64 24, .int .u64 8, .int .u64 (IntKind.u64.wrap old), .int .u64 32, .int .u64 8, .int .u64 (IntKind.u64.wrap new)] 73) = W at hC hbw2 hob2 ⊢
  have HCC := Lib.hid hC
  clear hC
  go_loopw [6, 59] (fun b i wr => ∃ k : Nat, i = .int .i64 k ∧ k ≤ 9 ∧ Below w.heap.size w wr ∧ Hid (C3 (w1.heap.size + 1) ⟨kind, txn, page, prev, next, key, true, true, old, new⟩ wr) ∧ Ob 5 w.heap.size wr b (recTo ⟨kind, txn, page, prev, next, key, true, true, old, new⟩ k)) (fun _ i _ => 9 - (intOf i).toNat)
  case atStart => exact ⟨0, rfl, by omega, hbw2, HCC, hob2⟩
  case round =>
    obtain ⟨k, rfl, hk, hbr, hCr, hobr⟩ := hrel
    by_cases hlt : k < 9
    · obtain ⟨x0, x1, x2⟩ := hCr.out k hlt
      have hab := recAt_bounds k hlt
      have hnb := recNo_bounds ⟨kind, txn, page, prev, next, key, true, true, old, new⟩ k hlt
      have hstep : recTo ⟨kind, txn, page, prev, next, key, true, true, old, new⟩ (k + 1) = putL (recTo ⟨kind, txn, page, prev, next, key, true, true, old, new⟩ k) (recAt k) (recSz k) (recNo ⟨kind, txn, page, prev, next, key, true, true, old, new⟩ k) := rfl
      have hlen := recTo_length ⟨kind, txn, page, prev, next, key, true, true, old, new⟩ k
      have HST := Lib.hid hstep
      have HL := Lib.hid hlen
      clear hstep hlen
      generalize recTo ⟨kind, txn, page, prev, next, key, true, true, old, new⟩ k = b0 at hobr HST HL
      generalize recAt k = pa at x0 hab HST
      generalize recSz k = ps at x1 hab HST
      generalize recNo ⟨kind, txn, page, prev, next, key, true, true, old, new⟩ k = pn at x2 hnb HST
      have hk9 : (k : Int) < 9 := by omega
      have hba : Below wr.heap.size wr (wr.alloc (.cells #[.int .u64 pa, .int .u64 ps, .int .u64 pn] 73)) := (Below.refl _ _).alloc (Nat.le_refl _) _
      have hbb := hobr.below hba
      have hbw3 : Below w.heap.size w (wr.alloc (.cells #[.int .u64 pa, .int .u64 ps, .int .u64 pn] 73)) := hbr.alloc hbr.size _
      have hC3 := hCr.out.below hba
      have HC3 := Lib.hid hC3
      clear hC3
      go_wp2_with fail
      refine (put _ b0 pa ps pn _ hbb.bs (by rw [HL.out]; omega) (by omega) (by omega) (by omega) (by omega) hnb.1 hnb.2).mono ?_
      rintro e w4 ⟨v4, rfl, hb4, hob4⟩
      rw [← HST.out] at hob4
      have hfin1 := hbw3.trans (hb4.mono hbw3.size)
      have hfin2 : Hid (C3 (w1.heap.size + 1) ⟨kind, txn, page, prev, next, key, true, true, old, new⟩ w4) := HC3.out.below hb4
      have hfin3 := hob4.mono (base' := w.heap.size) hbw3.size
      go_wp2_with fail
      go_roundw
      case rel => exact ⟨k + 1, by go_num, by omega, hfin1, hfin2, hfin3⟩
      case measure => simp [intOf]; omega
    · obtain rfl : k = 9 := by omega
      rw [recTo_all] at hobr
      go_wp2_with fail
      go_ret2
      exact ⟨⟨_, rfl, hobr⟩, hbr⟩

/-- Bytes of a record that may be -/
theorem recBytes (r : RecD) (w : World) (hr : r.W) (eR : Value) (hE : w.cell? ⟨0, 0, none⟩ = some eR) (hok : okR r = true) :
    Calls Tryd.prog 19 #[recV r] w fun e w' => (∃ v, e = .returned (.tuple #[v, .nilIface]) ∧ Ob 5 w.heap.size w' v (recB r)) ∧ Below w.heap.size w w' := by
  obtain ⟨kind, txn, page, prev, next, key, had, has, old, new⟩ := r
  cases had <;> cases has
  · exact recBytesFF _ _ _ _ _ _ _ _ w hr eR hE hok
  · exact recBytesFT _ _ _ _ _ _ _ _ w hr eR hE hok
  · exact recBytesTF _ _ _ _ _ _ _ _ w hr eR hE hok
  · exact recBytesTT _ _ _ _ _ _ _ _ w hr eR hE hok

/-- Bytes of one that may not be -/
theorem recBytesBad (r : RecD) (w : World) (i : Nat) (p : Option Addr) (T : TypeId) (hE : w.cell? ⟨0, 0, none⟩ = some (.iface T (.pointer p))) (hok : okR r = false) :
    Calls Tryd.prog 19 #[recV r] w fun e w' => e = .returned (.tuple #[.slice none 0 0, .iface T (.pointer p)]) ∧ Below w.heap.size w w' := by
  have hb : ∀ o, Below w.heap.size w (w.alloc o) := fun o => (Below.refl _ _).alloc (Nat.le_refl _) _
  have hlt := Below.lt hE
  have hc := fun w' (h : Below w.heap.size w w') => recCheck r w' _ (by rw [h.cell hlt]; exact hE)
  rw [hok] at hc
  dsimp only [recV, errIf] at hc ⊢
  simp only [Bool.false_eq_true, if_false] at hc
  have HC := Lib.hid hc
  clear hc
  go_enter Tryd.func19, Tryd.ntmps19
  go_wp2_with fail
  refine (HC.out _ (hb _)).mono ?_
  rintro e w1 ⟨rfl, hb1⟩
  go_wp2_with fail
  go_ret2
  exact ⟨rfl, (hb _).trans (hb1.mono (hb _).size)⟩
end Go.Proofs.YtpgelebmhhcodaaDoor
