/- The errors of package api: what each variable holds; how two are compared; the statements' plain faults. -/
import Derived.Test.YtoikdhfihkbcbaaDoorProg
import Derived.Test.YtoikdhfihkbcbaaDoorPlain
import Derived.LaidEql
namespace Go.Proofs.YtoikdhfihkbcbaaDoor
open Go.RowKit
set_option linter.unusedVariables false

/-- the places of package api's errors, in its own order -/
def gE : List Nat := [4, 0, 1, 6, 2, 7, 8, 5, 3, 9, 10, 11, 12, 13, 14, 15, 16, 17]

/-- the error that variable i holds -/
def eV (ea : Nat → Addr) (i : Nat) : Value := .iface 124 (.pointer (some (ea i)))

/-- what the variables hold: each a pointer of its own -/
structure Sen (ea : Nat → Addr) (w : World) : Prop where
  cell : ∀ i, i < 18 → w.cell? ⟨gE.getD i 0, 0, none⟩ = some (eV ea i)
  row : ∀ i, i < 18 → ∃ c t, w.heap[(ea i).block]? = some (.cells c t (0, 0))
  inj : ∀ i j, i < 18 → j < 18 → ea i = ea j → i = j

theorem Sen.below {ea : Nat → Addr} {w w' : World} (h : Sen ea w) (hb : Below w.heap.size w w') : Sen ea w' := by
  refine ⟨fun i hi => ?_, fun i hi => ?_, h.inj⟩
  · rw [hb.cell (Below.lt (h.cell i hi))]; exact h.cell i hi
  · obtain ⟨c, t, hc⟩ := h.row i hi
    exact ⟨c, t, by rw [hb.block _ (Array.getElem?_eq_some_iff.1 hc).1]; exact hc⟩

theorem errComp : (Tryd.prog.info? 124).map (·.comparable) = some true := by kernel_rfl
theorem errSize : (Tryd.prog.info? 141).map (·.size) = some 1 := by kernel_rfl

theorem run_eql_err {ea : Nat → Addr} {w0 : World} (h : Sen ea w0) (w : World) (hb : Below w0.heap.size w0 w) (i j : Nat) (hi : i < 18) (hj : j < 18) :
    (binOp .eql 35 (eV ea i) (eV ea j)).run Tryd.prog w = .ok (.bool (decide (i = j))) w := by
  obtain ⟨ii, h1, h2⟩ := Option.map_eq_some_iff.1 errComp
  obtain ⟨jj, h3, h4⟩ := Option.map_eq_some_iff.1 errSize
  have hs := h.below hb
  by_cases e : i = j
  · subst e
    simpa [eV] using run_eql_iface_ptr_same w (ea i) Tryd.underlying35 Tryd.underlying124 h1 h2 h3
  · obtain ⟨c1, t1, r1⟩ := hs.row i hi
    obtain ⟨c2, t2, r2⟩ := hs.row j hj
    have hne : ea i ≠ ea j := fun he => e (h.inj i j hi hj he)
    simpa [eV, e] using run_eql_iface_ptr_other (w := w) Tryd.underlying35 Tryd.underlying124 h1 h2 h3 (by rw [h4]; decide) hne r1 r2

/-- Alike, at two of them -/
theorem alike {ea : Nat → Addr} (w : World) (h : Sen ea w) (i j : Nat) (hi : i < 18) (hj : j < 18) :
    Calls Tryd.prog 83 #[eV ea i, eV ea j] w fun e w' => e = .returned (.bool (decide (i = j))) ∧ w = w' := by
  have he := run_eql_err h w (Below.refl _ _) i j hi hj
  unfold eV at *
  go_enter Tryd.func83, Tryd.ntmps83
  go_wp2_with fail
  go_ret
  exact ⟨rfl, rfl⟩

/-- the errors of package api, in a row of the call's own -/
theorem sentinels {ea : Nat → Addr} (w : World) (h : Sen ea w) :
    Calls Tryd.prog 82 #[] w fun e w' => (∃ g, e = .returned (.slice (some ⟨g, 0, none⟩) 18 18) ∧ ∀ i, i < 18 → w'.cell? ⟨g, i, none⟩ = some (eV ea i)) ∧ Below w.heap.size w w' := by
  have c0 := h.cell 0 (by decide)
  have c1 := h.cell 1 (by decide)
  have c2 := h.cell 2 (by decide)
  have c3 := h.cell 3 (by decide)
  have c4 := h.cell 4 (by decide)
  have c5 := h.cell 5 (by decide)
  have c6 := h.cell 6 (by decide)
  have c7 := h.cell 7 (by decide)
  have c8 := h.cell 8 (by decide)
  have c9 := h.cell 9 (by decide)
  have c10 := h.cell 10 (by decide)
  have c11 := h.cell 11 (by decide)
  have c12 := h.cell 12 (by decide)
  have c13 := h.cell 13 (by decide)
  have c14 := h.cell 14 (by decide)
  have c15 := h.cell 15 (by decide)
  have c16 := h.cell 16 (by decide)
  have c17 := h.cell 17 (by decide)
  simp only [gE, eV, List.getD_cons_zero, List.getD_cons_succ] at c0 c1 c2 c3 c4 c5 c6 c7 c8 c9 c10 c11 c12 c13 c14 c15 c16 c17
  go_enter Tryd.func82, Tryd.ntmps82
  go_wp2_with fail
  go_ret
  refine ⟨⟨_, rfl, fun i hi => ?_⟩, (Below.refl _ _).alloc (Nat.le_refl _) _⟩
  rw [cell_of_row _ w.heap.size i _ _ (0, 0) (heap_alloc_new w _)]
  match i, hi with
  | 0, _ | 1, _ | 2, _ | 3, _ | 4, _ | 5, _ | 6, _ | 7, _ | 8, _ | 9, _ | 10, _ | 11, _ | 12, _ | 13, _ | 14, _ | 15, _ | 16, _ | 17, _ => rfl
  | i + 18, h => omega

/-- the number of one of them -/
theorem sentinel {ea : Nat → Addr} (w : World) (h : Sen ea w) (n : Nat) (hn : n < 18) :
    Calls Tryd.prog 79 #[eV ea n] w fun e w' => e = .returned (.int .i64 (101 + n)) ∧ Below w.heap.size w w' := by
  have hal := fun (w' : World) (hb : Below w.heap.size w w') (i : Nat) (hi : i < 18) => alike w' (h.below hb) n i hn hi
  unfold eV at hal ⊢
  go_enter Tryd.func79, Tryd.ntmps79
  go_wp2_with fail
  refine (sentinels w h).mono ?_
  rintro e w1 ⟨⟨g, rfl, hc⟩, hb⟩
  unfold eV at hc
  have HC := Lib.hid hc
  have HAL := Lib.hid hal
  clear hc hal
  go_wp2_with fail
  go_loop [4] (fun i => ∃ k : Nat, i = .int .i64 k ∧ k ≤ n) (fun i => 18 - (intOf i).toNat)
  case atStart => exact ⟨0, rfl, by omega⟩
  case round =>
    obtain ⟨k, rfl, hk⟩ := hrel
    have hlt : k < 18 := by omega
    have hck := HC.out k hlt
    by_cases hkn : k = n
    · subst hkn
      go_wp2_with fail
      refine (HAL.out w1 hb k hlt).mono ?_
      rintro e w2 ⟨rfl, rfl⟩
      rw [decide_eq_true (rfl : k = k)]
      go_wp2_with fail
      go_ret
      exact ⟨rfl, hb⟩
    · go_wp2_with fail
      refine (HAL.out w1 hb k hlt).mono ?_
      rintro e w2 ⟨rfl, rfl⟩
      rw [decide_eq_false (show ¬ n = k from fun e => hkn e.symm)]
      go_wp2_with fail
      go_round
      case rel => exact ⟨k + 1, by go_num, by omega⟩
      case measure => simp [intOf]; omega
end Go.Proofs.YtoikdhfihkbcbaaDoor
