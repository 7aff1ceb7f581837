/- Contracts: the statements' helpers on errors with a place around them. -/
import Derived.Test.YtoikdhfihkbcbaaDoorIs
import Derived.Test.YtoikdhfihkbcbaaDoorFW
import Derived.Deep.RegionHeld3
import Derived.Deep.Cut
import Derived.Deep.QuietTactic
import Derived.Deep.RegionLaw
namespace Go.Proofs.YtoikdhfihkbcbaaDoor
open Go.RowKit
set_option linter.unusedVariables false

set_option maxHeartbeats 1000000 in
theorem faultAt {ea : Nat → Addr} (w : World) (h : Sen ea w) (v : Value) (pos : Int) (i : Nat) (hv : ErV ea w v (.at_ pos i)) :
    Calls Tryd.prog 64 #[v] w fun e w' => e = .returned (.agg #[.int .i64 (101 + i), .bool true, .int .i64 pos]) ∧ Below w.heap.size w w' := by
  obtain ⟨W, hW⟩ : ∃ W, W = w.alloc (.cells #[.int .i64 0, .bool false, .int .i64 0] 68) := ⟨_, rfl⟩
  have hbw : Below w.heap.size w W := by rw [hW]; exact (Below.refl _ _).alloc (Nat.le_refl _) _
  have HF0 : Hid (FW w.heap.size #[.int .i64 0, .bool false, .int .i64 0] W) := by rw [hW]; exact FW.new w _
  have HW := Lib.hid hW
  have HA := Lib.hid hbw
  obtain ⟨A, hA⟩ : ∃ A, A = w.heap.size := ⟨_, rfl⟩
  have HSA := Lib.hid hA
  have HLE : Hid (w.heap.size ≤ A) := Lib.hid (by rw [hA]; exact Nat.le_refl _)
  rw [← hA] at HF0
  obtain ⟨hi, b, off, rfl, h1, h2⟩ := hv
  have HS := Lib.hid (sentinel W.drew ((h.below hbw).below ((Below.refl _ _).drew)) i hi)
  have HC1 := Lib.hid (fun W' (hb : Below W.heap.size W W') => (show W'.cell? ⟨b, off, none⟩ = some (.int .i64 pos) ∧ W'.cell? ⟨b, off + 1, none⟩ = some (eV ea i) from
    ⟨((hbw.trans (hb.mono hbw.size)).cell (Below.lt h1)).trans h1, ((hbw.trans (hb.mono hbw.size)).cell (Below.lt h2)).trans h2⟩))
  obtain ⟨k1, k2⟩ := HC1.out W (Below.refl _ _)
  obtain ⟨f0, f1, f2⟩ := HF0.out.cells
  have ta := assertYes ⟨b, off, none⟩
  have hne : (101 + (i : Int)) ≠ 0 := by omega
  have HNE := Lib.hid hne
  unfold eV at *
  clear h h1 h2 hbw hA hW hne
  go_enter Tryd.func64, Tryd.ntmps64
  go_upto_region 1 with fail
  rw [← HW.out, ← HSA.out]
  have hfz := HF0.out.frozen
  go_wp2_with fail
  go_region_law ((first
    | (go_simp; go_at_call 79; (with_reducible refine HS.out.mono ?_); rintro e w1 ⟨rfl, hb1⟩; obtain ⟨m1, m2⟩ := HC1.out _ (((Below.refl _ _).drew).trans hb1))
    | (go_simp; go_at_call 35; (with_reducible refine (placed _ _ HNE.out _).mono ?_); rintro e w2 ⟨rfl, hb2⟩; have hb3 := ((Below.refl W.heap.size W).drew).trans (hb1.trans (hb2.mono hb1.size)); obtain ⟨e0, e1, e2⟩ := (HF0.out.below hb3).cells; have hfz3 := (HF0.out.below hb3).frozen)))
  all_goals
    have HB3 := Lib.hid hb3
    clear hb3
    go_wp2_with fail
    exact bodyPost_ret (v := .agg #[.int .i64 (101 + i), .bool true, .int .i64 pos]) (by simp [results, Tryd.results64, go_sem, e0, e1, e2]) rfl ⟨rfl, below3 (HA.out.trans (HB3.out.mono HA.out.size)) HLE.out _ _ _⟩

theorem faultAny {ea : Nat → Addr} (w : World) (h : Sen ea w) (v : Value) (er : Er) (hv : ErV ea w v er) :
    Calls Tryd.prog 64 #[v] w fun e w' => e = .returned (.agg #[.int .i64 er.code, .bool er.placed, .int .i64 er.pos]) ∧ Below w.heap.size w w' := by
  cases er with
  | none => exact fault w h v .none hv rfl
  | s i => exact fault w h v (.s i) hv rfl
  | at_ p i => exact faultAt w h v p i hv

/-- Same: is an error this fault? -/
theorem sameAny {ea : Nat → Addr} (w : World) (h : Sen ea w) (v : Value) (er : Er) (hv : ErV ea w v er) (c p : Int) (q : Bool) :
    Calls Tryd.prog 34 #[v, .agg #[.int .i64 c, .bool q, .int .i64 p]] w fun e w' => e = .returned (.bool (er.code == c && (er.placed == q && er.pos == p))) ∧ Below w.heap.size w w' := by
  have hW : Below w.heap.size w (w.alloc (.cells #[.int .i64 c, .bool q, .int .i64 p] 68)).drew := ((Below.refl _ _).alloc (Nat.le_refl _) _).drew
  have k1 : ∀ w1, Below (w.alloc (.cells #[.int .i64 c, .bool q, .int .i64 p] 68)).drew.heap.size (w.alloc (.cells #[.int .i64 c, .bool q, .int .i64 p] 68)).drew w1 →
      (w1.cell? ⟨w.heap.size, 0, none⟩ = some (.int .i64 c) ∧ w1.cell? ⟨w.heap.size, 1, none⟩ = some (.bool q) ∧ w1.cell? ⟨w.heap.size, 2, none⟩ = some (.int .i64 p)) ∧ Below w.heap.size w w1 := fun w1 hb => by
    obtain ⟨h1, h2, h3, _⟩ := after3 (((Below.refl _ _).drew).trans hb)
    exact ⟨⟨h1, h2, h3⟩, hW.trans (hb.mono hW.size)⟩
  have K := Lib.hid k1
  have HW := Lib.hid hW
  have HFA := Lib.hid (faultAny _ (h.below hW) v er (hv.below hW))
  clear k1 hW
  generalize er.code = ec at *
  generalize er.placed = eb at *
  generalize er.pos = ep at *
  go_enter Tryd.func34, Tryd.ntmps34
  go_wp2_with fail
  go_region_held3 (fun w' => w'.cell? ⟨w.heap.size, 0, none⟩ = some (.int .i64 c) ∧ w'.cell? ⟨w.heap.size, 1, none⟩ = some (.bool q) ∧ w'.cell? ⟨w.heap.size, 2, none⟩ = some (.int .i64 p))
    (first | go_keep | exact (K.out _ hb1).1 | exact (K.out _ (hb1.trans (hb2.mono hb1.size))).1)
    ((first
      | (go_at_call 64; refine HFA.out.mono ?_; rintro e w1 ⟨rfl, hb1⟩)
      | (go_at_call 63; refine (sameFault _ _ _ _ _ _ _).mono ?_; rintro e w2 ⟨rfl, hb2⟩)))
  generalize hr : (ec == c && (eb == q && ep == p)) = r
  have HR := Lib.hid hr
  clear hr
  go_wp2_with fail
  go_ret
  exact ⟨by rw [HR.out]; rfl, (K.out _ (hb1.trans (hb2.mono hb1.size))).2⟩
end Go.Proofs.YtoikdhfihkbcbaaDoor
