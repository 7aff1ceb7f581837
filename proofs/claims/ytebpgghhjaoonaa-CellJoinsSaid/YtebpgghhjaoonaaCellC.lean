/- Contracts: Bytes, Zero (and the library's search behind it). -/
import Derived.Test.YtebpgghhjaoonaaCellB
namespace Go.Proofs.Ytebpgghhjaoonaa
open Go.RowKit
set_option linter.unusedVariables false

def allZ (l : List Int) : Bool := l.all (· == 0)
theorem allZ_iff {l : List Int} : allZ l = true ↔ ∀ x ∈ l, x = 0 := by simp [allZ]

theorem indexZero (v : Value) (l : List Int) (w : World) (hv : Bs w v l) :
    Calls Try.prog 28 #[v, .func (.func 25) #[] #[]] w fun e w' => (∃ r : Int, e = .returned (.int .i64 r) ∧ decide (0 ≤ r) = !allZ l ∧ -1 ≤ r ∧ r ≤ 9223372036854775807) ∧ w = w' := by
  obtain ⟨hl1, o, c, rfl, hlc, hcm, hon, hcell⟩ := hv
  unfold maxLen at hcm
  go_enter Try.func28, Try.ntmps28
  go_wp2_with fail
  go_loop [8] (fun i => ∃ k : Nat, i = .int .i64 k ∧ k ≤ l.length ∧ ∀ j, j < k → l.getD j 0 = 0) (fun i => l.length - (intOf i).toNat)
  case atStart => exact ⟨0, rfl, by omega, fun j hj => by omega⟩
  case round =>
    obtain ⟨k, rfl, hk, hz⟩ := hrel
    have HZ := Lib.hid hz
    clear hz
    by_cases hlt : k < l.length
    · obtain ⟨a, x, rfl, g, hx, hx0, hx1⟩ := Bs.at_ hl1 hcell hlt
      clear hcell
      by_cases hxz : x = 0
      · have e1 : (x != 0) = false := by simp [hxz]
        have HX := Lib.hid hxz
        clear hxz
        go_wp2
        go_round
        case rel =>
          refine ⟨k + 1, by go_num, by omega, fun j hj => ?_⟩
          by_cases e : j = k
          · rw [e, hx.out, HX.out]
          · exact HZ.out j (by omega)
        case measure => simp [intOf]; omega
      · have e1 : (x != 0) = true := by simp [hxz]
        have HX := Lib.hid hxz
        clear hxz
        go_wp2
        go_ret
        refine ⟨⟨k, rfl, ?_, by omega, by omega⟩, rfl⟩
        have : allZ l = false := by
          rw [Bool.eq_false_iff]; intro h
          exact HX.out (by rw [← hx.out, getD_lt hlt]; exact allZ_iff.1 h _ (List.getElem_mem hlt))
        simp [this]
    · go_wp2
      go_ret
      refine ⟨⟨-1, rfl, ?_, by omega, by omega⟩, rfl⟩
      have : allZ l = true := by
        rw [allZ_iff]; intro x hx
        obtain ⟨j, hj, rfl⟩ := List.getElem_of_mem hx
        rw [← getD_lt (d := 0) hj]; exact HZ.out j (by omega)
      simp [this]

theorem zero (v : Value) (l : List Int) (w : World) (hv : Bs w v l) :
    Calls Try.prog 15 #[v] w fun e w' => e = .returned (.bool (allZ l)) ∧ w = w' := by
  go_enter Try.func15, Try.ntmps15
  go_wp2_with (first | (go_at_call 28; (with_reducible refine (indexZero v l w hv).mono ?_); rintro e w' ⟨⟨r, rfl, hr, hr1, hr2⟩, rfl⟩; have HR := Lib.hid hr; clear hr) | go_in)
  go_ret
  exact ⟨by simp [HR.out], rfl⟩

theorem zeroRef (v : Value) (l : List Int) (w : World) (hv : Bs w v l) :
    Calls Try.prog 18 #[v] w fun e w' => e = .returned (.bool (allZ l)) ∧ w = w' := by
  obtain ⟨hl1, o, c, rfl, hlc, hcm, hon, hcell⟩ := hv
  unfold maxLen at hcm
  go_enter Try.func18, Try.ntmps18
  go_wp2_with fail
  go_loop [3] (fun i => ∃ k : Nat, i = .int .i64 k ∧ k ≤ l.length ∧ ∀ j, j < k → l.getD j 0 = 0) (fun i => l.length - (intOf i).toNat)
  case atStart => exact ⟨0, rfl, by omega, fun j hj => by omega⟩
  case round =>
    obtain ⟨k, rfl, hk, hz⟩ := hrel
    have HZ := Lib.hid hz
    clear hz
    by_cases hlt : k < l.length
    · obtain ⟨a, x, rfl, g, hx, hx0, hx1⟩ := Bs.at_ hl1 hcell hlt
      clear hcell
      by_cases hxz : x = 0
      · have e1 : (x != 0) = false := by simp [hxz]
        have HX := Lib.hid hxz
        clear hxz
        go_wp2
        go_round
        case rel =>
          refine ⟨k + 1, by go_num, by omega, fun j hj => ?_⟩
          by_cases e : j = k
          · rw [e, hx.out, HX.out]
          · exact HZ.out j (by omega)
        case measure => simp [intOf]; omega
      · have e1 : (x != 0) = true := by simp [hxz]
        have HX := Lib.hid hxz
        clear hxz
        go_wp2
        go_ret
        have : allZ l = false := by
          rw [Bool.eq_false_iff]; intro h
          exact HX.out (by rw [← hx.out, getD_lt hlt]; exact allZ_iff.1 h _ (List.getElem_mem hlt))
        exact ⟨by simp [this], rfl⟩
    · go_wp2
      go_ret
      have : allZ l = true := by
        rw [allZ_iff]; intro x hx
        obtain ⟨j, hj, rfl⟩ := List.getElem_of_mem hx
        rw [← getD_lt (d := 0) hj]; exact HZ.out j (by omega)
      exact ⟨by simp [this], rfl⟩

theorem bytesRef (v : Value) (l : List Int) (w : World) (hv : Bs w v l) (hl : l.length ≤ 1000000000000) :
    Calls Try.prog 11 #[v] w fun e w' => ∃ v', e = .returned v' ∧ Below w.heap.size w w' ∧ Ob 5 w.heap.size w' v' l := by
  have hv' := hv
  obtain ⟨hl1, o, c, rfl, hlc, hcm, hon, hcell⟩ := hv
  unfold maxLen at hcm
  go_enter Try.func11, Try.ntmps11
  obtain ⟨cur, hmk, hob⟩ := byteT.make w w.heap.size .i64 .i64 0 l.length (by omega) (by omega) (by omega) (Nat.le_refl _)
  go_wp2_with fail
  have hb0 : Below w.heap.size w (w.alloc (.cells cur 5)) := (Below.refl _ _).alloc (Nat.le_refl _) _
  go_loopw [3, 4] (fun s i wr => ∃ k : Nat, i = .int .i64 k ∧ k ≤ l.length ∧ Below w.heap.size w wr ∧ Ob 5 w.heap.size wr s (l.take k)) (fun _ i _ => l.length - (intOf i).toNat)
  case atStart => exact ⟨0, rfl, by omega, hb0, by simpa using hob⟩
  case round =>
    obtain ⟨k, rfl, hk, hbr, hobr⟩ := hrel
    by_cases hlt : k < l.length
    · obtain ⟨a, x, rfl, g0, hx, hx0, hx1⟩ := Bs.at_ hl1 hcell hlt
      clear hcell
      have hblk := Below.lt g0
      have g : wr.cell? (a.add k) = some (.int .u8 x) := by rw [hbr.cell hblk]; exact g0
      clear g0
      have hsz := hbr.size
      obtain ⟨v', w', hr, h1, h2, h3⟩ := byteT.append 22 (wr.alloc (.cells #[.int .u8 x] 5)) w.heap.size _ (l.take k) (hobr.below ((Below.refl _ _).alloc (Nat.le_refl _) _)) _ [x] (Ob.one (base := 0) hx0 hx1 (Nat.zero_le _)).bs (by simp; omega) (by simp; omega)
      have hb1 : Below w.heap.size w (wr.alloc (.cells #[.int .u8 x] 5)) := hbr.alloc hsz _
      have hb2 : Below w.heap.size w w' := (hobr.below ((Below.refl _ _).alloc (Nat.le_refl _) _)).grown h2 hb1 (Nat.le_refl _) (by simp; omega)
      have ht : l.take k ++ [x] = l.take (k + 1) := by rw [List.take_succ_eq_append_getElem hlt, ← getD_lt (d := 0) hlt, hx.out]
      rw [ht] at h1
      clear h2 h3 ht hob hobr
      go_wp2_with (at_builtin; refine Lib.wpList_append_run _ rfl _ _ _ _ rfl _ _ rfl rfl _ _ hr ?_)
      go_roundw
      case rel => exact ⟨k + 1, by go_num, by omega, hb2, h1⟩
      case measure => simp [intOf]; omega
    · have hfin : l.take k = l := List.take_of_length_le (by omega)
      rw [hfin] at hobr
      go_wp2
      go_ret
      exact ⟨_, rfl, hbr, hobr⟩
end Go.Proofs.Ytebpgghhjaoonaa
