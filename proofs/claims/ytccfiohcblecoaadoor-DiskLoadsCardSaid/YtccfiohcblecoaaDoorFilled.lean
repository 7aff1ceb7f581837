/- Contract of phoenixlaw2's filled. -/
import Derived.Test.YtccfiohcblecoaaDoorByteT
namespace Go.Proofs.YtccfiohcblecoaaDoor
open Go.RowKit
set_option linter.unusedVariables false

def fl (m : Nat) (c : Int) (k : Nat) : List Int := List.replicate k c ++ List.replicate (m - k) 0
theorem fl_len (m : Nat) (c : Int) (k : Nat) (h : k ≤ m) : (fl m c k).length = m := by simp [fl]; omega
theorem fl_set (m : Nat) (c : Int) (k : Nat) (h : k < m) : (fl m c k).set k c = fl m c (k + 1) := by
  unfold fl
  obtain ⟨j, hj⟩ : ∃ j, m - k = j + 1 := ⟨m - k - 1, by omega⟩
  rw [List.set_append_right _ _ (by simp), hj, show m - (k + 1) = j by omega, List.replicate_succ (n := j), List.replicate_succ' (n := k)]
  simp
theorem fl_all (m : Nat) (c : Int) : fl m c m = List.replicate m c := by simp [fl]
theorem fl_zero (m : Nat) (c : Int) : fl m c 0 = List.replicate m 0 := by simp [fl]

set_option maxHeartbeats 1000000 in
theorem filled (n : Int) (w : World) :
    Calls Tryd.prog 28 #[.int .i64 n] w fun e w' => (∃ v, e = .returned v ∧ Ob 5 w.heap.size w' v (List.replicate 256 (n % 256))) ∧ Below w.heap.size w w' := by
  have hw : IntKind.u8.wrap n = n % 256 := by rw [IntKind.wrap_u8]
  have hc0 : 0 ≤ n % 256 := Int.emod_nonneg _ (by omega)
  have hc1 : n % 256 ≤ 255 := by have := Int.emod_lt_of_pos n (show (0 : Int) < 256 by omega); omega
  obtain ⟨c, hc⟩ : ∃ c, c = n % 256 := ⟨_, rfl⟩
  rw [← hc] at hw hc0 hc1 ⊢
  clear hc
  obtain ⟨cur, hmk, hob⟩ := byteT.make w w.heap.size .i64 .i64 256 256 (by omega) (by omega) (by omega) (Nat.le_refl _)
  have hb0 : Below w.heap.size w (w.alloc (.cells cur 5)) := (Below.refl _ _).alloc (Nat.le_refl _) _
  have e256 : (256 : Int).toNat = 256 := rfl
  rw [e256] at hmk hob
  rw [← fl_zero 256 c] at hob
  have HOB := Lib.hid hob
  have HB0 := Lib.hid hb0
  have HFIN : Hid (fl 256 c 256 = List.replicate 256 c) := Lib.hid (fl_all 256 c)
  rw [← HFIN.out]
  have HLEN := Lib.hid (fun k (h : k ≤ 256) => fl_len 256 c k h)
  have HSET := Lib.hid (fun k (h : k < 256) => fl_set 256 c k h)
  clear hob hb0 HFIN e256
  generalize fl 256 c = f at *
  go_enter Tryd.func28, Tryd.ntmps28
  go_wp2_with fail
  generalize w.alloc (.cells cur 5) = w1 at HOB HB0 ⊢
  clear hmk
  go_loopw [4] (fun i wr => ∃ k : Nat, i = .int .i64 k ∧ (k : Int) ≤ 256 ∧ Hid (Below w.heap.size w wr) ∧ Hid (Ob 5 w.heap.size wr (.slice (some ⟨w.heap.size, 0, none⟩) 256 256) (f k))) (fun i _ => 256 - (intOf i).toNat)
  case atStart => exact ⟨0, rfl, by omega, HB0, HOB⟩
  case round =>
    obtain ⟨k, rfl, hk, HBR, HOR⟩ := hrel
    by_cases hk2 : (k : Int) < 256
    · have hl := HLEN.out k (by omega)
      have hc := HOR.out.cell (i := k) (by rw [hl]; omega)
      have hf := HOR.out.frozen k
      have hs := HOR.out.set k hc0 hc1
      rw [HSET.out k (by omega)] at hs
      have hb := HBR.out.setCell (p := ⟨w.heap.size, k, none⟩) (Nat.le_refl _) (.int .u8 c)
      have HS := Lib.hid hs
      have HB := Lib.hid hb
      clear hl hs hb
      go_wp2_with fail
      go_roundw
      case rel => exact ⟨k + 1, by go_num, by omega, HB, HS⟩
      case measure => simp [intOf]; omega
    · obtain rfl : k = 256 := by omega
      go_wp2_with fail
      go_ret
      exact ⟨⟨_, rfl, HOR.out⟩, HBR.out⟩
end Go.Proofs.YtccfiohcblecoaaDoor
