/- Contract of phoenixref1.Fill. -/
import Derived.Test.YtabpmpaeakebmaaDoorBytesR
namespace Go.Proofs.YtabpmpaeakebmaaDoor
open Go.RowKit
set_option linter.unusedVariables false

theorem fillRef (v : Value) (l : List Int) (size : Int) (w : World) (hv : Bs w v l) (hl : l.length ≤ 500000000000) (h3 : -9223372036854775808 ≤ size) (h4 : size ≤ 500000000000) :
    Calls Tryd.prog 23 #[v, .int .i64 size] w fun e w' => ∃ v', e = .returned v' ∧ Below w.heap.size w w' ∧ Ob 5 w.heap.size w' v' (fillL l size) := by
  go_enter Tryd.func23, Tryd.ntmps23
  go_wp2_with fail
  refine (bytesRef _ l _ hv (by omega)).mono ?_
  rintro e w1 ⟨v', rfl, hb, hob⟩
  go_wp2_with fail
  go_loopw [5] (fun s wr => ∃ k : Nat, (k : Int) ≤ max 0 (size - l.length) ∧ Below w.heap.size w wr ∧ Ob 5 w.heap.size wr s (l ++ List.replicate k 0)) (fun s _ => match s with | .slice _ n _ => (size - n).toNat | _ => 0)
  case atStart => exact ⟨0, by omega, hb, by simpa using hob⟩
  case round =>
    obtain ⟨k, hk, hbr, hobr⟩ := hrel
    have hln : (l ++ List.replicate k (0 : Int)).length = l.length + k := by simp
    have hobr' := hobr
    obtain ⟨_, o, cap, rfl, _, hcm, _, _⟩ := hobr.bs
    rw [hln] at *
    unfold maxLen at hcm
    by_cases hlt : (l.length : Int) + k < size
    · have hsz := hbr.size
      obtain ⟨v2, w2, hr, h1, h2, h3⟩ := byteT.append 24 (wr.alloc (.cells #[.int .u8 0] 5)) w.heap.size _ _ (hobr.below ((Below.refl _ _).alloc (Nat.le_refl _) _)) _ [0] (Ob.one (base := 0) (by omega) (by omega) (Nat.zero_le _)).bs (by simp; omega) (by simp; omega)
      have hb1 : Below w.heap.size w (wr.alloc (.cells #[.int .u8 0] 5)) := hbr.alloc hsz _
      have hb2 : Below w.heap.size w w2 := (hobr.below ((Below.refl _ _).alloc (Nat.le_refl _) _)).grown h2 hb1 (Nat.le_refl _) (by simp; omega)
      have hlen2 : (l ++ List.replicate (k + 1) (0 : Int)).length = l.length + (k + 1) := by simp
      rw [List.append_assoc, show List.replicate k (0 : Int) ++ [0] = List.replicate (k + 1) 0 from (List.replicate_succ' ..).symm] at h1
      obtain ⟨_, o2, cap2, rfl, _, _, _, _⟩ := h1.bs
      rw [hlen2] at *
      clear h2 h3
      go_wp2_with (at_builtin; refine Lib.wpList_append_run _ rfl _ _ _ _ rfl _ _ rfl rfl _ _ hr ?_)
      go_roundw
      case rel => exact ⟨k + 1, by omega, hb2, h1⟩
      case measure => simp; omega
    · have e : l ++ List.replicate k 0 = fillL l size := by unfold fillL; rw [show (size - l.length).toNat = k from by omega]
      rw [e] at hobr
      go_wp2_with fail
      go_ret
      exact ⟨_, rfl, hbr, hobr⟩
end Go.Proofs.YtabpmpaeakebmaaDoor
