/- Contracts: Fill, and Join with the library's Concat and Grow behind it. -/
import Derived.Test.YtebpgghhjaoonaaCellC
namespace Go.Proofs.Ytebpgghhjaoonaa
open Go.RowKit
set_option linter.unusedVariables false

/-- a list, and zeros up to a size -/
def fillL (l : List Int) (size : Int) : List Int := l ++ List.replicate (size - l.length).toNat 0
theorem fillL_length (l : List Int) (size : Int) : ((fillL l size).length : Int) = max (l.length : Int) size := by simp [fillL]; omega
theorem isB_fill {l : List Int} (h : IsB l) (size : Int) : IsB (fillL l size) := h.append (IsB.zeros _)

theorem fill (v : Value) (l : List Int) (size : Int) (w : World) (hv : Bs w v l) (hl : l.length ≤ 500000000000) (h3 : -9223372036854775808 ≤ size) (h4 : size ≤ 500000000000) :
    Calls Try.prog 20 #[v, .int .i64 size] w fun e w' => ∃ v', e = .returned v' ∧ Below w.heap.size w w' ∧ Ob 5 w.heap.size w' v' (fillL l size) := by
  have hv' := hv
  obtain ⟨hl1, o, c, rfl, hlc, hcm, hon, hcell⟩ := hv
  unfold maxLen at hcm
  by_cases hsz : size ≤ l.length
  · have e : fillL l size = l := by unfold fillL; rw [show (size - l.length).toNat = 0 from by omega]; simp
    rw [e]
    go_enter Try.func20, Try.ntmps20
    go_wp2_with fail
    refine (clone _ l _ hv' (by omega)).mono ?_
    rintro e w1 ⟨v', rfl, hb, hob⟩
    go_wp2_with fail
    go_ret
    exact ⟨_, rfl, hb, hob⟩
  · have hsz2 : (l.length : Int) < size := by omega
    go_enter Try.func20, Try.ntmps20
    go_wp2_with fail
    refine (clone _ l _ hv' (by omega)).mono ?_
    rintro e w1 ⟨v', rfl, hb, hob⟩
    obtain ⟨n, rfl⟩ : ∃ n : Nat, size = l.length + n := ⟨(size - l.length).toNat, by omega⟩
    obtain ⟨v2, w2, hr, h1, h2⟩ := byteT.appendZ 3 .i64 Try.underlying3 22 w1 w.heap.size v' l hob n (by omega) (by omega) hb.size
    have hb2 : Below w.heap.size w w2 := hob.grown h2 hb (Nat.le_refl _) hb.size
    have e2 : fillL l (l.length + n) = l ++ List.replicate n 0 := by unfold fillL; rw [show ((l.length : Int) + n - l.length).toNat = n from by omega]
    rw [← e2] at h1
    have e3 : (l.length : Int) + n - l.length = (n : Int) := by omega
    have E3 := Lib.hid e3
    clear e3 e2 h2
    rw [← E3.out] at hr
    go_wp2_with (at_builtin; refine Lib.wpList_append_run _ rfl _ _ _ _ rfl _ _ rfl rfl _ _ hr ?_)
    go_ret
    exact ⟨_, rfl, hb2, h1⟩

theorem fillRef (v : Value) (l : List Int) (size : Int) (w : World) (hv : Bs w v l) (hl : l.length ≤ 500000000000) (h3 : -9223372036854775808 ≤ size) (h4 : size ≤ 500000000000) :
    Calls Try.prog 21 #[v, .int .i64 size] w fun e w' => ∃ v', e = .returned v' ∧ Below w.heap.size w w' ∧ Ob 5 w.heap.size w' v' (fillL l size) := by
  go_enter Try.func21, Try.ntmps21
  go_wp2_with fail
  refine (bytesRef _ l _ hv (by omega)).mono ?_
  rintro e w1 ⟨v', rfl, hb, hob⟩
  go_wp2_with fail
  go_loopw [5] (fun s wr => ∃ k : Nat, (k : Int) ≤ max 0 (size - l.length) ∧ Below w.heap.size w wr ∧ Ob 5 w.heap.size wr s (l ++ List.replicate k 0)) (fun s _ => match s with | .slice _ n _ => (size - n).toNat | _ => 0)
  case atStart => exact ⟨0, by omega, hb, by simpa using hob⟩
  case round =>
    obtain ⟨k, hk, hbr, hobr⟩ := hrel
    have hln : (l ++ List.replicate k (0 : Int)).length = l.length + k := by simp
    have hobr' := hobr
    obtain ⟨_, o, cap, rfl, _, hcm, _, _⟩ := hobr.bs
    rw [hln] at *
    unfold maxLen at hcm
    by_cases hlt : (l.length : Int) + k < size
    · have hsz := hbr.size
      obtain ⟨v2, w2, hr, h1, h2, h3⟩ := byteT.append 22 (wr.alloc (.cells #[.int .u8 0] 5)) w.heap.size _ _ (hobr.below ((Below.refl _ _).alloc (Nat.le_refl _) _)) _ [0] (Ob.one (base := 0) (by omega) (by omega) (Nat.zero_le _)).bs (by simp; omega) (by simp; omega)
      have hb1 : Below w.heap.size w (wr.alloc (.cells #[.int .u8 0] 5)) := hbr.alloc hsz _
      have hb2 : Below w.heap.size w w2 := (hobr.below ((Below.refl _ _).alloc (Nat.le_refl _) _)).grown h2 hb1 (Nat.le_refl _) (by simp; omega)
      have hlen2 : (l ++ List.replicate (k + 1) (0 : Int)).length = l.length + (k + 1) := by simp
      rw [List.append_assoc, show List.replicate k (0 : Int) ++ [0] = List.replicate (k + 1) 0 from (List.replicate_succ' ..).symm] at h1
      obtain ⟨_, o2, cap2, rfl, _, _, _, _⟩ := h1.bs
      rw [hlen2] at *
      clear h2 h3
      go_wp2_with (at_builtin; refine Lib.wpList_append_run _ rfl _ _ _ _ rfl _ _ rfl rfl _ _ hr ?_)
      go_roundw
      case rel => exact ⟨k + 1, by omega, hb2, h1⟩
      case measure => simp; omega
    · have e : l ++ List.replicate k 0 = fillL l size := by unfold fillL; rw [show (size - l.length).toNat = k from by omega]
      rw [e] at hobr
      go_wp2_with fail
      go_ret
      exact ⟨_, rfl, hbr, hobr⟩
end Go.Proofs.Ytebpgghhjaoonaa
