/- Contracts of the small functions on bytes: Number, SameBytes, Clone, places, Bytes. -/
import Derived.Test.YtebpgghhjaoonaaRows
import Derived.Test.YtebpgghhjaoonaaBase
namespace Go.Proofs.Ytebpgghhjaoonaa
open Go.RowKit
set_option linter.unusedVariables false

theorem number (n b : Int) (w : World) (hb : 0 < b) (hb2 : b ≤ 4611686018427387904) (h1 : -9223372036854775808 ≤ n) (h2 : n ≤ 9223372036854775807) :
    Calls Try.prog 10 #[.int .i64 n, .int .i64 b] w fun e w' => e = .returned (.int .i64 (n % b)) ∧ w = w' := by
  have hlt := Int.emod_lt_of_pos n hb
  have hge := Int.emod_nonneg n (show b ≠ 0 by omega)
  have X := Lib.hid (@tmod_neg n b hb)
  have Y := Lib.hid (@tmod_pos n b hb)
  go_enter Try.func10, Try.ntmps10
  go_wp2
  · rename_i hneg
    go_ret
    refine ⟨?_, rfl⟩
    have e := X.out hneg
    have : wrap64 (n.tmod b + b) = n % b := by rw [e]; unfold wrap64; omega
    simp [this]
  · rename_i hpos
    go_ret
    exact ⟨by simp [Y.out hpos], rfl⟩

theorem sameBytes (v u : Value) (l m : List Int) (w : World) (hv : Bs w v l) (hu : Bs w u m) :
    Calls Try.prog 13 #[v, u] w fun e w' => e = .returned (.bool (sameB l m)) ∧ ∃ n, w' = w.drewN n := by
  obtain ⟨hl1, o, c, rfl, hlc, hcm, hon, hcell⟩ := hv
  obtain ⟨hm1, o', c', rfl, hlc', hcm', hon', hcell'⟩ := hu
  unfold maxLen at hcm hcm'
  by_cases hl : l.length = m.length
  · have h1 : ((l.length : Int) != (m.length : Int)) = false := by simp [hl]
    have HL := Lib.hid hl
    have hl2 : l.length ≤ m.length := by omega
    clear hl
    go_enter Try.func13, Try.ntmps13
    go_wp2
    go_loopw [5] (fun i wr => ∃ k : Nat, k ≤ l.length ∧ i = .int .i64 k ∧ l.take k = m.take k ∧ ∃ n, wr = w.drewN n) (fun i _ => l.length - (intOf i).toNat)
    case atStart => exact ⟨0, Nat.zero_le _, rfl, by simp, 0, rfl⟩
    case round =>
      obtain ⟨k, hk, rfl, ht, nd, rfl⟩ := hrel
      have HT := Lib.hid ht
      clear ht
      by_cases hlt : k < l.length
      · obtain ⟨a, x, rfl, g, hx, hx0, hx1⟩ := Bs.at_ hl1 hcell hlt
        obtain ⟨a', y, rfl, g', hy, hy0, hy1⟩ := Bs.at_ hm1 hcell' (k := k) (by omega)
        clear hcell hcell'
        go_wp2
        go_quiet (fail)
        by_cases hxy : x = y
        · have e1 : (x == y) = true := by simp [hxy]
          have HXY := Lib.hid hxy
          clear hxy
          go_wp2
          go_roundw
          case rel =>
            refine ⟨k + 1, by omega, by go_num, ?_, _, rfl⟩
            have hk2 : k < m.length := by omega
            rw [List.take_succ_eq_append_getElem hlt, List.take_succ_eq_append_getElem hk2, HT.out, ← getD_lt (d := 0) hlt, ← getD_lt (d := 0) hk2, hx.out, hy.out, HXY.out]
          case measure => simp [intOf]; omega
        · have e1 : (x == y) = false := by simp [hxy]
          have HXY := Lib.hid hxy
          clear hxy
          go_wp2
          go_ret
          refine ⟨?_, _, rfl⟩
          have : sameB l m = false := by
            unfold sameB
            have : l ≠ m := by rintro rfl; exact HXY.out (hx.out.symm.trans hy.out)
            simp [this]
          rw [this]; rfl
      · go_wp2
        go_ret
        refine ⟨?_, _, rfl⟩
        have hx : sameB l m = true := by
          have e := HT.out
          have e2 := HL.out
          rw [List.take_of_length_le (by omega), List.take_of_length_le (by omega)] at e
          simp [sameB, e]
        rw [hx]; rfl
  · have h1 : ((l.length : Int) != (m.length : Int)) = true := by simp; omega
    have h2 : sameB l m = false := by unfold sameB; simp; intro h; exact hl (by rw [h])
    rw [h2]
    go_enter Try.func13, Try.ntmps13
    go_wp2
    go_ret
    exact ⟨rfl, 0, rfl⟩

/-- the same, the draws under one word -/
theorem same_calls (v u : Value) (l m : List Int) (w : World) (hv : Bs w v l) (hu : Bs w u m) :
    Calls Try.prog 13 #[v, u] w fun e w' => e = .returned (.bool (sameB l m)) ∧ Qw w w' := sameBytes v u l m w hv hu

theorem byteT : ByteT Try.prog 22 5 := ⟨Try.underlying22, Try.t5, by kernel_rfl, by kernel_rfl, by kernel_rfl, by kernel_rfl⟩

theorem clone (v : Value) (l : List Int) (w : World) (hv : Bs w v l) (hl : l.length ≤ 1000000000000) :
    Calls Try.prog 22 #[v] w fun e w' => ∃ v', e = .returned v' ∧ Below w.heap.size w w' ∧ Ob 5 w.heap.size w' v' l := by
  have hv' := hv
  obtain ⟨hl1, o, c, rfl, hlc, hcm, hon, hcell⟩ := hv
  unfold maxLen at hcm
  cases o with
  | none =>
    have hm : l = [] := Classical.byContradiction fun hne => by obtain ⟨a, ha, _⟩ := hcell hne; cases ha
    subst hm
    have hc0 := hon rfl
    subst hc0
    have h0 := fun w => @Lib.run_eql_slice_nil Try.prog w 22 5 none 0 0 0 0 Try.underlying22
    simp only [List.length_nil]
    go_enter Try.func22, Try.ntmps22
    go_wp2
    go_ret
    exact ⟨_, rfl, Below.refl _ _, Ob.nil⟩
  | some a =>
    have h0 := fun w => @Lib.run_eql_slice_nil Try.prog w 22 5 (some a) l.length c 0 0 Try.underlying22
    have hb1 : Below w.heap.size w (w.alloc (.cells #[] 5)) := (Below.refl _ _).alloc (Nat.le_refl _) _
    obtain ⟨v', w', hr, h1, h2, h3⟩ := byteT.append 22 (w.alloc (.cells #[] 5)) w.heap.size _ [] (Ob.made #[] 0 (Nat.le_refl _) (by simp [maxLen]) rfl) _ l (hv'.below hb1) (by simpa using hl) (by simp)
    have hb2 : Below w.heap.size w w' := (Ob.made (e := 5) #[] 0 (Nat.le_refl _) (by simp [maxLen]) rfl).grown h2 hb1 (Nat.le_refl _) (by simp)
    clear hv' hcell hon h3
    go_enter Try.func22, Try.ntmps22
    go_wp2_with (at_builtin; refine Lib.wpList_append_run _ rfl _ _ _ _ rfl _ _ rfl rfl _ _ hr ?_)
    go_ret
    exact ⟨_, rfl, hb2, h1⟩
end Go.Proofs.Ytebpgghhjaoonaa
