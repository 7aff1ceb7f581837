/- Contract of cell.Join, with the library's Concat and Grow behind it. -/
import Derived.Test.YtoikdhfihkbcbaaDoorByteT
namespace Go.Proofs.YtoikdhfihkbcbaaDoor
open Go.RowKit
set_option linter.unusedVariables false

set_option maxRecDepth 20000 in
theorem grow (n : Int) (w : World) (h0 : 0 ≤ n) (h1 : n ≤ 500000000000) :
    Calls Tryd.prog 80 #[.slice none 0 0, .int .i64 n] w fun e w' => ∃ v', e = .returned v' ∧ Below w.heap.size w w' ∧ Ob 5 w.heap.size w' v' [] := by
  by_cases hz : n = 0
  · subst hz
    go_enter Tryd.func80, Tryd.ntmps80
    go_wp2_with fail
    go_ret
    exact ⟨_, rfl, Below.refl _ _, Ob.nil⟩
  · obtain ⟨k, rfl⟩ := Int.eq_ofNat_of_zero_le h0
    have hk : 0 < k := by omega
    obtain ⟨v2, w2, hr, h2, h3⟩ := byteT.appendZ 3 .i64 Tryd.underlying3 33 w w.heap.size _ [] Ob.nil k hk (by simp; omega) (Nat.le_refl _)
    have hb2 : Below w.heap.size w w2 := (Ob.nil (e := 5) (base := w.heap.size)).grown h3 (Below.refl _ _) (Nat.le_refl _) (Nat.le_refl _)
    rw [List.nil_append] at h2
    obtain ⟨g, cap, rfl, hg1, hg2, hg3, hg4⟩ := h2.row (by simp; omega)
    have h5 := ob_cut h2 0 (by simp)
    rw [List.take_zero] at h5
    rw [List.length_replicate] at *
    unfold maxLen at hg4
    clear hz h3
    go_enter Tryd.func80, Tryd.ntmps80
    go_wp2_with (at_builtin; refine Lib.wpList_append_run _ rfl _ _ _ _ rfl _ _ rfl rfl _ _ hr ?_)
    go_ret
    exact ⟨_, rfl, hb2, h5⟩

theorem concat (v : Value) (L : List (List Int)) (w : World) (hv : Rs w v L) (hl : L.flatten.length ≤ 500000000000) :
    Calls Tryd.prog 69 #[v] w fun e w' => ∃ v', e = .returned v' ∧ Below w.heap.size w w' ∧ Ob 5 w.heap.size w' v' L.flatten := by
  obtain ⟨o, c, rfl, hlc, hcm, hon, hcell⟩ := hv
  unfold maxLen at hcm
  go_enter Tryd.func69, Tryd.ntmps69
  go_wp2_with fail
  have hsum : ∀ k, ((L.take k).flatten).length ≤ L.flatten.length := by
    intro k
    have : L.flatten = (L.take k).flatten ++ (L.drop k).flatten := by rw [← List.flatten_append, List.take_append_drop]
    rw [this]; simp
  have hstep : ∀ k, k < L.length → (L.take (k + 1)).flatten = (L.take k).flatten ++ L.getD k [] := by
    intro k hk
    rw [List.take_succ_eq_append_getElem hk, List.flatten_append, getD_lt hk]; simp
  have HSTEP := Lib.hid hstep
  clear hstep
  go_loop [3, 5, 11] (fun n _ i => ∃ k : Nat, k ≤ L.length ∧ i = .int .i64 k ∧ n = .int .i64 ((L.take k).flatten).length) (fun _ _ i => L.length - (intOf i).toNat)
  case atStart => exact ⟨0, by omega, rfl, by simp⟩
  case round =>
    obtain ⟨k, hk, rfl, rfl⟩ := hrel
    have hs := hsum k
    by_cases hlt : k < L.length
    · obtain ⟨a, u, rfl, g, hu⟩ := Rs.at_ hcell hlt
      clear hcell
      have hst : ((L.take (k + 1)).flatten).length = ((L.take k).flatten).length + (L.getD k []).length := by rw [HSTEP.out k hlt, List.length_append]
      have hs2 := hsum (k + 1)
      have HST := Lib.hid hst
      have hle : ((L.take k).flatten).length + (L.getD k []).length ≤ 500000000000 := by omega
      clear hst hs2 hsum
      generalize L.getD k [] = ek at hu HST hle
      obtain ⟨_, o2, c2, rfl, _, hc2, _, _⟩ := hu
      unfold maxLen at hc2
      generalize ((L.take k).flatten).length = n at hs HST hle
      go_wp2_with fail
      go_round
      case rel => exact ⟨k + 1, by omega, by go_num, by rw [HST.out]; go_num⟩
      case measure => simp [intOf]; omega
    · have hfull : (L.take k).flatten = L.flatten := by rw [List.take_of_length_le (by omega)]
      rw [hfull]
      clear hfull hs
      obtain ⟨N, hN⟩ : ∃ N, N = L.flatten.length := ⟨_, rfl⟩
      rw [← hN] at hl ⊢
      have HN := Lib.hid hN
      clear hN
      go_wp2_with fail
      refine (grow N w (by omega) (by omega)).mono ?_
      rintro e w1 ⟨v', rfl, hb, hob⟩
      go_wp2_with fail
      go_loopw [6, 8, 27] (fun s _ i wr => ∃ k : Nat, k ≤ L.length ∧ i = .int .i64 k ∧ Below w.heap.size w wr ∧ Ob 5 w.heap.size wr s ((L.take k).flatten)) (fun _ _ i _ => L.length - (intOf i).toNat)
      case atStart => exact ⟨0, by omega, rfl, hb, by simpa using hob⟩
      case round =>
        obtain ⟨k, hk, rfl, hbr, hobr⟩ := hrel
        have hs := hsum k
        by_cases hlt : k < L.length
        · obtain ⟨a, u, rfl, g0, hu⟩ := Rs.at_ hcell hlt
          clear hcell
          have g : wr.cell? (a.add k) = some u := by rw [hbr.cell (Below.lt g0)]; exact g0
          have hur : Bs wr u (L.getD k []) := hu.below hbr
          have hst := HSTEP.out k hlt
          have hs2 := hsum (k + 1)
          rw [hst, List.length_append, ← HN.out] at hs2
          obtain ⟨v2, w2, hr, h1, h2, h3⟩ := byteT.append 33 wr w.heap.size _ _ hobr u _ hur (by omega) hbr.size
          have hb2 : Below w.heap.size w w2 := hobr.grown h2 hbr (Nat.le_refl _) hbr.size
          rw [← hst] at h1
          clear hst h2 h3 g0
          go_wp2_with (at_builtin; refine Lib.wpList_append_run _ rfl _ _ _ _ rfl _ _ rfl rfl _ _ hr ?_)
          go_roundw
          case rel => exact ⟨k + 1, by omega, by go_num, hb2, h1⟩
          case measure => simp [intOf]; omega
        · have hfull : (L.take k).flatten = L.flatten := by rw [List.take_of_length_le (by omega)]
          rw [hfull] at hobr
          clear hfull hs
          go_wp2_with fail
          go_ret
          exact ⟨_, rfl, hbr, hobr⟩

theorem join (v : Value) (L : List (List Int)) (w : World) (hv : Rs w v L) (hl : L.flatten.length ≤ 500000000000) :
    Calls Tryd.prog 44 #[v] w fun e w' => ∃ v', e = .returned v' ∧ Below w.heap.size w w' ∧ Ob 5 w.heap.size w' v' L.flatten := by
  go_enter Tryd.func44, Tryd.ntmps44
  go_wp2_with fail
  refine (concat v L w hv hl).mono ?_
  rintro e w1 ⟨v', rfl, hb, hob⟩
  go_wp2_with fail
  go_ret
  exact ⟨_, rfl, hb, hob⟩
end Go.Proofs.YtoikdhfihkbcbaaDoor
