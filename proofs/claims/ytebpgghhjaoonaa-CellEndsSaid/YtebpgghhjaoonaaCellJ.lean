/- The law CellEnds walked. -/
import Derived.Test.YtebpgghhjaoonaaCellD
import Derived.Test.YtebpgghhjaoonaaCellF
import Derived.Test.YtebpgghhjaoonaaCellH
namespace Go.Proofs.Ytebpgghhjaoonaa
open Go.RowKit
set_option linter.unusedVariables false

theorem getL_ahead (l : List Int) (at_ : Int) (h : at_ ≤ -8) : getL l at_ 8 = 0 := by
  unfold getL
  have : ∀ m : Nat, m ≤ 8 → getTo l at_ m = 0 := by
    intro m hm
    induction m with
    | zero => rfl
    | succ m ih => rw [getTo, ih (by omega), if_neg (by omega)]; rfl
  exact this _ (by have := sz_le 8; omega)
theorem getL_size (l : List Int) (at_ s t : Int) (h : sz s = sz t) : getL l at_ s = getL l at_ t := by unfold getL; rw [h]

theorem cellEnds_walk (v : Value) (l : List Int) (at_ n : Int) (w : World) (hv : Bs w v l) (ha : -9223372036854775808 ≤ at_) (ha' : at_ ≤ 9223372036854775807)
    (hn : 0 ≤ n) (hn' : n ≤ 18446744073709551615) :
    Calls Try.prog 6 #[v, .int .i64 at_, .int .u64 n] w fun e w' => e = .returned (.bool true) ∧ Below w.heap.size w w' := by
  have hv' := hv
  obtain ⟨hl1, o, c, rfl, hlc, hcm, hon, hcell⟩ := hv
  unfold maxLen at hcm
  clear hcell hon
  go_enter Try.func6, Try.ntmps6
  go_wp2_with fail
  refine (first1 w).mono ?_
  rintro e w1 ⟨rfl, hb1⟩
  by_cases hlen : 30 < l.length
  · go_wp2_with fail
    go_ret
    exact ⟨rfl, hb1⟩
  · have g1 : l.length ≤ 30 := by omega
    clear hlen
    have hvb : ∀ w', Below w.heap.size w w' → Bs w' (.slice o l.length c) l := fun w' h => hv'.below h
    have hl9 : l.length ≤ 500000000000 := by omega
    have hl10 : l.length ≤ 1000000000000 := by omega
    go_wp2_with fail
    refine (number at_ 1000 w1 (by omega) (by omega) ha ha').mono ?_
    rintro e w2 ⟨rfl, rfl⟩
    have hs1 := Int.emod_nonneg at_ (show (1000 : Int) ≠ 0 by omega)
    have hs2 := Int.emod_lt_of_pos at_ (show (0 : Int) < 1000 by omega)
    generalize at_ % 1000 = f at hs1 hs2
    go_wp2_with fail
    refine (number at_ 20 w1 (by omega) (by omega) ha ha').mono ?_
    rintro e w2 ⟨rfl, rfl⟩
    have ht1 := Int.emod_nonneg at_ (show (20 : Int) ≠ 0 by omega)
    have ht2 := Int.emod_lt_of_pos at_ (show (0 : Int) < 20 by omega)
    generalize at_ % 20 = t at ht1 ht2
    obtain ⟨cur, hmk, hz⟩ := byteT.make w1 w.heap.size .i64 .i64 t t ht1 (Int.le_refl _) (by omega) hb1.size
    have hb2 : Below w.heap.size w (w1.alloc (.cells cur 5)) := hb1.alloc hb1.size _
    go_wp2_with fail
    refine (get _ l (l.length + f) 8 _ (hvb _ hb2) hl10 (by omega) (by omega) (by omega) (by omega)).mono ?_
    rintro e w2 ⟨rfl, rfl⟩
    rw [getL_none l (l.length + f) 8 (by omega)]
    go_wp2_with fail
    refine (get _ l (-(l.length + f) - 8) 8 _ (hvb _ hb2) hl10 (by omega) (by omega) (by omega) (by omega)).mono ?_
    rintro e w2 ⟨rfl, rfl⟩
    rw [getL_ahead l _ (by omega)]
    go_wp2_with fail
    refine (put _ l (l.length + f) 8 n _ (hvb _ hb2) hl10 (by omega) (by omega) (by omega) (by omega) hn hn').mono ?_
    rintro e w3 ⟨x, rfl, hb3', hx⟩
    rw [putL_none l _ 8 n (by omega)] at hx
    have hb3 := hb2.trans (hb3'.mono hb2.size)
    have hz3 := hz.below hb3'
    go_wp2_with fail
    refine (same_calls x _ l l w3 hx.bs (hvb _ hb3)).mono ?_
    rintro e w4 ⟨rfl, hq4⟩
    have hb4 := hb3.trans (hq4.below _)
    have hz4 := hz3.below (hq4.below _)
    have es : ∀ l : List Int, sameB l l = true := fun l => sameB_iff.2 rfl
    rw [es]
    go_wp2_with fail
    refine (get _ l 0 0 w4 (hvb _ hb4) hl10 (by omega) (by omega) (by omega) (by omega)).mono ?_
    rintro e w5 ⟨rfl, rfl⟩
    rw [getL_size l 0 0 1 (by decide)]
    generalize hg : getL l 0 1 = g
    have HG := Lib.hid hg
    clear hg
    go_wp2_with fail
    refine (get _ l 0 1 w4 (hvb _ hb4) hl10 (by omega) (by omega) (by omega) (by omega)).mono ?_
    rintro e w5 ⟨rfl, rfl⟩
    rw [HG.out]
    go_wp2_with fail
    refine (get _ l 0 99 w4 (hvb _ hb4) hl10 (by omega) (by omega) (by omega) (by omega)).mono ?_
    rintro e w5 ⟨rfl, rfl⟩
    rw [getL_size l 0 99 8 (by decide)]
    generalize hg : getL l 0 8 = g8
    have HG8 := Lib.hid hg
    clear hg
    go_wp2_with fail
    refine (get _ l 0 8 w4 (hvb _ hb4) hl10 (by omega) (by omega) (by omega) (by omega)).mono ?_
    rintro e w5 ⟨rfl, rfl⟩
    rw [HG8.out]
    go_wp2_with fail
    refine (zero _ _ w4 hz4.bs).mono ?_
    rintro e w5 ⟨rfl, rfl⟩
    have ez : allZ (List.replicate t.toNat 0) = true := allZ_iff.2 fun x hx => (List.mem_replicate.1 hx).2
    rw [ez]
    go_wp2_with fail
    refine (join _ [] w4 (Rs.nil w4) (by simp)).mono ?_
    rintro e w5 ⟨j, rfl, hb5', hj⟩
    have hb5 := hb4.trans (hb5'.mono hb4.size)
    obtain ⟨_, oj, cj, rfl, _, hcj, _, _⟩ := hj.bs
    unfold maxLen at hcj
    go_wp2_with fail
    refine (fill _ l (-1) w5 (hvb _ hb5) hl9 (by omega) (by omega)).mono ?_
    rintro e w6 ⟨s, rfl, hb6', hs⟩
    have hb6 := hb5.trans (hb6'.mono hb5.size)
    have ef : fillL l (-1) = l := by unfold fillL; rw [show (-1 - (l.length : Int)).toNat = 0 from by omega]; simp
    rw [ef] at hs
    obtain ⟨_, os, cs, rfl, _, hcs, _, _⟩ := hs.bs
    unfold maxLen at hcs
    go_wp2_with fail
    go_ret
    exact ⟨rfl, hb6⟩
end Go.Proofs.Ytebpgghhjaoonaa
