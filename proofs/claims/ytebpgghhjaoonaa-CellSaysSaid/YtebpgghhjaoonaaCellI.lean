/- The law CellSays walked. -/
import Derived.Test.YtebpgghhjaoonaaCellD
import Derived.Test.YtebpgghhjaoonaaCellF
import Derived.Test.YtebpgghhjaoonaaCellG
import Derived.Test.YtebpgghhjaoonaaCellH
namespace Go.Proofs.Ytebpgghhjaoonaa
open Go.RowKit
set_option linter.unusedVariables false

theorem cellSays_walk (v u : Value) (l m : List Int) (at_ size n : Int) (w : World) (hv : Bs w v l) (hu : Bs w u m) (ha : -9223372036854775808 ≤ at_) (ha' : at_ ≤ 9223372036854775807) (h3 : -9223372036854775808 ≤ size) (h4 : size ≤ 9223372036854775807)
    (hn : 0 ≤ n) (hn' : n ≤ 18446744073709551615) :
    Calls Try.prog 5 #[v, u, .int .i64 at_, .int .i64 size, .int .u64 n] w fun e w' => e = .returned (.bool true) ∧ Below w.heap.size w w' := by
  have hv' := hv
  have hu' := hu
  obtain ⟨hl1, o, c, rfl, hlc, hcm, hon, hcell⟩ := hv
  obtain ⟨hm1, o', c', rfl, hlc', hcm', hon', hcell'⟩ := hu
  unfold maxLen at hcm hcm'
  clear hcell hcell' hon hon'
  go_enter Try.func5, Try.ntmps5
  go_wp2_with fail
  refine (first1 w).mono ?_
  rintro e w1 ⟨rfl, hb1⟩
  by_cases hlen : 60 < l.length
  · go_wp2_with fail
    go_ret
    exact ⟨rfl, hb1⟩
  · by_cases hlen2 : 60 < m.length
    · go_wp2_with fail
      go_ret
      exact ⟨rfl, hb1⟩
    · have g1 : l.length ≤ 60 := by omega
      have g2 : m.length ≤ 60 := by omega
      clear hlen hlen2
      have hvb : ∀ w', Below w.heap.size w w' → Bs w' (.slice o l.length c) l := fun w' h => hv'.below h
      have hub : ∀ w', Below w.heap.size w w' → Bs w' (.slice o' m.length c') m := fun w' h => hu'.below h
      have hl9 : l.length ≤ 500000000000 := by omega
      have hl10 : l.length ≤ 1000000000000 := by omega
      go_wp2_with fail
      refine (number size 100 w1 (by omega) (by omega) h3 h4).mono ?_
      rintro e w2 ⟨rfl, rfl⟩
      have hs1 := Int.emod_nonneg size (show (100 : Int) ≠ 0 by omega)
      have hs2 := Int.emod_lt_of_pos size (show (0 : Int) < 100 by omega)
      generalize size % 100 = f at hs1 hs2
      go_wp2_with fail
      refine (put _ l at_ size n w1 (hvb _ hb1) hl10 ha ha' h3 h4 hn hn').mono ?_
      rintro e w2 ⟨x, rfl, hb2', hx⟩
      have hb2 := hb1.trans (hb2'.mono hb1.size)
      go_wp2_with fail
      refine (putRef _ l at_ size n w2 (hvb _ hb2) hl10 ha ha' h3 h4 hn hn').mono ?_
      rintro e w3 ⟨y, rfl, hb3', hy⟩
      have hb3 := hb2.trans (hb3'.mono hb2.size)
      go_wp2_with fail
      refine (same_calls x y _ _ w3 (hx.below hb3').bs hy.bs).mono ?_
      rintro e w4 ⟨rfl, hq4⟩
      have hb4 := hb3.trans (hq4.below _)
      have es : ∀ l : List Int, sameB l l = true := fun l => sameB_iff.2 rfl
      rw [es]
      go_wp2_with fail
      refine (get _ l at_ size w4 (hvb _ hb4) hl10 ha ha' h3 h4).mono ?_
      rintro e w5 ⟨rfl, rfl⟩
      generalize hg : getL l at_ size = g
      have HG := Lib.hid hg
      clear hg
      go_wp2_with fail
      refine (getRef _ l at_ size w4 (hvb _ hb4) hl10 ha ha' h3 h4).mono ?_
      rintro e w5 ⟨rfl, rfl⟩
      rw [HG.out]
      go_wp2_with fail
      refine (zero _ l w4 (hvb _ hb4)).mono ?_
      rintro e w5 ⟨rfl, rfl⟩
      go_wp2_with fail
      refine (zeroRef _ l w4 (hvb _ hb4)).mono ?_
      rintro e w5 ⟨rfl, rfl⟩
      go_wp2_with fail
      have hjl : ([l, [], m, l] : List (List Int)).flatten.length ≤ 500000000000 := by simp; omega
      refine (join _ [l, [], m, l] _ (Rs.lit [.slice o l.length c, .slice none 0 0, .slice o' m.length c', .slice o l.length c] _ rfl _ 4 rfl rfl (by simp) ?_) hjl).mono ?_
      · intro i hi
        match i, hi with
        | 0, _ => exact hvb _ hb4
        | 1, _ => exact Bs.nil _
        | 2, _ => exact hub _ hb4
        | 3, _ => exact hvb _ hb4
        | i + 4, h => simp at h; omega
      rintro e w5 ⟨z, rfl, hb5', hz⟩
      have hb5 := (hb4.alloc hb4.size _).trans (hb5'.mono (by have := hb4.size; simp; omega))
      go_wp2_with fail
      refine (bytesRef _ l w5 (hvb _ hb5) hl10).mono ?_
      rintro e w6 ⟨p, rfl, hb6', hp⟩
      have hb6 := hb5.trans (hb6'.mono hb5.size)
      obtain ⟨p2, w7, hr7, hp7, hg7, _⟩ := byteT.append 22 w6 w5.heap.size p l hp _ m (hub _ hb6) (by omega) hb6'.size
      have hb7' := hp.grown hg7 hb6' (Nat.le_refl _) hb6'.size
      have hb7 := hb5.trans (hb7'.mono hb5.size)
      obtain ⟨p3, w8, hr8, hp8, hg8, _⟩ := byteT.append 22 w7 w5.heap.size p2 _ hp7 _ l (hvb _ hb7) (by simp; omega) hb7'.size
      have hb8' := hp7.grown hg8 hb7' (Nat.le_refl _) hb7'.size
      have hb8 := hb5.trans (hb8'.mono hb5.size)
      clear hg7 hg8
      go_wp2_with (first
        | (at_builtin; refine wpList_append_run_g _ rfl (.tmp 66) (.tmp 67) 22 22 rfl _ _ rfl rfl _ _ hr7 ?_)
        | (at_builtin; refine wpList_append_run_g _ rfl (.tmp 68) (.tmp 69) 22 22 rfl _ _ rfl rfl _ _ hr8 ?_))
      have ez : ([l, [], m, l] : List (List Int)).flatten = l ++ m ++ l := by simp
      rw [ez] at hz
      refine (same_calls z p3 _ _ w8 (hz.below hb8').bs hp8.bs).mono ?_
      rintro e w9 ⟨rfl, hq9⟩
      have hb9 := hb8.trans (hq9.below _)
      rw [es]
      go_wp2_with fail
      refine (fill _ l f w9 (hvb _ hb9) hl9 (by omega) (by omega)).mono ?_
      rintro e w10 ⟨s1, rfl, hb10', hs1'⟩
      have hb10 := hb9.trans (hb10'.mono hb9.size)
      go_wp2_with fail
      refine (fillRef _ l f w10 (hvb _ hb10) hl9 (by omega) (by omega)).mono ?_
      rintro e w11 ⟨s2, rfl, hb11', hs2'⟩
      have hb11 := hb10.trans (hb11'.mono hb10.size)
      go_wp2_with fail
      refine (same_calls s1 s2 _ _ w11 (hs1'.below hb11').bs hs2'.bs).mono ?_
      rintro e w12 ⟨rfl, hq12⟩
      rw [es]
      go_wp2_with fail
      go_ret
      exact ⟨rfl, hb11.trans (hq12.below _)⟩
end Go.Proofs.Ytebpgghhjaoonaa
