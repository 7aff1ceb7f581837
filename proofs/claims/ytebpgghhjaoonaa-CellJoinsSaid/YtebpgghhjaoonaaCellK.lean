/- The law CellJoins walked. -/
import Derived.Test.YtebpgghhjaoonaaCellD
import Derived.Test.YtebpgghhjaoonaaCellF
import Derived.Test.YtebpgghhjaoonaaCellH
namespace Go.Proofs.Ytebpgghhjaoonaa
open Go.RowKit
set_option linter.unusedVariables false

theorem flatten_part (L : List (List Int)) (k : Nat) (hk : k < L.length) :
    (L.flatten.take (((L.take k).flatten).length + (L.getD k []).length)).drop ((L.take k).flatten).length = L.getD k [] := by
  have e : L.flatten = (L.take k).flatten ++ (L.getD k [] ++ (L.drop (k + 1)).flatten) := by
    have h1 : L = L.take k ++ (L.getD k [] :: L.drop (k + 1)) := by
      rw [getD_lt hk, List.getElem_cons_drop]; exact (List.take_append_drop k L).symm
    conv => lhs; rw [h1]
    simp
  rw [e, List.take_length_add_append, List.drop_left, List.take_left]

theorem cellJoins_walk (v : Value) (L : List (List Int)) (size : Int) (w : World) (hv : Rs w v L) (h3 : -9223372036854775808 ≤ size) (h4 : size ≤ 9223372036854775807) :
    Calls Try.prog 7 #[v, .int .i64 size] w fun e w' => e = .returned (.bool true) ∧ Below w.heap.size w w' := by
  have hv' := hv
  obtain ⟨o, c, rfl, hlc, hcm, hon, hcell⟩ := hv
  unfold maxLen at hcm
  go_enter Try.func7, Try.ntmps7
  go_wp2_with fail
  refine (first1 w).mono ?_
  rintro e w1 ⟨rfl, hb1⟩
  by_cases hlen : 6 < L.length
  · go_wp2_with fail
    go_ret
    exact ⟨rfl, hb1⟩
  · have g1 : L.length ≤ 6 := by omega
    clear hlen
    have hstep : ∀ k, k < L.length → (L.take (k + 1)).flatten = (L.take k).flatten ++ L.getD k [] := by
      intro k hk
      rw [List.take_succ_eq_append_getElem hk, List.flatten_append, getD_lt hk]; simp
    have HSTEP := Lib.hid hstep
    have HPART := Lib.hid (flatten_part L)
    clear hstep
    go_wp2_with fail
    go_loop [6, 7] (fun n i => ∃ k m : Nat, k ≤ L.length ∧ i = .int .i64 k ∧ n = .int .i64 m ∧ m = ((L.take k).flatten).length ∧ m ≤ 40 * k) (fun _ i => L.length - (intOf i).toNat)
    case atStart => exact ⟨0, 0, by omega, rfl, rfl, by simp, by omega⟩
    case round =>
      obtain ⟨k, m, hk, rfl, rfl, hm, hm2⟩ := hrel
      have HM := Lib.hid hm
      clear hm
      by_cases hlt : k < L.length
      · obtain ⟨a, u, rfl, g0, hu⟩ := Rs.at_ hcell hlt
        have g : w1.cell? (a.add k) = some u := by rw [hb1.cell (Below.lt g0)]; exact g0
        have hst : ((L.take (k + 1)).flatten).length = m + (L.getD k []).length := by rw [HSTEP.out k hlt, List.length_append, HM.out]
        have HST := Lib.hid hst
        clear hst hcell g0
        generalize L.getD k [] = ek at hu HST
        obtain ⟨_, o2, c2, rfl, _, hc2, _, _⟩ := hu
        unfold maxLen at hc2
        by_cases h40 : 40 < ek.length
        · go_wp2_with fail
          go_ret
          exact ⟨rfl, hb1⟩
        · go_wp2_with fail
          go_round
          case rel => exact ⟨k + 1, m + ek.length, by omega, by go_num, by go_num, HST.out.symm, by omega⟩
          case measure => simp [intOf]; omega
      · have hfull : (L.take k).flatten = L.flatten := by rw [List.take_of_length_le (by omega)]
        have HN : Hid (m = L.flatten.length) := by rw [← hfull]; exact HM.out
        have hle : L.flatten.length ≤ 500000000000 := by have := HN.out; omega
        clear hfull
        go_wp2_with fail
        refine (join _ L w1 (hv'.below hb1) hle).mono ?_
        rintro e w2 ⟨b, rfl, hb2', hob⟩
        have hb2 := hb1.trans (hb2'.mono hb1.size)
        have hbs := hob.bs
        have hbs0 := hbs
        obtain ⟨_, ob, cb, rfl, hcb1, hcb2, hcb3, _⟩ := hbs0
        have hN1 := HN.out
        rw [← hN1] at hbs hcb1 hle ⊢
        unfold maxLen at hcb2
        clear hN1
        go_wp2_with fail
        go_loopw [9, 10] (fun n i wr => ∃ k m : Nat, k ≤ L.length ∧ i = .int .i64 k ∧ n = .int .i64 m ∧ Hid (m = ((L.take k).flatten).length) ∧ Qw w2 wr) (fun _ i _ => L.length - (intOf i).toNat)
        case atStart => exact ⟨0, 0, by omega, rfl, rfl, by simp [Hid], Qw.refl _⟩
        case round =>
          obtain ⟨k, m', hk, rfl, rfl, hm, hq⟩ := hrel
          by_cases hlt : k < L.length
          · obtain ⟨a, u, rfl, g0, hu⟩ := Rs.at_ hcell hlt
            have g : wr.cell? (a.add k) = some u := by rw [hq.cell, hb2.cell (Below.lt g0)]; exact g0
            have hst : ((L.take (k + 1)).flatten).length = m' + (L.getD k []).length := by rw [HSTEP.out k hlt, List.length_append, hm.out]
            have hsum : m' + (L.getD k []).length ≤ m := by
              have : L.flatten = (L.take (k + 1)).flatten ++ (L.drop (k + 1)).flatten := by rw [← List.flatten_append, List.take_append_drop]
              rw [HN.out, this, List.length_append, hst]; omega
            have hpart := HPART.out k hlt
            rw [← hm.out] at hpart
            have HPT := Lib.hid hpart
            have HST := Lib.hid hst
            clear hpart hst hcell g0
            generalize L.getD k [] = ek at hu HST HPT hsum
            have hur : Bs wr u ek := (hu.below hb2).below (hq.below _)
            have hub := hur
            obtain ⟨_, o2, c2, rfl, _, hc2, _, _⟩ := hu
            unfold maxLen at hc2
            go_wp2_with fail
            have f1 : 0 ≤ (m' : Int) + (ek.length : Int) := by omega
            have f2 : (m' : Int) + (ek.length : Int) ≤ (cb : Int) := by omega
            have f3 : ((m' : Int) + (ek.length : Int)).toNat = m' + ek.length := by omega
            have f4 : m' ≤ m' + ek.length := by omega
            have hsub := (hbs.sub m' (m' + ek.length) f4 (by have := HN.out; omega)).below (hq.below _)
            rw [HPT.out, Nat.add_sub_cancel_left] at hsub
            have hcall := fun n => sameBytes _ _ ek ek (wr.drewN n) (hsub.below (bdrew _ _ _)) (hub.below (bdrew _ _ _))
            have es : sameB ek ek = true := sameB_iff.2 rfl
            rw [es] at hcall
            have HC := Lib.hid hcall
            clear hcall hsub
            have f5 : IntKind.i64.wrap ((m' : Int) + (ek.length : Int)) = (m' : Int) + (ek.length : Int) := IntWalk.i64_in _ (by omega)
            go_quiet ((go_at_call 13; exact Calls.quiet_of (HC.out _)))
            clear f1 f2 f3 f4 f5
            go_wp2_with fail
            go_roundw
            case rel => exact ⟨k + 1, m' + ek.length, by omega, by go_num, by go_num, HST.out.symm, hq.drew _⟩
            case measure => simp [intOf]; omega
          · have hb3 := hb2.trans (hq.below _)
            have hbs3 := hbs.below (hq.below _)
            go_wp2_with fail
            refine (number size 300 wr (by omega) (by omega) h3 h4).mono ?_
            rintro e w4 ⟨rfl, rfl⟩
            have hs1 := Int.emod_nonneg size (show (300 : Int) ≠ 0 by omega)
            have hs2 := Int.emod_lt_of_pos size (show (0 : Int) < 300 by omega)
            generalize size % 300 = f at hs1 hs2
            go_wp2_with fail
            refine (fill _ L.flatten f wr hbs3 (by rw [← HN.out]; exact hle) (by omega) (by omega)).mono ?_
            rintro e w4 ⟨x, rfl, hb4', hx⟩
            have hb4 := hb3.trans (hb4'.mono hb3.size)
            have hxl := fillL_length L.flatten f
            have hxb := hx.bs
            have ex1 : (fillL L.flatten f).take m = L.flatten := by unfold fillL; rw [HN.out]; exact List.take_left
            have ex2 : allZ ((fillL L.flatten f).drop m) = true := by
              unfold fillL; rw [HN.out, List.drop_left]; exact allZ_iff.2 fun x hx => (List.mem_replicate.1 hx).2
            rw [← HN.out] at hxl
            obtain ⟨_, ox, cx, rfl, hcx1, hcx2, _, _⟩ := hx.bs
            unfold maxLen at hcx2
            have EX1 := Lib.hid ex1
            have EX2 := Lib.hid ex2
            clear ex1 ex2
            have hsub1 := hxb.pre m (by omega)
            have hsub2 := hxb.sub m (fillL L.flatten f).length (by omega) (Nat.le_refl _)
            generalize fillL L.flatten f = F at *
            rw [EX1.out] at hsub1
            rw [List.take_length] at hsub2
            have HX := Lib.hid hxl
            have hxm : m ≤ F.length := by omega
            clear hxl
            have hes : sameB L.flatten L.flatten = true := sameB_iff.2 rfl
            have same := fun w' (h : Qw w4 w') => same_calls _ _ _ _ w' (hsub1.below (h.below _)) ((hbs3.below hb4').below (h.below _))
            rw [hes] at same
            have SAME := Lib.hid same
            clear same hsub1 hes
            by_cases hcm : cx = m
            · obtain rfl : cx = m := hcm
              rw [if_pos rfl, Nat.sub_self, show F.length - cx = 0 from by omega] at hsub2
              have zer := fun w' (h : Qw w4 w') => zero _ _ w' (hsub2.below (h.below _))
              rw [EX2.out] at zer
              have ZER := Lib.hid zer
              clear zer hsub2
              have hE : ((F.length : Int) == (cx : Int)) = true := by simp; omega
              have hmf : ¬ (cx : Int) < f := by have := HX.out; omega
              go_wp2_with fail
              refine (SAME.out w4 (Qw.refl _)).mono ?_
              rintro e w5 ⟨rfl, hq5⟩
              go_wp2_with fail
              refine (ZER.out w5 hq5).mono ?_
              rintro e w6 ⟨rfl, rfl⟩
              go_wp2_with fail
              go_ret
              exact ⟨rfl, hb4.trans (hq5.below _)⟩
            · rw [if_neg hcm] at hsub2
              have zer := fun w' (h : Qw w4 w') => zero _ _ w' (hsub2.below (h.below _))
              rw [EX2.out] at zer
              have ZER := Lib.hid zer
              clear zer hsub2
              by_cases hmf : (m : Int) < f
              · have hN2 : f = F.length := by have := HX.out; omega
                subst hN2
                go_wp2_with fail
                refine (SAME.out w4 (Qw.refl _)).mono ?_
                rintro e w5 ⟨rfl, hq5⟩
                go_wp2_with fail
                refine (ZER.out w5 hq5).mono ?_
                rintro e w6 ⟨rfl, rfl⟩
                go_wp2_with fail
                go_ret
                exact ⟨rfl, hb4.trans (hq5.below _)⟩
              · have hE : ((F.length : Int) == (m : Int)) = true := by have := HX.out; simp; omega
                go_wp2_with fail
                refine (SAME.out w4 (Qw.refl _)).mono ?_
                rintro e w5 ⟨rfl, hq5⟩
                go_wp2_with fail
                refine (ZER.out w5 hq5).mono ?_
                rintro e w6 ⟨rfl, rfl⟩
                go_wp2_with fail
                go_ret
                exact ⟨rfl, hb4.trans (hq5.below _)⟩
end Go.Proofs.Ytebpgghhjaoonaa
