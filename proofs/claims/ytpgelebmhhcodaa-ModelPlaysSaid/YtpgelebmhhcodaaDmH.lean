/- Contract: the document's laid. -/
import Derived.Test.YtpgelebmhhcodaaDmG
import Derived.Deep.CutBlock
namespace Go.Proofs.Ytpgelebmhhcodaa
open Go.RowKit
set_option linter.unusedVariables false

set_option maxRecDepth 20000 in
set_option maxHeartbeats 4000000 in
theorem refLaid {b0 : Nat} (v : Value) (T : List (Int × Int)) (w : World) (hv : En b0 w v T) (hl : T.length ≤ 90000) {pk pv : Int} (ph : Bool) (hpk : I64L pk) (hpv : I64L pv) :
    Calls Try.prog 91 #[v, .agg #[.int .i64 pk, .bool ph, .int .i64 pv]] w fun e w' => ∃ g c, e = .returned (.slice (some ⟨g, 0, none⟩) (laidP T (pk, ph, pv)).length c) ∧ En w.heap.size w' (.slice (some ⟨g, 0, none⟩) (laidP T (pk, ph, pv)).length c) (laidP T (pk, ph, pv)) ∧ Below w.heap.size w w' := by
  have hb1 : Below w.heap.size w (w.alloc (.cells #[.int .i64 pk, .bool ph, .int .i64 pv] 130)) := (Below.refl _ _).alloc (Nat.le_refl _) _
  have hbx := heap_alloc_new w (.cells #[.int .i64 pk, .bool ph, .int .i64 pv] 130)
  have hc0 : ∀ W, Below (w.alloc (.cells #[.int .i64 pk, .bool ph, .int .i64 pv] 130)).heap.size (w.alloc (.cells #[.int .i64 pk, .bool ph, .int .i64 pv] 130)) W → W.cell? ⟨w.heap.size, 0, none⟩ = some (.int .i64 pk) ∧ W.cell? ⟨w.heap.size, 1, none⟩ = some (.bool ph) ∧ W.cell? ⟨w.heap.size, 2, none⟩ = some (.int .i64 pv) := fun W hb => by
    have e := (hb.block w.heap.size (by simp)).trans hbx
    refine ⟨?_, ?_, ?_⟩ <;> rw [cell_of_row W _ _ _ _ (0, 0) e] <;> rfl
  have HC0 := Lib.hid hc0
  have HB1 := Lib.hid hb1
  have hv1 := hv.below hb1
  obtain ⟨o, c, rfl, hlc, hcm, hno, _⟩ := hv.form
  unfold maxLen at hcm
  have HNO := Lib.hid hno
  have HV := Lib.hid hv1
  obtain ⟨n, hn⟩ : ∃ n, n = T.length := ⟨_, rfl⟩
  rw [← hn] at hlc hl HV ⊢
  have HN := Lib.hid hn
  clear hc0 hbx hb1 hv hv1 hn hno
  go_enter Try.func91, Try.ntmps91
  go_upto_block 0 with fail
  generalize (w.alloc (.cells #[.int .i64 pk, .bool ph, .int .i64 pv] 130)) = w1 at *
  go_cut [5] from 7 to 22 (fun s5 W => ∃ k : Nat, s5 = .int .i64 k ∧ k ≤ n ∧ Hid (lowN T pk = k) ∧ Hid (Below w1.heap.size w1 W))
  case first =>
    go_wp2_with fail
    go_loopw [5] (fun s5 wr => ∃ k : Nat, s5 = .int .i64 k ∧ k ≤ n ∧ Hid (lowN T pk = k + lowN (T.drop k) pk) ∧ Hid (Below w1.heap.size w1 wr)) (fun s5 _ => n - (intOf s5).toNat)
    case atStart => exact ⟨0, rfl, by omega, Lib.hid (by simp), Lib.hid (Below.refl _ _)⟩
    case round =>
      obtain ⟨k, rfl, hk, HW, HBR⟩ := hrel
      by_cases hkn : (k : Int) < n
      · obtain ⟨g, r, rfl, hr, _, _, p0, _⟩ := HV.out.at_ (k := k) (by rw [← HN.out]; omega)
        have d0 := (HBR.out.cell (Below.lt p0)).trans p0
        obtain ⟨c0, _, _⟩ := HC0.out wr HBR.out
        have hst := lowN_drop hr pk
        obtain ⟨rk, rv⟩ := r
        dsimp only at d0 hst
        clear p0 hr
        by_cases hlt : rk < pk
        · rw [if_pos hlt] at hst
          have HW2 : Hid (lowN T pk = (k + 1 : Nat) + lowN (T.drop (k + 1)) pk) := Lib.hid (by rw [HW.out, hst]; omega)
          clear hst
          go_wp2_with fail
          go_quiet (fail)
          go_wp2_with fail
          go_roundw
          case rel => exact ⟨k + 1, by go_num, by omega, HW2, Lib.hid (HBR.out.trans (bdrew _ _ _))⟩
          case measure => simp [intOf]; omega
        · rw [if_neg hlt] at hst
          have HW2 : Hid (lowN T pk = k) := Lib.hid (by rw [HW.out, hst]; rfl)
          clear hst
          go_wp2_with fail
          go_quiet (fail)
          go_wp2_with fail
          go_meet
          exact ⟨k, rfl, hk, HW2, Lib.hid (HBR.out.trans (bdrew _ _ _))⟩
      · have HW2 : Hid (lowN T pk = k) := Lib.hid (by rw [HW.out, List.drop_eq_nil_of_le (by rw [← HN.out]; omega)]; rfl)
        obtain rfl : k = n := by omega
        go_wp2_with fail
        go_quiet (fail)
        go_wp2_with fail
        go_meet
        exact ⟨k, rfl, hk, HW2, Lib.hid (HBR.out.trans (bdrew _ _ _))⟩
  case rest =>
    obtain ⟨k, rfl, hk, HLO, HBR⟩ := hcut
    have hbw := HB1.out.trans (HBR.out.mono HB1.out.size)
    have hv2 := HV.out.below HBR.out
    have HE := Lib.hid (fun W (hb : Below w1.heap.size w1 W) => entriesRef _ _ W ((HV.out.below hb).take (k := k) (by rw [← HN.out]; exact hk)) (by rw [List.length_take]; omega))
    have hlt : (T.take k).length = k := by rw [List.length_take, ← HN.out]; omega
    rw [hlt] at HE
    have u1 := ents_upto o n c k hk hlc
    obtain ⟨c0, c1, c2⟩ := HC0.out _ HBR.out
    have HBW := Lib.hid hbw
    have HLT := Lib.hid hlt
    clear hbw hv2 hlt
    have hki : (k : Int) ≤ (n : Int) := by omega
    go_wp2_with fail
    refine (HE.out _ HBR.out).mono ?_
    clear HE
    rintro e w3 ⟨g3, c3, rfl, hb3, he3⟩
    have hb13 : Below w1.heap.size w1 w3 := HBR.out.trans (hb3.mono HBR.out.size)
    obtain ⟨c0, c1, c2⟩ := HC0.out w3 hb13
    have HB13 := Lib.hid hb13
    have HE3 := Lib.hid (he3.mono HBR.out.size)
    clear hb3 he3 hb13
    go_upto_if 28 with fail
    go_cut [6] from 29 to 36 (fun s6 W => ∃ gm nm cm, s6 = .slice (some ⟨gm, 0, none⟩) nm cm ∧ Hid (Below w1.heap.size w1 W) ∧ Hid (En w1.heap.size W (.slice (some ⟨gm, 0, none⟩) nm cm) (T.take k ++ midP (pk, ph, pv))) ∧ Hid (nm = (T.take k ++ midP (pk, ph, pv)).length))
    case first =>
      cases ph with
      | true =>
        obtain ⟨gb, cap, w4, hrun, he4, hb4⟩ := HE3.out.append1' pk pv hpk hpv HB13.out.size (by rw [HLT.out]; omega)
        rw [HLT.out] at hrun he4
        have HB4 := Lib.hid (HB13.out.trans hb4)
        have HE4 : Hid (En w1.heap.size w4 (.slice (some ⟨gb, 0, none⟩) (k + 1) cap) (T.take k ++ midP (pk, true, pv))) := Lib.hid (by unfold midP; simpa using he4)
        have HN4 : Hid (k + 1 = (T.take k ++ midP (pk, true, pv)).length) := Lib.hid (by unfold midP; rw [List.length_append, HLT.out]; rfl)
        clear he4 hb4
        go_wp2_with (at_builtin; refine Lib.wpList_append_run _ rfl _ _ _ _ rfl _ _ rfl rfl _ _ hrun ?_)
        go_meet
        exact ⟨gb, k + 1, cap, rfl, HB4, HE4, HN4⟩
      | false =>
        go_wp2_with fail
        go_meet
        exact ⟨g3, k, c3, rfl, HB13, by unfold midP; simpa using HE3, Lib.hid (by unfold midP; simpa using HLT.out.symm)⟩
    case rest =>
      obtain ⟨gm, nm, cm, rfl, HBm, HEm, HNm⟩ := hcut
      have hbx := HB1.out.trans (HBm.out.mono HB1.out.size)
      have HBX := Lib.hid hbx
      have hnm : nm ≤ n + 1 := by
        rw [HNm.out, List.length_append, HLT.out]
        have : (midP (pk, ph, pv)).length ≤ 1 := by unfold midP; split <;> simp
        omega
      have HF := Lib.hid (fun (K2 : Nat) (hK : K2 ≤ n) (o' : Option Addr) (ho1 : o' = o.map (·.add (K2 * 2)) ∨ K2 = T.length) (ho2 : o = none → o' = none) (n' : Nat) => (HEm.out.below (bdrew _ _ n')).appendTail ((HV.out.below HBm.out).below (bdrew _ _ n')) (k := K2) (by rw [← HN.out]; exact hK) o' ho1 ho2 (c - K2) HBm.out.size (by rw [← HNm.out, ← HN.out]; omega) 54)
      have HLP : Hid (∀ K2, (if (T[k]?).map (·.1) = some pk then k + 1 else k) = K2 → laidP T (pk, ph, pv) = T.take k ++ midP (pk, ph, pv) ++ T.drop K2 ∧ nm + (n - K2) = (laidP T (pk, ph, pv)).length) := Lib.hid (fun K2 hK => by
        have e : laidP T (pk, ph, pv) = T.take k ++ midP (pk, ph, pv) ++ T.drop K2 := by
          unfold laidP
          dsimp only
          rw [HLO.out, hK]
        refine ⟨e, ?_⟩
        rw [e, List.length_append, ← HNm.out, List.length_drop, ← HN.out])
      obtain ⟨c0, _, _⟩ := HC0.out _ HBm.out
      have HVm := Lib.hid (HV.out.below HBm.out)
      clear hbx
      by_cases hkn : (k : Int) < n
      · obtain ⟨g, r, ho, hr, _, _, p0, _⟩ := HVm.out.at_ (k := k) (by rw [← HN.out]; omega)
        subst ho
        obtain ⟨rk, rv⟩ := r
        dsimp only at p0
        by_cases he : rk = pk
        · have b1 : (rk == pk) = true := by simp [he]
          have hif : (if (T[k]?).map (·.1) = some pk then k + 1 else k) = k + 1 := by rw [hr]; simp [he]
          have hw1 : IntKind.i64.wrap ((k : Int) + 1) = (k : Int) + 1 := by rw [IntKind.wrap_i64]; omega
          clear hr he
          obtain ⟨o', u2, ho1, ho2⟩ := ents_from2 (some ⟨g, 0, none⟩) n c (k + 1) (by omega)
          have hr := HF.out (k + 1) (by omega) o' (by
            rcases ho1 with e | e
            · exact .inl e
            · right; rw [← HN.out]; omega) ho2
          rw [← HN.out] at hr
          have HR := Lib.hid hr
          obtain ⟨hl1, hl2⟩ := HLP.out (k + 1) hif
          have HL1 := Lib.hid hl1
          have HL2 := Lib.hid hl2
          rw [show ((k + 1 : Nat) : Int) = (k : Int) + 1 by omega] at u2
          clear hr ho1 ho2 hif hl1 hl2
          go_wp2_with fail
          go_quiet (fail)
          obtain ⟨gb, cap, w5, hrun, he5, hb5⟩ := HR.out nq
          rw [← HNm.out, HL2.out] at hrun he5
          rw [← HL1.out] at he5
          have HE5 := Lib.hid (he5.mono HB1.out.size)
          have HB5 := Lib.hid ((HBX.out.trans (bdrew _ _ nq)).trans (hb5.mono HB1.out.size))
          clear he5 hb5 HR
          go_wp2_with (at_builtin; refine Lib.wpList_append_run _ rfl _ _ _ _ rfl _ _ rfl rfl _ _ hrun ?_)
          go_ret
          exact ⟨gb, cap, rfl, HE5.out, HB5.out⟩
        · have b1 : (rk == pk) = false := by simp [he]
          have hif : (if (T[k]?).map (·.1) = some pk then k + 1 else k) = k := by rw [hr]; simp [he]
          clear hr he
          obtain ⟨o', u2, ho1, ho2⟩ := ents_from2 (some ⟨g, 0, none⟩) n c (k) (by omega)
          have hr := HF.out (k) (by omega) o' (by
            rcases ho1 with e | e
            · exact .inl e
            · right; rw [← HN.out]; omega) ho2
          rw [← HN.out] at hr
          have HR := Lib.hid hr
          obtain ⟨hl1, hl2⟩ := HLP.out (k) hif
          have HL1 := Lib.hid hl1
          have HL2 := Lib.hid hl2
          clear hr ho1 ho2 hif hl1 hl2
          go_wp2_with fail
          go_quiet (fail)
          obtain ⟨gb, cap, w5, hrun, he5, hb5⟩ := HR.out nq
          rw [← HNm.out, HL2.out] at hrun he5
          rw [← HL1.out] at he5
          have HE5 := Lib.hid (he5.mono HB1.out.size)
          have HB5 := Lib.hid ((HBX.out.trans (bdrew _ _ nq)).trans (hb5.mono HB1.out.size))
          clear he5 hb5 HR
          go_wp2_with (at_builtin; refine Lib.wpList_append_run _ rfl _ _ _ _ rfl _ _ rfl rfl _ _ hrun ?_)
          go_ret
          exact ⟨gb, cap, rfl, HE5.out, HB5.out⟩
      · have hif : (if (T[k]?).map (·.1) = some pk then k + 1 else k) = k := by rw [List.getElem?_eq_none (by rw [← HN.out]; omega)]; rfl
        obtain rfl : k = n := by omega
        obtain ⟨o', u2, ho1, ho2⟩ := ents_from2 o k c (k) (by omega)
        have hr := HF.out (k) (by omega) o' (by
          rcases ho1 with e | e
          · exact .inl e
          · exact .inr HN.out) ho2
        rw [← HN.out] at hr
        rw [Nat.sub_self] at u2 hr
        have HR := Lib.hid hr
        obtain ⟨hl1, hl2⟩ := HLP.out (k) hif
        rw [Nat.sub_self] at hl2
        have HL1 := Lib.hid hl1
        have HL2 := Lib.hid hl2
        clear hr ho1 ho2 hif hl1 hl2
        go_wp2_with fail
        go_quiet (fail)
        obtain ⟨gb, cap, w5, hrun, he5, hb5⟩ := HR.out nq
        rw [← HNm.out, HL2.out] at hrun he5
        rw [← HL1.out] at he5
        have HE5 := Lib.hid (he5.mono HB1.out.size)
        have HB5 := Lib.hid ((HBX.out.trans (bdrew _ _ nq)).trans (hb5.mono HB1.out.size))
        clear he5 hb5 HR
        go_wp2_with (at_builtin; refine Lib.wpList_append_run _ rfl _ _ _ _ rfl _ _ rfl rfl _ _ hrun ?_)
        go_ret
        exact ⟨gb, cap, rfl, HE5.out, HB5.out⟩
end Go.Proofs.Ytpgelebmhhcodaa
