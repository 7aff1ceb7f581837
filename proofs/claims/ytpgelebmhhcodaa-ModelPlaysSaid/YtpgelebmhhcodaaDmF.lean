/- Contracts: the document's model: Save, Back. -/
import Derived.Test.YtpgelebmhhcodaaDmE
namespace Go.Proofs.Ytpgelebmhhcodaa
open Go.RowKit
set_option linter.unusedVariables false

section
variable {w : World} {P N : Nat} {K : Nat → Prop} {L : List (Int × Int)} {on : Nat → Bool} {mine : Nat → List Pc} {saves : Nat → List Int}
theorem refSaveNo (h : Dx w P N K L on mine saves) {s : Int} (hs : I64L s) (hon : onI N on s = false) :
    Calls Try.prog 57 #[.pointer (some ⟨P, 0, none⟩), .int .i64 s] w fun e w' => e = .returned (.int .i64 (-1)) ∧ Below w.heap.size w w' := by
  have ho := refOpen h hs
  rw [hon] at ho
  have HO := Lib.hid ho
  clear h ho hon hs
  go_enter Try.func57, Try.ntmps57
  go_wp2_with fail
  refine HO.out.mono ?_
  clear HO
  rintro e w2 ⟨rfl, hb2⟩
  have HB2 := Lib.hid hb2
  clear hb2
  go_wp2_with fail
  go_ret
  exact ⟨rfl, HB2.out⟩
set_option maxRecDepth 20000 in
set_option maxHeartbeats 4000000 in
theorem refSave (h : Dx w P N K L on mine saves) {i : Nat} (hi : i < N) (hon : on i = true) (hil : I64L i) (hml : (mine i).length ≤ 10000) (hsl : (saves i).length ≤ 10000) :
    Calls Try.prog 57 #[.pointer (some ⟨P, 0, none⟩), .int .i64 i] w fun e w' => e = .returned (.int .i64 (saves i).length) ∧ ∃ K', Dx w' P N K' L on mine (upN saves i (saves i ++ [((mine i).length : Int)])) ∧ Ext K w K' w' := by
  have ho := refOpen h hil
  rw [onI_in hi, hon] at ho
  have HO := Lib.hid ho
  obtain ⟨A, B, C, vL, vm, vs, h0⟩ := h
  have H0 := Lib.hid h0
  clear h0 ho hon
  obtain ⟨m, hm⟩ : ∃ m, m = (mine i).length := ⟨_, rfl⟩
  obtain ⟨n, hn⟩ : ∃ n, n = (saves i).length := ⟨_, rfl⟩
  have HMM : Hid (m = (mine i).length) := Lib.hid hm
  have HNN : Hid (n = (saves i).length) := Lib.hid hn
  rw [← hm] at hml ⊢
  rw [← hn] at hsl ⊢
  clear hm hn
  go_enter Try.func57, Try.ntmps57
  go_wp2_with fail
  refine HO.out.mono ?_
  clear HO
  rintro e w1 ⟨rfl, hb1⟩
  have h1 := H0.out.below hb1
  have hd : Below w1.heap.size w1 w1.drew := (Below.refl _ _).drew
  obtain ⟨oM, cM, hvm, hmc, hmm, _⟩ := (h1.ms i hi).form
  have hm := HMM.out
  have hn := HNN.out
  rw [← hm] at hvm hmc
  have hmw : (Lit.int .i64 (m : Int)).wf = true := wf_of_i64 (by omega) (by omega)
  have hx1 : Ext K w K w1 := Ext.of_below hb1
  -- what follows the copy
  have fin : ∀ (W4 : World) (gb cap : Nat), Below w1.heap.size w1 W4 → Oi w1.heap.size W4 (.slice (some ⟨gb, 0, none⟩) (n + 1) cap) (saves i ++ [(m : Int)]) →
      (W4.cell? ⟨C, i, none⟩ = some (vs i) ∧ W4.frozen? ⟨C, i, none⟩ = false) ∧ (W4.setCell ⟨C, i, none⟩ (.slice (some ⟨gb, 0, none⟩) (n + 1) cap)).cell? ⟨P, 3, none⟩ = some (.slice (some ⟨C, 0, none⟩) N N) ∧ (W4.setCell ⟨C, i, none⟩ (.slice (some ⟨gb, 0, none⟩) (n + 1) cap)).cell? ⟨C, i, none⟩ = some (.slice (some ⟨gb, 0, none⟩) (n + 1) cap) ∧
      ∃ K', Dx (W4.setCell ⟨C, i, none⟩ (.slice (some ⟨gb, 0, none⟩) (n + 1) cap)) P N K' L on mine (upN saves i (saves i ++ [(m : Int)])) ∧ Ext K w K' (W4.setCell ⟨C, i, none⟩ (.slice (some ⟨gb, 0, none⟩) (n + 1) cap)) := fun W4 gb cap hb ho => by
    obtain ⟨q1, q2, q3⟩ := h1.putC hb hi ho
    have c0 := (q2.cellC hi).1
    rw [upN_same] at c0
    exact ⟨q1, q2.cellP.2.2.2.1, c0, _, ⟨_, _, _, _, _, _, q2⟩, hx1.trans q3⟩
  have hso := h1.ss i hi
  have al := fun (W : World) => (Below.refl W.heap.size W).alloc (Nat.le_refl _) (.cells #[.int .i64 (m : Int)] 3)
  have HI1 : Hid (Calls Try.prog 90 #[vs i] w1.drew fun e W => ∃ o cap gb cap4 W4, e = .returned (.slice o n cap) ∧ AppR 34 34 (.slice o n cap) (.slice (some ⟨W.heap.size, 0, none⟩) 1 1) (W.alloc (.cells #[.int .i64 (m : Int)] 3)) (.slice (some ⟨gb, 0, none⟩) (n + 1) cap4) W4 ∧ Below w1.heap.size w1 W ∧ Below w1.heap.size w1 W4 ∧ Oi w1.heap.size W4 (.slice (some ⟨gb, 0, none⟩) (n + 1) cap4) (saves i ++ [(m : Int)])) := Lib.hid (by
    refine (intsRef (vs i) (saves i) w1.drew (hso.below hd).ns (by rw [← hn]; exact hsl)).mono ?_
    rintro e W ⟨o, cap, rfl, hb, ho⟩
    rw [← hn] at ho
    have hbW : Below w1.heap.size w1 W := hd.trans hb
    obtain ⟨gb, cap4, W4, hrun, ho4, hg4, _⟩ := ho.append1 (m : Int) hmw hb.size (by rw [← hn]; omega) 3 34
    rw [← hn] at hrun ho4
    exact ⟨o, cap, gb, cap4, W4, by rw [hn], ⟨hrun⟩, hbW, (ho.below (al W)).grown hg4 (hbW.alloc hbW.size _) (Nat.le_refl _) (Nat.le_trans hbW.size (al W).size), ho4⟩)
  have HI2 : Hid (Calls Try.prog 90 #[vs i] (w1.alloc (.cells #[.int .i64 (m : Int)] 3)).drew fun e W => ∃ o cap gb cap4 W4, e = .returned (.slice o n cap) ∧ AppR 34 34 (.slice o n cap) (.slice (some ⟨w1.heap.size, 0, none⟩) 1 1) W (.slice (some ⟨gb, 0, none⟩) (n + 1) cap4) W4 ∧ Below w1.heap.size w1 W ∧ Below w1.heap.size w1 W4 ∧ Oi w1.heap.size W4 (.slice (some ⟨gb, 0, none⟩) (n + 1) cap4) (saves i ++ [(m : Int)])) := Lib.hid (by
    have hb2 : Below w1.heap.size w1 (w1.alloc (.cells #[.int .i64 (m : Int)] 3)).drew := (al w1).drew
    refine (intsRef (vs i) (saves i) _ (hso.below hb2).ns (by rw [← hn]; exact hsl)).mono ?_
    rintro e W ⟨o, cap, rfl, hb, ho⟩
    rw [← hn] at ho
    have hbW : Below w1.heap.size w1 W := hb2.trans (hb.mono hb2.size)
    have hns : Ns .i64 W (.slice (some ⟨w1.heap.size, 0, none⟩) 1 1) [(m : Int)] := by
      have h0 : Ns .i64 (w1.alloc (.cells #[.int .i64 (m : Int)] 3)) (.slice (some ⟨w1.heap.size, 0, none⟩) 1 1) [(m : Int)] := Ns.one hmw
      refine h0.same fun b e => ?_
      obtain rfl : w1.heap.size = b := by simpa [Value.ownBlock] using e
      exact hb.block _ (by show w1.heap.size < (w1.alloc _).heap.size; simp)
    obtain ⟨gb, cap4, W4, hrun, ho4, hg4, _⟩ := ho.append _ [(m : Int)] hns hb.size (by rw [← hn]; simp; omega) (by simp) 34
    rw [← hn] at hrun ho4
    exact ⟨o, cap, gb, cap4, W4, by rw [hn], ⟨hrun⟩, hbW, ho.grown hg4 hbW hb2.size hbW.size, ho4.mono hb2.size⟩)
  have KS : ∀ W, Below w1.heap.size w1 W → W.cell? ⟨P, 3, none⟩ = some (.slice (some ⟨C, 0, none⟩) N N) ∧ W.cell? ⟨P, 2, none⟩ = some (.slice (some ⟨B, 0, none⟩) N N) ∧ W.cell? ⟨B, i, none⟩ = some (.slice oM m cM) := fun W hb => by
    have hw := h1.below hb
    refine ⟨hw.cellP.2.2.2.1, hw.cellP.2.2.1, ?_⟩
    rw [(hw.cellB hi).1, hvm]
  have KT : ∀ W v, Below w1.heap.size w1 W → (W.setCell ⟨C, i, none⟩ v).cell? ⟨P, 3, none⟩ = some (.slice (some ⟨C, 0, none⟩) N N) ∧ (W.setCell ⟨C, i, none⟩ v).cell? ⟨P, 2, none⟩ = some (.slice (some ⟨B, 0, none⟩) N N) ∧ (W.setCell ⟨C, i, none⟩ v).cell? ⟨B, i, none⟩ = some (.slice oM m cM) := fun W v hb => by
    obtain ⟨k0, k1, k2⟩ := KS W hb
    obtain ⟨_, _, nP, _, _, nB⟩ := h1.ne
    have eP : ∀ o, (W.setCell ⟨C, i, none⟩ v).cell? ⟨P, o, none⟩ = W.cell? ⟨P, o, none⟩ := fun o => World.cell?_of_block (a := ⟨P, o, none⟩) (setCell_otherL W _ _ nP)
    have eB : ∀ o, (W.setCell ⟨C, i, none⟩ v).cell? ⟨B, o, none⟩ = W.cell? ⟨B, o, none⟩ := fun o => World.cell?_of_block (a := ⟨B, o, none⟩) (setCell_otherL W _ _ nB)
    exact ⟨(eP 3).trans k0, (eP 2).trans k1, (eB i).trans k2⟩
  have x0 := (h1.cellC hi).1
  have x1 := ((h1.below (al w1)).cellC hi).1
  have KSH := Lib.hid KS
  have KTH := Lib.hid KT
  have FIN := Lib.hid fin
  have g0 : Below w1.heap.size w1 w1 := Below.refl _ _
  have hi2 : (i : Int) < (N : Int) := by omega
  unfold maxLen at hmm
  clear KS KT fin al hso hvm hm hn hd h1 hb1 hx1 H0
  go_wp2_with fail
  go_region_held3 (fun W => W.cell? ⟨P, 3, none⟩ = some (.slice (some ⟨C, 0, none⟩) N N) ∧ W.cell? ⟨P, 2, none⟩ = some (.slice (some ⟨B, 0, none⟩) N N) ∧ W.cell? ⟨B, i, none⟩ = some (.slice oM m cM))
    (((first | with_reducible refine KTH.out _ _ ?_ | with_reducible refine KSH.out _ ?_); (repeat (first | with_reducible exact g0 | with_reducible exact g1 | with_reducible exact g2 | with_reducible refine Below.drew ?_ | with_reducible refine bl_al _ ?_))))
    ((first
      | (refine step_append_S _ rfl _ _ _ rfl _ _ rfl rfl _ _ hrun ?_)
      | (go_simp; go_at_call 90; first
          | (with_reducible refine HI1.out.mono ?_; rintro e W ⟨o, cap, gb, cap4, W4, rfl, hrun, g1, g2, ho4⟩; obtain ⟨⟨f1, f2⟩, f3, f4, hend⟩ := FIN.out W4 gb cap4 g2 ho4)
          | (with_reducible refine HI2.out.mono ?_; rintro e W ⟨o, cap, gb, cap4, W4, rfl, hrun, g1, g2, ho4⟩; obtain ⟨⟨f1, f2⟩, f3, f4, hend⟩ := FIN.out W4 gb cap4 g2 ho4))))
  all_goals
    have HEND := Lib.hid hend
    clear hend hrun ho4
    go_wp2_with fail
    go_ret
    exact ⟨by go_num, HEND.out⟩
theorem refBackNo (h : Dx w P N K L on mine saves) {s t : Int} (hs : I64L s) (hsl : ∀ j, j < N → (saves j).length ≤ 10000) (hno : ∀ i : Nat, s = i → i < N → on i = true → t < 0 ∨ ((saves i).length : Int) ≤ t) :
    Calls Try.prog 58 #[.pointer (some ⟨P, 0, none⟩), .int .i64 s, .int .i64 t] w fun e w' => e = .returned (.bool false) ∧ Below w.heap.size w w' := by
  have ho := refOpen h hs
  by_cases hon : onI N on s = true
  · obtain ⟨i, rfl, hi, hon1⟩ := onI_inv hon
    rw [hon] at ho
    have HO := Lib.hid ho
    have hn0 := hno i rfl hi hon1
    have hsi := hsl i hi
    obtain ⟨A, B, C, vL, vm, vs, h0⟩ := h
    have H0 := Lib.hid h0
    obtain ⟨n, hn⟩ : ∃ n, n = (saves i).length := ⟨_, rfl⟩
    rw [← hn] at hn0 hsi
    have HNN := Lib.hid hn
    have hi2 : (i : Int) < (N : Int) := by omega
    clear h0 ho hon hon1 hno hsl hn
    go_enter Try.func58, Try.ntmps58
    go_wp2_with fail
    refine HO.out.mono ?_
    clear HO
    rintro e w1 ⟨rfl, hb1⟩
    have h1 := H0.out.below hb1
    obtain ⟨_, _, _, p3, _⟩ := h1.cellP
    obtain ⟨c0, _⟩ := h1.cellC hi
    obtain ⟨oS, cS, hvs, _, _, _⟩ := (h1.ss i hi).form
    rw [hvs, ← HNN.out] at c0
    have HB1 := Lib.hid hb1
    clear h1 hb1 hvs H0
    by_cases h0 : t < 0
    · go_wp2_with fail
      go_ret
      exact ⟨rfl, HB1.out⟩
    · have hle : ¬ (t < (n : Int)) := by omega
      go_wp2_with fail
      go_ret
      exact ⟨rfl, HB1.out⟩
  · have hof : onI N on s = false := by simpa using hon
    rw [hof] at ho
    have HO := Lib.hid ho
    clear h ho hon hof hno hsl
    go_enter Try.func58, Try.ntmps58
    go_wp2_with fail
    refine HO.out.mono ?_
    clear HO
    rintro e w1 ⟨rfl, hb1⟩
    have HB1 := Lib.hid hb1
    clear hb1
    go_wp2_with fail
    go_ret
    exact ⟨rfl, HB1.out⟩
set_option maxRecDepth 20000 in
set_option maxHeartbeats 4000000 in
theorem refBack (h : Dx w P N K L on mine saves) {i : Nat} (hi : i < N) (hon : on i = true) (hil : I64L i) {t j : Nat} (ht : (saves i)[t]? = some (j : Int)) (hj : j ≤ (mine i).length) (hml : (mine i).length ≤ 10000) (hsl : (saves i).length ≤ 10000) :
    Calls Try.prog 58 #[.pointer (some ⟨P, 0, none⟩), .int .i64 i, .int .i64 t] w fun e w' => e = .returned (.bool true) ∧ Dx w' P N K L on (upN mine i ((mine i).take j)) (upN saves i ((saves i).take (t + 1))) ∧ Ext K w K w' := by
  have ho := refOpen h hil
  rw [onI_in hi, hon] at ho
  have HO := Lib.hid ho
  obtain ⟨A, B, C, vL, vm, vs, h0⟩ := h
  have H0 := Lib.hid h0
  obtain ⟨m, hm⟩ : ∃ m, m = (mine i).length := ⟨_, rfl⟩
  obtain ⟨n, hn⟩ : ∃ n, n = (saves i).length := ⟨_, rfl⟩
  have htl : t < n := by rw [hn]; exact (List.getElem?_eq_some_iff.1 ht).1
  have HMM : Hid (m = (mine i).length) := Lib.hid hm
  have HNN : Hid (n = (saves i).length) := Lib.hid hn
  have HT := Lib.hid ht
  rw [← hm] at hml hj
  rw [← hn] at hsl
  have hi2 : (i : Int) < (N : Int) := by omega
  have htn : (t : Int) < (n : Int) := by omega
  clear h0 ho hon hm hn ht
  go_enter Try.func58, Try.ntmps58
  go_wp2_with fail
  refine HO.out.mono ?_
  clear HO
  rintro e w1 ⟨rfl, hb1⟩
  have h1 := H0.out.below hb1
  have hPt := h1.ms i hi
  have hOi := h1.ss i hi
  obtain ⟨oM, cM, hvm, hmc, hmm, _⟩ := hPt.form
  obtain ⟨oS, cS, hvs, hsc, hsm, hsn, hsa⟩ := hOi.form
  rw [hvm] at hPt
  rw [hvs] at hOi
  have hPt2 := hPt.take (k := j) (by rw [← HMM.out]; exact hj)
  have hOi2 := hOi.take (k := t + 1) (by rw [← HNN.out]; omega)
  have hkB := h1.km i hi
  have hkC := h1.ks i hi
  rw [hvm] at hkB
  rw [hvs] at hkC
  rw [← HMM.out] at hvm hmc hkB
  rw [← HNN.out] at hvs hsc hkC
  obtain ⟨g, rfl, gc⟩ : ∃ g, oS = some ⟨g, 0, none⟩ ∧ w1.cell? ⟨g, t, none⟩ = some (.int .i64 (j : Int)) := by
    cases oS with
    | none =>
      have := (hsn rfl).2
      have e := HT.out
      rw [this] at e; simp at e
    | some a =>
      obtain ⟨g, rfl, _, _, hc⟩ := hsa a rfl
      refine ⟨g, rfl, ?_⟩
      have e := hc t (by rw [← HNN.out]; exact htl)
      rw [List.getD_eq_getElem?_getD, HT.out] at e
      exact e
  obtain ⟨_, _, p2, p3, _⟩ := h1.cellP
  obtain ⟨b0, b1⟩ := h1.cellB hi
  obtain ⟨c0, c1⟩ := h1.cellC hi
  rw [hvm] at b0
  rw [hvs] at c0
  have k1 := h1.setB i hPt2 (fun b e => hkB b (by cases oM <;> simpa [Value.ownBlock] using e))
  obtain ⟨_, _, q2, q3, _⟩ := k1.cellP
  obtain ⟨d0, d1⟩ := k1.cellC hi
  rw [hvs] at d0
  have hOi3 : Oi 0 (w1.setCell ⟨B, i, none⟩ (.slice oM j cM)) (.slice (some ⟨g, 0, none⟩) (t + 1) cS) ((saves i).take (t + 1)) := hOi2.same fun b e => setCell_otherL _ _ _ fun e2 => (hkC b e).2 (e2 ▸ .inr (.inr (.inl rfl)))
  have k2 := k1.setC i hOi3 hkC
  have ex : Ext K w K ((w1.setCell ⟨B, i, none⟩ (.slice oM j cM)).setCell ⟨C, i, none⟩ (.slice (some ⟨g, 0, none⟩) (t + 1) cS)) :=
    ((Ext.of_below hb1).trans (ext_set (h1.k4 B (.inr (.inr (.inl rfl)))) _ _)).trans (ext_set (h1.k4 C (.inr (.inr (.inr rfl)))) _ _)
  obtain ⟨_, _, _, r3, _⟩ := k2.cellP
  have gB : g ≠ B := fun e => (hkC g (by simp [Value.ownBlock])).2 (e ▸ .inr (.inr (.inl rfl)))
  have gc2 : (w1.setCell ⟨B, i, none⟩ (.slice oM j cM)).cell? ⟨g, t, none⟩ = some (.int .i64 (j : Int)) := (World.cell?_of_block (a := ⟨g, t, none⟩) (setCell_otherL w1 _ _ gB)).trans gc
  have K0 := Lib.hid (And.intro p2 (And.intro p3 (And.intro c0 gc)))
  have K1 := Lib.hid (And.intro q2 (And.intro q3 (And.intro d0 gc2)))
  have HK := Lib.hid k2
  have HE := Lib.hid ex
  have u1 := parts_upto oM m cM j hj hmc
  have u2 := intsl_upto (some ⟨g, 0, none⟩) n cS (t + 1) (by omega) hsc
  have e1 : (((t + 1 : Nat)) : Int) = (t : Int) + 1 := by omega
  rw [e1] at u2
  have hw1 : IntKind.i64.wrap ((t : Int) + 1) = (t : Int) + 1 := by rw [IntKind.wrap_i64]; omega
  have hle : ¬ ((t : Int) < 0) := by omega
  have hjm : (j : Int) ≤ (m : Int) := by omega
  have hj0 : (0 : Int) ≤ (j : Int) := by omega
  clear h1 hPt hOi hPt2 hOi2 hOi3 hkB hkC k1 k2 ex hb1 hsn hsa hvm hvs H0 HT e1
  go_wp2_with fail
  go_region_held3 (fun W => W.cell? ⟨P, 2, none⟩ = some (.slice (some ⟨B, 0, none⟩) N N) ∧ W.cell? ⟨P, 3, none⟩ = some (.slice (some ⟨C, 0, none⟩) N N) ∧ W.cell? ⟨C, i, none⟩ = some (.slice (some ⟨g, 0, none⟩) n cS) ∧ W.cell? ⟨g, t, none⟩ = some (.int .i64 (j : Int)))
    (first | exact K0.out | exact K1.out) (fail)
  go_wp2_with fail
  go_region_held3 (fun W => W.cell? ⟨P, 3, none⟩ = some (.slice (some ⟨C, 0, none⟩) N N))
    (first | exact q3 | exact r3) (fail)
  go_wp2_with fail
  go_ret
  exact ⟨rfl, ⟨_, _, _, _, _, _, HK.out.below (Below.refl _ _).drew.drew⟩, HE.out.trans (Ext.of_below (Below.refl _ _).drew.drew)⟩
end
end Go.Proofs.Ytpgelebmhhcodaa
