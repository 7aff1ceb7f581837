/- Contracts: the document's model: Save, Back. -/
import Derived.Test.YtpgelebmhhcodaaDmE
import Derived.Test.YtpgelebmhhcodaaRgG
namespace Go.Proofs.Ytpgelebmhhcodaa
open Go.RowKit
set_option linter.unusedVariables false
set_option linter.unusedSimpArgs false

section
variable {w : World} {P N : Nat} {K : Nat → Prop} {L : List (Int × Int)} {on : Nat → Bool} {mine : Nat → List Pc} {saves : Nat → List Int}
theorem refSaveNo (h : Dx w P N K L on mine saves) {s : Int} (hs : I64L s) (hon : onI N on s = false) :
    Calls Try.prog 57 #[.pointer (some ⟨P, 0, none⟩), .int .i64 s] w fun e w' => e = .returned (.int .i64 (-1)) ∧ Below w.heap.size w w' := by
  have ho := refOpen h hs
  rw [hon] at ho
  have HO := Lib.hid ho
  clear h ho hon hs
  go_enter Try.func57, Try.ntmps57
  go_wp2_with fail
  refine HO.out.mono ?_
  clear HO
  rintro e w2 ⟨rfl, hb2⟩
  have HB2 := Lib.hid hb2
  clear hb2
  go_wp2_with fail
  go_ret
  exact ⟨rfl, HB2.out⟩
set_option maxRecDepth 20000 in
set_option maxHeartbeats 4000000 in
theorem refSave (h : Dx w P N K L on mine saves) {i : Nat} (hi : i < N) (hon : on i = true) (hil : I64L i) (hml : (mine i).length ≤ 10000) (hsl : (saves i).length ≤ 10000) :
    Calls Try.prog 57 #[.pointer (some ⟨P, 0, none⟩), .int .i64 i] w fun e w' => e = .returned (.int .i64 (saves i).length) ∧ ∃ K', Dx w' P N K' L on mine (upN saves i (saves i ++ [((mine i).length : Int)])) ∧ Ext K w K' w' := by
  have ho := refOpen h hil
  rw [onI_in hi, hon] at ho
  have HO := Lib.hid ho
  obtain ⟨A, B, C, vL, vm, vs, h0⟩ := h
  have H0 := Lib.hid h0
  clear h0 ho hon
  obtain ⟨m, hm⟩ : ∃ m, m = (mine i).length := ⟨_, rfl⟩
  obtain ⟨n, hn⟩ : ∃ n, n = (saves i).length := ⟨_, rfl⟩
  have HMM : Hid (m = (mine i).length) := Lib.hid hm
  have HNN : Hid (n = (saves i).length) := Lib.hid hn
  rw [← hm] at hml ⊢
  rw [← hn] at hsl ⊢
  clear hm hn
  go_enter Try.func57, Try.ntmps57
  go_wp2_with fail
  refine HO.out.mono ?_
  clear HO
  rintro e w1 ⟨rfl, hb1⟩
  have h1 := H0.out.below hb1
  have hd : Below w1.heap.size w1 w1.drew := (Below.refl _ _).drew
  obtain ⟨oM, cM, hvm, hmc, hmm, _⟩ := (h1.ms i hi).form
  have hm := HMM.out
  have hn := HNN.out
  rw [← hm] at hvm hmc
  have hmw : (Lit.int .i64 (m : Int)).wf = true := wf_of_i64 (by omega) (by omega)
  have hx1 : Ext K w K w1 := Ext.of_below hb1
  -- what follows the copy
  have fin : ∀ (W4 : World) (gb cap : Nat), Below w1.heap.size w1 W4 → Oi w1.heap.size W4 (.slice (some ⟨gb, 0, none⟩) (n + 1) cap) (saves i ++ [(m : Int)]) →
      (W4.cell? ⟨C, i, none⟩ = some (vs i) ∧ W4.frozen? ⟨C, i, none⟩ = false) ∧ (W4.setCell ⟨C, i, none⟩ (.slice (some ⟨gb, 0, none⟩) (n + 1) cap)).cell? ⟨P, 3, none⟩ = some (.slice (some ⟨C, 0, none⟩) N N) ∧ (W4.setCell ⟨C, i, none⟩ (.slice (some ⟨gb, 0, none⟩) (n + 1) cap)).cell? ⟨C, i, none⟩ = some (.slice (some ⟨gb, 0, none⟩) (n + 1) cap) ∧
      ∃ K', Dx (W4.setCell ⟨C, i, none⟩ (.slice (some ⟨gb, 0, none⟩) (n + 1) cap)) P N K' L on mine (upN saves i (saves i ++ [(m : Int)])) ∧ Ext K w K' (W4.setCell ⟨C, i, none⟩ (.slice (some ⟨gb, 0, none⟩) (n + 1) cap)) := fun W4 gb cap hb ho => by
    obtain ⟨q1, q2, q3⟩ := h1.putC hb hi ho
    have c0 := (q2.cellC hi).1
    rw [upN_same] at c0
    exact ⟨q1, q2.cellP.2.2.2.1, c0, _, ⟨_, _, _, _, _, _, q2⟩, hx1.trans q3⟩
  have hso := h1.ss i hi
  have al := fun (W : World) => (Below.refl W.heap.size W).alloc (Nat.le_refl _) (.cells #[.int .i64 (m : Int)] 3)
  have HI1 : Hid (Calls Try.prog 90 #[vs i] w1.drew fun e W => ∃ o cap gb cap4 W4, e = .returned (.slice o n cap) ∧ AppR 34 34 (.slice o n cap) (.slice (some ⟨W.heap.size, 0, none⟩) 1 1) (W.alloc (.cells #[.int .i64 (m : Int)] 3)) (.slice (some ⟨gb, 0, none⟩) (n + 1) cap4) W4 ∧ Below w1.heap.size w1 W ∧ Below w1.heap.size w1 W4 ∧ Oi w1.heap.size W4 (.slice (some ⟨gb, 0, none⟩) (n + 1) cap4) (saves i ++ [(m : Int)])) := Lib.hid (by
    refine (intsRef (vs i) (saves i) w1.drew (hso.below hd).ns (by rw [← hn]; exact hsl)).mono ?_
    rintro e W ⟨o, cap, rfl, hb, ho⟩
    rw [← hn] at ho
    have hbW : Below w1.heap.size w1 W := hd.trans hb
    obtain ⟨gb, cap4, W4, hrun, ho4, hg4, _⟩ := ho.append1 (m : Int) hmw hb.size (by rw [← hn]; omega) 3 34
    rw [← hn] at hrun ho4
    exact ⟨o, cap, gb, cap4, W4, by rw [hn], ⟨hrun⟩, hbW, (ho.below (al W)).grown hg4 (hbW.alloc hbW.size _) (Nat.le_refl _) (Nat.le_trans hbW.size (al W).size), ho4⟩)
  have HI2 : Hid (Calls Try.prog 90 #[vs i] (w1.alloc (.cells #[.int .i64 (m : Int)] 3)).drew fun e W => ∃ o cap gb cap4 W4, e = .returned (.slice o n cap) ∧ AppR 34 34 (.slice o n cap) (.slice (some ⟨w1.heap.size, 0, none⟩) 1 1) W (.slice (some ⟨gb, 0, none⟩) (n + 1) cap4) W4 ∧ Below w1.heap.size w1 W ∧ Below w1.heap.size w1 W4 ∧ Oi w1.heap.size W4 (.slice (some ⟨gb, 0, none⟩) (n + 1) cap4) (saves i ++ [(m : Int)])) := Lib.hid (by
    have hb2 : Below w1.heap.size w1 (w1.alloc (.cells #[.int .i64 (m : Int)] 3)).drew := (al w1).drew
    refine (intsRef (vs i) (saves i) _ (hso.below hb2).ns (by rw [← hn]; exact hsl)).mono ?_
    rintro e W ⟨o, cap, rfl, hb, ho⟩
    rw [← hn] at ho
    have hbW : Below w1.heap.size w1 W := hb2.trans (hb.mono hb2.size)
    have hns : Ns .i64 W (.slice (some ⟨w1.heap.size, 0, none⟩) 1 1) [(m : Int)] := by
      have h0 : Ns .i64 (w1.alloc (.cells #[.int .i64 (m : Int)] 3)) (.slice (some ⟨w1.heap.size, 0, none⟩) 1 1) [(m : Int)] := Ns.one hmw
      refine h0.same fun b e => ?_
      obtain rfl : w1.heap.size = b := by simpa [Value.ownBlock] using e
      exact hb.block _ (by show w1.heap.size < (w1.alloc _).heap.size; simp)
    obtain ⟨gb, cap4, W4, hrun, ho4, hg4, _⟩ := ho.append _ [(m : Int)] hns hb.size (by rw [← hn]; simp; omega) (by simp) 34
    rw [← hn] at hrun ho4
    exact ⟨o, cap, gb, cap4, W4, by rw [hn], ⟨hrun⟩, hbW, ho.grown hg4 hbW hb2.size hbW.size, ho4.mono hb2.size⟩)
  have KS : ∀ W, Below w1.heap.size w1 W → W.cell? ⟨P, 3, none⟩ = some (.slice (some ⟨C, 0, none⟩) N N) ∧ W.cell? ⟨C, i, none⟩ = some (vs i) ∧ W.cell? ⟨P, 2, none⟩ = some (.slice (some ⟨B, 0, none⟩) N N) ∧ W.cell? ⟨B, i, none⟩ = some (.slice oM m cM) := fun W hb => by
    have hw := h1.below hb
    refine ⟨hw.cellP.2.2.2.1, (hw.cellC hi).1, hw.cellP.2.2.1, ?_⟩
    rw [(hw.cellB hi).1, hvm]
  have KSH := Lib.hid KS
  have FIN := Lib.hid fin
  have g0 : Below w1.heap.size w1 w1 := Below.refl _ _
  have hi2 : (i : Int) < (N : Int) := by omega
  unfold maxLen at hmm
  clear KS fin al hso hvm hm hn hd h1 hb1 hx1 H0
  go_wp2_with fail
  have hS0 := KSH.out _ g0.drew
  refine wp_region_G (fun W => W.cell? ⟨P, 3, none⟩ = some (.slice (some ⟨C, 0, none⟩) N N) ∧ W.cell? ⟨C, i, none⟩ = some (vs i) ∧ W.cell? ⟨P, 2, none⟩ = some (.slice (some ⟨B, 0, none⟩) N N) ∧ W.cell? ⟨B, i, none⟩ = some (.slice oM m cM)) 24 (by kernel_rfl) ?_
  refine GoG.take (i := 0) (v := .pointer (some ⟨P, 0, none⟩)) (by kernel_rfl) (by kernel_rfl) (by decide) (by kernel_rfl) (by kernel_rfl) (by kernel_rfl) (by decide) rfl (fun _ _ _ h => h) (Or.inl ⟨by rfl, ?_⟩) hS0 ?_
  · (intro w hSw; (try dsimp only at hSw); go_simp; try with_reducible rfl)
  try simp only [Act.put, List.getElem_toArray, List.getElem_cons_succ, List.getElem_cons_zero, List.setIfInBounds_toArray, List.set_cons_zero, List.set_cons_succ]
  refine GoG.take (i := 1) (v := .pointer (some ⟨P, 0, none⟩)) (by kernel_rfl) (by kernel_rfl) (by decide) (by kernel_rfl) (by kernel_rfl) (by kernel_rfl) (by decide) rfl (fun _ _ _ h => h) (Or.inl ⟨by rfl, ?_⟩) hS0 ?_
  · (intro w hSw; (try dsimp only at hSw); go_simp; try with_reducible rfl)
  try simp only [Act.put, List.getElem_toArray, List.getElem_cons_succ, List.getElem_cons_zero, List.setIfInBounds_toArray, List.set_cons_zero, List.set_cons_succ]
  refine GoG.take (i := 2) (v := .pointer (some ⟨P, 3, none⟩)) (by kernel_rfl) (by kernel_rfl) (by decide) (by kernel_rfl) (by kernel_rfl) (by kernel_rfl) (by decide) rfl (fun _ _ _ h => h) (Or.inl ⟨by rfl, ?_⟩) hS0 ?_
  · (intro w hSw; (try dsimp only at hSw); go_simp; try with_reducible rfl)
  try simp only [Act.put, List.getElem_toArray, List.getElem_cons_succ, List.getElem_cons_zero, List.setIfInBounds_toArray, List.set_cons_zero, List.set_cons_succ]
  refine GoG.take (i := 3) (v := .slice (some ⟨C, 0, none⟩) N N) (by kernel_rfl) (by kernel_rfl) (by decide) (by kernel_rfl) (by kernel_rfl) (by kernel_rfl) (by decide) rfl (fun _ _ _ h => h) (Or.inl ⟨by rfl, ?_⟩) hS0 ?_
  · (intro w hSw; (try dsimp only at hSw); go_simp; try with_reducible rfl)
  try simp only [Act.put, List.getElem_toArray, List.getElem_cons_succ, List.getElem_cons_zero, List.setIfInBounds_toArray, List.set_cons_zero, List.set_cons_succ]
  refine GoG.take (i := 4) (v := .int .i64 i) (by kernel_rfl) (by kernel_rfl) (by decide) (by kernel_rfl) (by kernel_rfl) (by kernel_rfl) (by decide) rfl (fun _ _ _ h => h) (Or.inl ⟨by rfl, ?_⟩) hS0 ?_
  · (intro w hSw; (try dsimp only at hSw); go_simp; try with_reducible rfl)
  try simp only [Act.put, List.getElem_toArray, List.getElem_cons_succ, List.getElem_cons_zero, List.setIfInBounds_toArray, List.set_cons_zero, List.set_cons_succ]
  refine GoG.take (i := 5) (v := .pointer (some ⟨P, 0, none⟩)) (by kernel_rfl) (by kernel_rfl) (by decide) (by kernel_rfl) (by kernel_rfl) (by kernel_rfl) (by decide) rfl (fun _ _ _ h => h) (Or.inl ⟨by rfl, ?_⟩) hS0 ?_
  · (intro w hSw; (try dsimp only at hSw); go_simp; try with_reducible rfl)
  try simp only [Act.put, List.getElem_toArray, List.getElem_cons_succ, List.getElem_cons_zero, List.setIfInBounds_toArray, List.set_cons_zero, List.set_cons_succ]
  refine GoG.take (i := 6) (v := .pointer (some ⟨P, 0, none⟩)) (by kernel_rfl) (by kernel_rfl) (by decide) (by kernel_rfl) (by kernel_rfl) (by kernel_rfl) (by decide) rfl (fun _ _ _ h => h) (Or.inl ⟨by rfl, ?_⟩) hS0 ?_
  · (intro w hSw; (try dsimp only at hSw); go_simp; try with_reducible rfl)
  try simp only [Act.put, List.getElem_toArray, List.getElem_cons_succ, List.getElem_cons_zero, List.setIfInBounds_toArray, List.set_cons_zero, List.set_cons_succ]
  refine GoG.take (i := 7) (v := .pointer (some ⟨P, 3, none⟩)) (by kernel_rfl) (by kernel_rfl) (by decide) (by kernel_rfl) (by kernel_rfl) (by kernel_rfl) (by decide) rfl (fun _ _ _ h => h) (Or.inl ⟨by rfl, ?_⟩) hS0 ?_
  · (intro w hSw; (try dsimp only at hSw); go_simp; try with_reducible rfl)
  try simp only [Act.put, List.getElem_toArray, List.getElem_cons_succ, List.getElem_cons_zero, List.setIfInBounds_toArray, List.set_cons_zero, List.set_cons_succ]
  refine GoG.take (i := 8) (v := .slice (some ⟨C, 0, none⟩) N N) (by kernel_rfl) (by kernel_rfl) (by decide) (by kernel_rfl) (by kernel_rfl) (by kernel_rfl) (by decide) rfl (fun _ _ _ h => h) (Or.inl ⟨by rfl, ?_⟩) hS0 ?_
  · (intro w hSw; (try dsimp only at hSw); go_simp; try with_reducible rfl)
  try simp only [Act.put, List.getElem_toArray, List.getElem_cons_succ, List.getElem_cons_zero, List.setIfInBounds_toArray, List.set_cons_zero, List.set_cons_succ]
  refine GoG.take (i := 9) (v := .int .i64 i) (by kernel_rfl) (by kernel_rfl) (by decide) (by kernel_rfl) (by kernel_rfl) (by kernel_rfl) (by decide) rfl (fun _ _ _ h => h) (Or.inl ⟨by rfl, ?_⟩) hS0 ?_
  · (intro w hSw; (try dsimp only at hSw); go_simp; try with_reducible rfl)
  try simp only [Act.put, List.getElem_toArray, List.getElem_cons_succ, List.getElem_cons_zero, List.setIfInBounds_toArray, List.set_cons_zero, List.set_cons_succ]
  refine GoG.take (i := 10) (v := .pointer (some ⟨C, i, none⟩)) (by kernel_rfl) (by kernel_rfl) (by decide) (by kernel_rfl) (by kernel_rfl) (by kernel_rfl) (by decide) rfl (fun _ _ _ h => h) (Or.inl ⟨by rfl, ?_⟩) hS0 ?_
  · (intro w hSw; (try dsimp only at hSw); go_simp; try with_reducible rfl)
  try simp only [Act.put, List.getElem_toArray, List.getElem_cons_succ, List.getElem_cons_zero, List.setIfInBounds_toArray, List.set_cons_zero, List.set_cons_succ]
  refine GoG.take (i := 11) (v := vs i) (by kernel_rfl) (by kernel_rfl) (by decide) (by kernel_rfl) (by kernel_rfl) (by kernel_rfl) (by decide) rfl (fun _ _ _ h => h) (Or.inl ⟨by rfl, ?_⟩) hS0 ?_
  · (intro w hSw; (try dsimp only at hSw); go_simp; try with_reducible rfl)
  try simp only [Act.put, List.getElem_toArray, List.getElem_cons_succ, List.getElem_cons_zero, List.setIfInBounds_toArray, List.set_cons_zero, List.set_cons_succ]
  refine GoG.take (i := 13) (v := .pointer (some ⟨P, 0, none⟩)) (by kernel_rfl) (by kernel_rfl) (by decide) (by kernel_rfl) (by kernel_rfl) (by kernel_rfl) (by decide) rfl (fun _ _ _ h => h) (Or.inl ⟨by rfl, ?_⟩) hS0 ?_
  · (intro w hSw; (try dsimp only at hSw); go_simp; try with_reducible rfl)
  try simp only [Act.put, List.getElem_toArray, List.getElem_cons_succ, List.getElem_cons_zero, List.setIfInBounds_toArray, List.set_cons_zero, List.set_cons_succ]
  refine GoG.take (i := 14) (v := .pointer (some ⟨P, 0, none⟩)) (by kernel_rfl) (by kernel_rfl) (by decide) (by kernel_rfl) (by kernel_rfl) (by kernel_rfl) (by decide) rfl (fun _ _ _ h => h) (Or.inl ⟨by rfl, ?_⟩) hS0 ?_
  · (intro w hSw; (try dsimp only at hSw); go_simp; try with_reducible rfl)
  try simp only [Act.put, List.getElem_toArray, List.getElem_cons_succ, List.getElem_cons_zero, List.setIfInBounds_toArray, List.set_cons_zero, List.set_cons_succ]
  refine GoG.take (i := 15) (v := .pointer (some ⟨P, 2, none⟩)) (by kernel_rfl) (by kernel_rfl) (by decide) (by kernel_rfl) (by kernel_rfl) (by kernel_rfl) (by decide) rfl (fun _ _ _ h => h) (Or.inl ⟨by rfl, ?_⟩) hS0 ?_
  · (intro w hSw; (try dsimp only at hSw); go_simp; try with_reducible rfl)
  try simp only [Act.put, List.getElem_toArray, List.getElem_cons_succ, List.getElem_cons_zero, List.setIfInBounds_toArray, List.set_cons_zero, List.set_cons_succ]
  refine GoG.take (i := 16) (v := .slice (some ⟨B, 0, none⟩) N N) (by kernel_rfl) (by kernel_rfl) (by decide) (by kernel_rfl) (by kernel_rfl) (by kernel_rfl) (by decide) rfl (fun _ _ _ h => h) (Or.inl ⟨by rfl, ?_⟩) hS0 ?_
  · (intro w hSw; (try dsimp only at hSw); go_simp; try with_reducible rfl)
  try simp only [Act.put, List.getElem_toArray, List.getElem_cons_succ, List.getElem_cons_zero, List.setIfInBounds_toArray, List.set_cons_zero, List.set_cons_succ]
  refine GoG.take (i := 17) (v := .int .i64 i) (by kernel_rfl) (by kernel_rfl) (by decide) (by kernel_rfl) (by kernel_rfl) (by kernel_rfl) (by decide) rfl (fun _ _ _ h => h) (Or.inl ⟨by rfl, ?_⟩) hS0 ?_
  · (intro w hSw; (try dsimp only at hSw); go_simp; try with_reducible rfl)
  try simp only [Act.put, List.getElem_toArray, List.getElem_cons_succ, List.getElem_cons_zero, List.setIfInBounds_toArray, List.set_cons_zero, List.set_cons_succ]
  refine GoG.take (i := 18) (v := .pointer (some ⟨B, i, none⟩)) (by kernel_rfl) (by kernel_rfl) (by decide) (by kernel_rfl) (by kernel_rfl) (by kernel_rfl) (by decide) rfl (fun _ _ _ h => h) (Or.inl ⟨by rfl, ?_⟩) hS0 ?_
  · (intro w hSw; (try dsimp only at hSw); go_simp; try with_reducible rfl)
  try simp only [Act.put, List.getElem_toArray, List.getElem_cons_succ, List.getElem_cons_zero, List.setIfInBounds_toArray, List.set_cons_zero, List.set_cons_succ]
  refine GoG.take (i := 19) (v := .slice oM m cM) (by kernel_rfl) (by kernel_rfl) (by decide) (by kernel_rfl) (by kernel_rfl) (by kernel_rfl) (by decide) rfl (fun _ _ _ h => h) (Or.inl ⟨by rfl, ?_⟩) hS0 ?_
  · (intro w hSw; (try dsimp only at hSw); go_simp; try with_reducible rfl)
  try simp only [Act.put, List.getElem_toArray, List.getElem_cons_succ, List.getElem_cons_zero, List.setIfInBounds_toArray, List.set_cons_zero, List.set_cons_succ]
  refine GoG.take (i := 20) (v := .int .i64 m) (by kernel_rfl) (by kernel_rfl) (by decide) (by kernel_rfl) (by kernel_rfl) (by kernel_rfl) (by decide) rfl (fun _ _ _ h => h) (Or.inl ⟨by rfl, ?_⟩) hS0 ?_
  · (intro w hSw; (try dsimp only at hSw); go_simp; try with_reducible rfl)
  try simp only [Act.put, List.getElem_toArray, List.getElem_cons_succ, List.getElem_cons_zero, List.setIfInBounds_toArray, List.set_cons_zero, List.set_cons_succ]
  clear hS0
  refine GoG.step2 (i := 12) (k := 21) (by kernel_rfl) (by decide) (by decide) rfl rfl (fun Kx hK => ?_) (fun Kx hK => ?_)
  · try simp only [List.getElem_toArray, List.getElem_cons_succ, List.getElem_cons_zero]
    go_simp
    go_at_call 90
    refine HI1.out.mono ?_
    rintro e W ⟨o, cap, gb, cap4, W4, rfl, hrun, g1, g2, ho4⟩
    obtain ⟨⟨f1, f2⟩, f3, f4, hend⟩ := FIN.out W4 gb cap4 g2 ho4
    refine hK.out _ _ (KSH.out _ g1) ?_
    clear hK
    try simp only [Act.put, List.getElem_toArray, List.getElem_cons_succ, List.getElem_cons_zero, List.setIfInBounds_toArray, List.set_cons_zero, List.set_cons_succ]
    refine GoG.step1 (i := 21) (by kernel_rfl) (by decide) rfl (fun Kx hK => ?_)
    try simp only [List.getElem_toArray, List.getElem_cons_succ, List.getElem_cons_zero]
    go_simp
    refine hK.out _ _ (KSH.out _ (bl_al _ g1)) ?_
    clear hK
    try simp only [Act.put, List.getElem_toArray, List.getElem_cons_succ, List.getElem_cons_zero, List.setIfInBounds_toArray, List.set_cons_zero, List.set_cons_succ]
    refine GoG.step1 (i := 22) (by kernel_rfl) (by decide) rfl (fun Kx hK => ?_)
    refine step_append_S _ rfl _ _ _ rfl _ _ rfl rfl _ _ hrun ?_
    refine hK.out _ _ (KSH.out _ g2) ?_
    clear hK
    try simp only [Act.put, List.getElem_toArray, List.getElem_cons_succ, List.getElem_cons_zero, List.setIfInBounds_toArray, List.set_cons_zero, List.set_cons_succ]
    have hS9 := KSH.out _ g2
    refine GoG.take (i := 23) (v := .pointer (some ⟨C, i, none⟩)) (by kernel_rfl) (by kernel_rfl) (by decide) (by kernel_rfl) (by kernel_rfl) (by kernel_rfl) (by decide) rfl (fun _ _ _ h => h) (Or.inl ⟨by rfl, ?_⟩) hS9 ?_
    · (intro w hSw; (try dsimp only at hSw); go_simp; try with_reducible rfl)
    try simp only [Act.put, List.getElem_toArray, List.getElem_cons_succ, List.getElem_cons_zero, List.setIfInBounds_toArray, List.set_cons_zero, List.set_cons_succ]
    clear hS9
    refine GoG.last (by kernel_rfl) (by kernel_rfl) rfl (fun Kx hK => ?_)
    try simp only [List.getElem_toArray, List.getElem_cons_succ, List.getElem_cons_zero]
    go_simp
    refine hK.out _ _ ?_
    clear hK
    try simp only [Act.put, List.getElem_toArray, List.getElem_cons_succ, List.getElem_cons_zero, List.setIfInBounds_toArray, List.set_cons_zero, List.set_cons_succ]
    have HEND := Lib.hid hend
    clear hend hrun ho4 KSH FIN HI1 HI2
    go_wp2_with fail
    go_ret
    exact ⟨by go_num, HEND.out⟩
  · try simp only [List.getElem_toArray, List.getElem_cons_succ, List.getElem_cons_zero]
    go_simp
    refine hK.out _ _ (KSH.out _ (bl_al _ g0.drew)) ?_
    clear hK
    try simp only [Act.put, List.getElem_toArray, List.getElem_cons_succ, List.getElem_cons_zero, List.setIfInBounds_toArray, List.set_cons_zero, List.set_cons_succ]
    refine GoG.step1 (i := 12) (by kernel_rfl) (by decide) rfl (fun Kx hK => ?_)
    try simp only [List.getElem_toArray, List.getElem_cons_succ, List.getElem_cons_zero]
    go_simp
    go_at_call 90
    refine HI2.out.mono ?_
    rintro e W ⟨o, cap, gb, cap4, W4, rfl, hrun, g1, g2, ho4⟩
    obtain ⟨⟨f1, f2⟩, f3, f4, hend⟩ := FIN.out W4 gb cap4 g2 ho4
    refine hK.out _ _ (KSH.out _ g1) ?_
    clear hK
    try simp only [Act.put, List.getElem_toArray, List.getElem_cons_succ, List.getElem_cons_zero, List.setIfInBounds_toArray, List.set_cons_zero, List.set_cons_succ]
    refine GoG.step1 (i := 22) (by kernel_rfl) (by decide) rfl (fun Kx hK => ?_)
    refine step_append_S _ rfl _ _ _ rfl _ _ rfl rfl _ _ hrun ?_
    refine hK.out _ _ (KSH.out _ g2) ?_
    clear hK
    try simp only [Act.put, List.getElem_toArray, List.getElem_cons_succ, List.getElem_cons_zero, List.setIfInBounds_toArray, List.set_cons_zero, List.set_cons_succ]
    have hS9 := KSH.out _ g2
    refine GoG.take (i := 23) (v := .pointer (some ⟨C, i, none⟩)) (by kernel_rfl) (by kernel_rfl) (by decide) (by kernel_rfl) (by kernel_rfl) (by kernel_rfl) (by decide) rfl (fun _ _ _ h => h) (Or.inl ⟨by rfl, ?_⟩) hS9 ?_
    · (intro w hSw; (try dsimp only at hSw); go_simp; try with_reducible rfl)
    try simp only [Act.put, List.getElem_toArray, List.getElem_cons_succ, List.getElem_cons_zero, List.setIfInBounds_toArray, List.set_cons_zero, List.set_cons_succ]
    clear hS9
    refine GoG.last (by kernel_rfl) (by kernel_rfl) rfl (fun Kx hK => ?_)
    try simp only [List.getElem_toArray, List.getElem_cons_succ, List.getElem_cons_zero]
    go_simp
    refine hK.out _ _ ?_
    clear hK
    try simp only [Act.put, List.getElem_toArray, List.getElem_cons_succ, List.getElem_cons_zero, List.setIfInBounds_toArray, List.set_cons_zero, List.set_cons_succ]
    have HEND := Lib.hid hend
    clear hend hrun ho4 KSH FIN HI1 HI2
    go_wp2_with fail
    go_ret
    exact ⟨by go_num, HEND.out⟩
theorem refBackNo (h : Dx w P N K L on mine saves) {s t : Int} (hs : I64L s) (hsl : ∀ j, j < N → (saves j).length ≤ 10000) (hno : ∀ i : Nat, s = i → i < N → on i = true → t < 0 ∨ ((saves i).length : Int) ≤ t) :
    Calls Try.prog 58 #[.pointer (some ⟨P, 0, none⟩), .int .i64 s, .int .i64 t] w fun e w' => e = .returned (.bool false) ∧ Below w.heap.size w w' := by
  have ho := refOpen h hs
  by_cases hon : onI N on s = true
  · obtain ⟨i, rfl, hi, hon1⟩ := onI_inv hon
    rw [hon] at ho
    have HO := Lib.hid ho
    have hn0 := hno i rfl hi hon1
    have hsi := hsl i hi
    obtain ⟨A, B, C, vL, vm, vs, h0⟩ := h
    have H0 := Lib.hid h0
    obtain ⟨n, hn⟩ : ∃ n, n = (saves i).length := ⟨_, rfl⟩
    rw [← hn] at hn0 hsi
    have HNN := Lib.hid hn
    have hi2 : (i : Int) < (N : Int) := by omega
    clear h0 ho hon hon1 hno hsl hn
    go_enter Try.func58, Try.ntmps58
    go_wp2_with fail
    refine HO.out.mono ?_
    clear HO
    rintro e w1 ⟨rfl, hb1⟩
    have h1 := H0.out.below hb1
    obtain ⟨_, _, _, p3, _⟩ := h1.cellP
    obtain ⟨c0, _⟩ := h1.cellC hi
    obtain ⟨oS, cS, hvs, _, _, _⟩ := (h1.ss i hi).form
    rw [hvs, ← HNN.out] at c0
    have HB1 := Lib.hid hb1
    clear h1 hb1 hvs H0
    by_cases h0 : t < 0
    · go_wp2_with fail
      go_ret
      exact ⟨rfl, HB1.out⟩
    · have hle : ¬ (t < (n : Int)) := by omega
      go_wp2_with fail
      go_ret
      exact ⟨rfl, HB1.out⟩
  · have hof : onI N on s = false := by simpa using hon
    rw [hof] at ho
    have HO := Lib.hid ho
    clear h ho hon hof hno hsl
    go_enter Try.func58, Try.ntmps58
    go_wp2_with fail
    refine HO.out.mono ?_
    clear HO
    rintro e w1 ⟨rfl, hb1⟩
    have HB1 := Lib.hid hb1
    clear hb1
    go_wp2_with fail
    go_ret
    exact ⟨rfl, HB1.out⟩
set_option maxRecDepth 20000 in
set_option maxHeartbeats 4000000 in
theorem refBack (h : Dx w P N K L on mine saves) {i : Nat} (hi : i < N) (hon : on i = true) (hil : I64L i) {t j : Nat} (ht : (saves i)[t]? = some (j : Int)) (hj : j ≤ (mine i).length) (hml : (mine i).length ≤ 10000) (hsl : (saves i).length ≤ 10000) :
    Calls Try.prog 58 #[.pointer (some ⟨P, 0, none⟩), .int .i64 i, .int .i64 t] w fun e w' => e = .returned (.bool true) ∧ Dx w' P N K L on (upN mine i ((mine i).take j)) (upN saves i ((saves i).take (t + 1))) ∧ Ext K w K w' := by
  have ho := refOpen h hil
  rw [onI_in hi, hon] at ho
  have HO := Lib.hid ho
  obtain ⟨A, B, C, vL, vm, vs, h0⟩ := h
  have H0 := Lib.hid h0
  obtain ⟨m, hm⟩ : ∃ m, m = (mine i).length := ⟨_, rfl⟩
  obtain ⟨n, hn⟩ : ∃ n, n = (saves i).length := ⟨_, rfl⟩
  have htl : t < n := by rw [hn]; exact (List.getElem?_eq_some_iff.1 ht).1
  have HMM : Hid (m = (mine i).length) := Lib.hid hm
  have HNN : Hid (n = (saves i).length) := Lib.hid hn
  have HT := Lib.hid ht
  rw [← hm] at hml hj
  rw [← hn] at hsl
  have hi2 : (i : Int) < (N : Int) := by omega
  have htn : (t : Int) < (n : Int) := by omega
  clear h0 ho hon hm hn ht
  go_enter Try.func58, Try.ntmps58
  go_wp2_with fail
  refine HO.out.mono ?_
  clear HO
  rintro e w1 ⟨rfl, hb1⟩
  have h1 := H0.out.below hb1
  have hPt := h1.ms i hi
  have hOi := h1.ss i hi
  obtain ⟨oM, cM, hvm, hmc, hmm, _⟩ := hPt.form
  obtain ⟨oS, cS, hvs, hsc, hsm, hsn, hsa⟩ := hOi.form
  rw [hvm] at hPt
  rw [hvs] at hOi
  have hPt2 := hPt.take (k := j) (by rw [← HMM.out]; exact hj)
  have hOi2 := hOi.take (k := t + 1) (by rw [← HNN.out]; omega)
  have hkB := h1.km i hi
  have hkC := h1.ks i hi
  rw [hvm] at hkB
  rw [hvs] at hkC
  rw [← HMM.out] at hvm hmc hkB
  rw [← HNN.out] at hvs hsc hkC
  obtain ⟨g, rfl, gc⟩ : ∃ g, oS = some ⟨g, 0, none⟩ ∧ w1.cell? ⟨g, t, none⟩ = some (.int .i64 (j : Int)) := by
    cases oS with
    | none =>
      have := (hsn rfl).2
      have e := HT.out
      rw [this] at e; simp at e
    | some a =>
      obtain ⟨g, rfl, _, _, hc⟩ := hsa a rfl
      refine ⟨g, rfl, ?_⟩
      have e := hc t (by rw [← HNN.out]; exact htl)
      rw [List.getD_eq_getElem?_getD, HT.out] at e
      exact e
  obtain ⟨_, _, p2, p3, _⟩ := h1.cellP
  obtain ⟨b0, b1⟩ := h1.cellB hi
  obtain ⟨c0, c1⟩ := h1.cellC hi
  rw [hvm] at b0
  rw [hvs] at c0
  have k1 := h1.setB i hPt2 (fun b e => hkB b (by
    cases oM with
    | none => simp [Value.ownBlock] at e
    | some a => simpa [Value.ownBlock] using e))
  obtain ⟨_, _, q2, q3, _⟩ := k1.cellP
  obtain ⟨d0, d1⟩ := k1.cellC hi
  rw [hvs] at d0
  have hOi3 : Oi 0 (w1.setCell ⟨B, i, none⟩ (.slice oM j cM)) (.slice (some ⟨g, 0, none⟩) (t + 1) cS) ((saves i).take (t + 1)) := hOi2.same fun b e => setCell_otherL _ _ _ fun e2 => (hkC b e).2 (e2 ▸ .inr (.inr (.inl rfl)))
  have k2 := k1.setC i hOi3 hkC
  have ex : Ext K w K ((w1.setCell ⟨B, i, none⟩ (.slice oM j cM)).setCell ⟨C, i, none⟩ (.slice (some ⟨g, 0, none⟩) (t + 1) cS)) :=
    ((Ext.of_below hb1).trans (ext_set (h1.k4 B (.inr (.inr (.inl rfl)))) _ _)).trans (ext_set (h1.k4 C (.inr (.inr (.inr rfl)))) _ _)
  obtain ⟨_, _, _, r3, _⟩ := k2.cellP
  have gB : g ≠ B := fun e => (hkC g (by simp [Value.ownBlock])).2 (e ▸ .inr (.inr (.inl rfl)))
  have gc2 : (w1.setCell ⟨B, i, none⟩ (.slice oM j cM)).cell? ⟨g, t, none⟩ = some (.int .i64 (j : Int)) := (World.cell?_of_block (a := ⟨g, t, none⟩) (setCell_otherL w1 _ _ gB)).trans gc
  have K0 : Hid (w1.drew.cell? ⟨P, 2, none⟩ = some (.slice (some ⟨B, 0, none⟩) N N) ∧ w1.drew.cell? ⟨P, 3, none⟩ = some (.slice (some ⟨C, 0, none⟩) N N) ∧ w1.drew.cell? ⟨B, i, none⟩ = some (.slice oM m cM) ∧ w1.drew.cell? ⟨C, i, none⟩ = some (.slice (some ⟨g, 0, none⟩) n cS) ∧ w1.drew.cell? ⟨g, t, none⟩ = some (.int .i64 (j : Int))) := Lib.hid ⟨p2, p3, b0, c0, gc⟩
  have K1 : Hid ((w1.setCell ⟨B, i, none⟩ (.slice oM j cM)).drew.drew.cell? ⟨P, 3, none⟩ = some (.slice (some ⟨C, 0, none⟩) N N) ∧ (w1.setCell ⟨B, i, none⟩ (.slice oM j cM)).drew.drew.cell? ⟨C, i, none⟩ = some (.slice (some ⟨g, 0, none⟩) n cS)) := Lib.hid ⟨q3, d0⟩
  have HK := Lib.hid k2
  have HE := Lib.hid ex
  have u1 := parts_upto oM m cM j hj hmc
  have u2 := intsl_upto (some ⟨g, 0, none⟩) n cS (t + 1) (by omega) hsc
  have e1 : (((t + 1 : Nat)) : Int) = (t : Int) + 1 := by omega
  rw [e1] at u2
  have hw1 : IntKind.i64.wrap ((t : Int) + 1) = (t : Int) + 1 := by rw [IntKind.wrap_i64]; omega
  have hle : ¬ ((t : Int) < 0) := by omega
  have hjm : (j : Int) ≤ (m : Int) := by omega
  have hj0 : (0 : Int) ≤ (j : Int) := by omega
  clear h1 hPt hOi hPt2 hOi2 hOi3 hkB hkC k1 k2 ex hb1 hsn hsa hvm hvs H0 HT e1
  go_wp2_with fail
  have hS0 := K0.out
  refine wp_region_G (fun W => W.cell? ⟨P, 2, none⟩ = some (.slice (some ⟨B, 0, none⟩) N N) ∧ W.cell? ⟨P, 3, none⟩ = some (.slice (some ⟨C, 0, none⟩) N N) ∧ W.cell? ⟨B, i, none⟩ = some (.slice oM m cM) ∧ W.cell? ⟨C, i, none⟩ = some (.slice (some ⟨g, 0, none⟩) n cS) ∧ W.cell? ⟨g, t, none⟩ = some (.int .i64 (j : Int))) 24 (by kernel_rfl) ?_
  refine GoG.take (i := 0) (v := .pointer (some ⟨P, 0, none⟩)) (by kernel_rfl) (by kernel_rfl) (by decide) (by kernel_rfl) (by kernel_rfl) (by kernel_rfl) (by decide) rfl (fun _ _ _ h => h) (Or.inl ⟨by rfl, ?_⟩) hS0 ?_
  · (intro w hSw; (try dsimp only at hSw); go_simp; try with_reducible rfl)
  try simp only [Act.put, List.getElem_toArray, List.getElem_cons_succ, List.getElem_cons_zero, List.setIfInBounds_toArray, List.set_cons_zero, List.set_cons_succ]
  refine GoG.take (i := 1) (v := .pointer (some ⟨P, 0, none⟩)) (by kernel_rfl) (by kernel_rfl) (by decide) (by kernel_rfl) (by kernel_rfl) (by kernel_rfl) (by decide) rfl (fun _ _ _ h => h) (Or.inl ⟨by rfl, ?_⟩) hS0 ?_
  · (intro w hSw; (try dsimp only at hSw); go_simp; try with_reducible rfl)
  try simp only [Act.put, List.getElem_toArray, List.getElem_cons_succ, List.getElem_cons_zero, List.setIfInBounds_toArray, List.set_cons_zero, List.set_cons_succ]
  refine GoG.take (i := 2) (v := .pointer (some ⟨P, 2, none⟩)) (by kernel_rfl) (by kernel_rfl) (by decide) (by kernel_rfl) (by kernel_rfl) (by kernel_rfl) (by decide) rfl (fun _ _ _ h => h) (Or.inl ⟨by rfl, ?_⟩) hS0 ?_
  · (intro w hSw; (try dsimp only at hSw); go_simp; try with_reducible rfl)
  try simp only [Act.put, List.getElem_toArray, List.getElem_cons_succ, List.getElem_cons_zero, List.setIfInBounds_toArray, List.set_cons_zero, List.set_cons_succ]
  refine GoG.take (i := 3) (v := .slice (some ⟨B, 0, none⟩) N N) (by kernel_rfl) (by kernel_rfl) (by decide) (by kernel_rfl) (by kernel_rfl) (by kernel_rfl) (by decide) rfl (fun _ _ _ h => h) (Or.inl ⟨by rfl, ?_⟩) hS0 ?_
  · (intro w hSw; (try dsimp only at hSw); go_simp; try with_reducible rfl)
  try simp only [Act.put, List.getElem_toArray, List.getElem_cons_succ, List.getElem_cons_zero, List.setIfInBounds_toArray, List.set_cons_zero, List.set_cons_succ]
  refine GoG.take (i := 4) (v := .int .i64 i) (by kernel_rfl) (by kernel_rfl) (by decide) (by kernel_rfl) (by kernel_rfl) (by kernel_rfl) (by decide) rfl (fun _ _ _ h => h) (Or.inl ⟨by rfl, ?_⟩) hS0 ?_
  · (intro w hSw; (try dsimp only at hSw); go_simp; try with_reducible rfl)
  try simp only [Act.put, List.getElem_toArray, List.getElem_cons_succ, List.getElem_cons_zero, List.setIfInBounds_toArray, List.set_cons_zero, List.set_cons_succ]
  refine GoG.take (i := 5) (v := .pointer (some ⟨P, 0, none⟩)) (by kernel_rfl) (by kernel_rfl) (by decide) (by kernel_rfl) (by kernel_rfl) (by kernel_rfl) (by decide) rfl (fun _ _ _ h => h) (Or.inl ⟨by rfl, ?_⟩) hS0 ?_
  · (intro w hSw; (try dsimp only at hSw); go_simp; try with_reducible rfl)
  try simp only [Act.put, List.getElem_toArray, List.getElem_cons_succ, List.getElem_cons_zero, List.setIfInBounds_toArray, List.set_cons_zero, List.set_cons_succ]
  refine GoG.take (i := 6) (v := .pointer (some ⟨P, 0, none⟩)) (by kernel_rfl) (by kernel_rfl) (by decide) (by kernel_rfl) (by kernel_rfl) (by kernel_rfl) (by decide) rfl (fun _ _ _ h => h) (Or.inl ⟨by rfl, ?_⟩) hS0 ?_
  · (intro w hSw; (try dsimp only at hSw); go_simp; try with_reducible rfl)
  try simp only [Act.put, List.getElem_toArray, List.getElem_cons_succ, List.getElem_cons_zero, List.setIfInBounds_toArray, List.set_cons_zero, List.set_cons_succ]
  refine GoG.take (i := 7) (v := .pointer (some ⟨P, 2, none⟩)) (by kernel_rfl) (by kernel_rfl) (by decide) (by kernel_rfl) (by kernel_rfl) (by kernel_rfl) (by decide) rfl (fun _ _ _ h => h) (Or.inl ⟨by rfl, ?_⟩) hS0 ?_
  · (intro w hSw; (try dsimp only at hSw); go_simp; try with_reducible rfl)
  try simp only [Act.put, List.getElem_toArray, List.getElem_cons_succ, List.getElem_cons_zero, List.setIfInBounds_toArray, List.set_cons_zero, List.set_cons_succ]
  refine GoG.take (i := 8) (v := .slice (some ⟨B, 0, none⟩) N N) (by kernel_rfl) (by kernel_rfl) (by decide) (by kernel_rfl) (by kernel_rfl) (by kernel_rfl) (by decide) rfl (fun _ _ _ h => h) (Or.inl ⟨by rfl, ?_⟩) hS0 ?_
  · (intro w hSw; (try dsimp only at hSw); go_simp; try with_reducible rfl)
  try simp only [Act.put, List.getElem_toArray, List.getElem_cons_succ, List.getElem_cons_zero, List.setIfInBounds_toArray, List.set_cons_zero, List.set_cons_succ]
  refine GoG.take (i := 9) (v := .int .i64 i) (by kernel_rfl) (by kernel_rfl) (by decide) (by kernel_rfl) (by kernel_rfl) (by kernel_rfl) (by decide) rfl (fun _ _ _ h => h) (Or.inl ⟨by rfl, ?_⟩) hS0 ?_
  · (intro w hSw; (try dsimp only at hSw); go_simp; try with_reducible rfl)
  try simp only [Act.put, List.getElem_toArray, List.getElem_cons_succ, List.getElem_cons_zero, List.setIfInBounds_toArray, List.set_cons_zero, List.set_cons_succ]
  refine GoG.take (i := 10) (v := .pointer (some ⟨B, i, none⟩)) (by kernel_rfl) (by kernel_rfl) (by decide) (by kernel_rfl) (by kernel_rfl) (by kernel_rfl) (by decide) rfl (fun _ _ _ h => h) (Or.inl ⟨by rfl, ?_⟩) hS0 ?_
  · (intro w hSw; (try dsimp only at hSw); go_simp; try with_reducible rfl)
  try simp only [Act.put, List.getElem_toArray, List.getElem_cons_succ, List.getElem_cons_zero, List.setIfInBounds_toArray, List.set_cons_zero, List.set_cons_succ]
  refine GoG.take (i := 11) (v := .slice oM m cM) (by kernel_rfl) (by kernel_rfl) (by decide) (by kernel_rfl) (by kernel_rfl) (by kernel_rfl) (by decide) rfl (fun _ _ _ h => h) (Or.inl ⟨by rfl, ?_⟩) hS0 ?_
  · (intro w hSw; (try dsimp only at hSw); go_simp; try with_reducible rfl)
  try simp only [Act.put, List.getElem_toArray, List.getElem_cons_succ, List.getElem_cons_zero, List.setIfInBounds_toArray, List.set_cons_zero, List.set_cons_succ]
  refine GoG.take (i := 12) (v := .pointer (some ⟨P, 0, none⟩)) (by kernel_rfl) (by kernel_rfl) (by decide) (by kernel_rfl) (by kernel_rfl) (by kernel_rfl) (by decide) rfl (fun _ _ _ h => h) (Or.inl ⟨by rfl, ?_⟩) hS0 ?_
  · (intro w hSw; (try dsimp only at hSw); go_simp; try with_reducible rfl)
  try simp only [Act.put, List.getElem_toArray, List.getElem_cons_succ, List.getElem_cons_zero, List.setIfInBounds_toArray, List.set_cons_zero, List.set_cons_succ]
  refine GoG.take (i := 13) (v := .pointer (some ⟨P, 0, none⟩)) (by kernel_rfl) (by kernel_rfl) (by decide) (by kernel_rfl) (by kernel_rfl) (by kernel_rfl) (by decide) rfl (fun _ _ _ h => h) (Or.inl ⟨by rfl, ?_⟩) hS0 ?_
  · (intro w hSw; (try dsimp only at hSw); go_simp; try with_reducible rfl)
  try simp only [Act.put, List.getElem_toArray, List.getElem_cons_succ, List.getElem_cons_zero, List.setIfInBounds_toArray, List.set_cons_zero, List.set_cons_succ]
  refine GoG.take (i := 14) (v := .pointer (some ⟨P, 3, none⟩)) (by kernel_rfl) (by kernel_rfl) (by decide) (by kernel_rfl) (by kernel_rfl) (by kernel_rfl) (by decide) rfl (fun _ _ _ h => h) (Or.inl ⟨by rfl, ?_⟩) hS0 ?_
  · (intro w hSw; (try dsimp only at hSw); go_simp; try with_reducible rfl)
  try simp only [Act.put, List.getElem_toArray, List.getElem_cons_succ, List.getElem_cons_zero, List.setIfInBounds_toArray, List.set_cons_zero, List.set_cons_succ]
  refine GoG.take (i := 15) (v := .slice (some ⟨C, 0, none⟩) N N) (by kernel_rfl) (by kernel_rfl) (by decide) (by kernel_rfl) (by kernel_rfl) (by kernel_rfl) (by decide) rfl (fun _ _ _ h => h) (Or.inl ⟨by rfl, ?_⟩) hS0 ?_
  · (intro w hSw; (try dsimp only at hSw); go_simp; try with_reducible rfl)
  try simp only [Act.put, List.getElem_toArray, List.getElem_cons_succ, List.getElem_cons_zero, List.setIfInBounds_toArray, List.set_cons_zero, List.set_cons_succ]
  refine GoG.take (i := 16) (v := .int .i64 i) (by kernel_rfl) (by kernel_rfl) (by decide) (by kernel_rfl) (by kernel_rfl) (by kernel_rfl) (by decide) rfl (fun _ _ _ h => h) (Or.inl ⟨by rfl, ?_⟩) hS0 ?_
  · (intro w hSw; (try dsimp only at hSw); go_simp; try with_reducible rfl)
  try simp only [Act.put, List.getElem_toArray, List.getElem_cons_succ, List.getElem_cons_zero, List.setIfInBounds_toArray, List.set_cons_zero, List.set_cons_succ]
  refine GoG.take (i := 17) (v := .pointer (some ⟨C, i, none⟩)) (by kernel_rfl) (by kernel_rfl) (by decide) (by kernel_rfl) (by kernel_rfl) (by kernel_rfl) (by decide) rfl (fun _ _ _ h => h) (Or.inl ⟨by rfl, ?_⟩) hS0 ?_
  · (intro w hSw; (try dsimp only at hSw); go_simp; try with_reducible rfl)
  try simp only [Act.put, List.getElem_toArray, List.getElem_cons_succ, List.getElem_cons_zero, List.setIfInBounds_toArray, List.set_cons_zero, List.set_cons_succ]
  refine GoG.take (i := 18) (v := .slice (some ⟨g, 0, none⟩) n cS) (by kernel_rfl) (by kernel_rfl) (by decide) (by kernel_rfl) (by kernel_rfl) (by kernel_rfl) (by decide) rfl (fun _ _ _ h => h) (Or.inl ⟨by rfl, ?_⟩) hS0 ?_
  · (intro w hSw; (try dsimp only at hSw); go_simp; try with_reducible rfl)
  try simp only [Act.put, List.getElem_toArray, List.getElem_cons_succ, List.getElem_cons_zero, List.setIfInBounds_toArray, List.set_cons_zero, List.set_cons_succ]
  refine GoG.take (i := 19) (v := .int .i64 t) (by kernel_rfl) (by kernel_rfl) (by decide) (by kernel_rfl) (by kernel_rfl) (by kernel_rfl) (by decide) rfl (fun _ _ _ h => h) (Or.inl ⟨by rfl, ?_⟩) hS0 ?_
  · (intro w hSw; (try dsimp only at hSw); go_simp; try with_reducible rfl)
  try simp only [Act.put, List.getElem_toArray, List.getElem_cons_succ, List.getElem_cons_zero, List.setIfInBounds_toArray, List.set_cons_zero, List.set_cons_succ]
  refine GoG.take (i := 20) (v := .pointer (some ⟨g, t, none⟩)) (by kernel_rfl) (by kernel_rfl) (by decide) (by kernel_rfl) (by kernel_rfl) (by kernel_rfl) (by decide) rfl (fun _ _ _ h => h) (Or.inl ⟨by rfl, ?_⟩) hS0 ?_
  · (intro w hSw; (try dsimp only at hSw); go_simp; try with_reducible rfl)
  try simp only [Act.put, List.getElem_toArray, List.getElem_cons_succ, List.getElem_cons_zero, List.setIfInBounds_toArray, List.set_cons_zero, List.set_cons_succ]
  refine GoG.take (i := 21) (v := .int .i64 j) (by kernel_rfl) (by kernel_rfl) (by decide) (by kernel_rfl) (by kernel_rfl) (by kernel_rfl) (by decide) rfl (fun _ _ _ h => h) (Or.inl ⟨by rfl, ?_⟩) hS0 ?_
  · (intro w hSw; (try dsimp only at hSw); go_simp; try with_reducible rfl)
  try simp only [Act.put, List.getElem_toArray, List.getElem_cons_succ, List.getElem_cons_zero, List.setIfInBounds_toArray, List.set_cons_zero, List.set_cons_succ]
  refine GoG.take (i := 22) (v := .slice oM j cM) (by kernel_rfl) (by kernel_rfl) (by decide) (by kernel_rfl) (by kernel_rfl) (by kernel_rfl) (by decide) rfl (fun _ _ _ h => h) (Or.inl ⟨by rfl, ?_⟩) hS0 ?_
  · (intro w hSw; (try dsimp only at hSw); go_simp; try with_reducible rfl)
  try simp only [Act.put, List.getElem_toArray, List.getElem_cons_succ, List.getElem_cons_zero, List.setIfInBounds_toArray, List.set_cons_zero, List.set_cons_succ]
  refine GoG.take (i := 23) (v := .pointer (some ⟨B, i, none⟩)) (by kernel_rfl) (by kernel_rfl) (by decide) (by kernel_rfl) (by kernel_rfl) (by kernel_rfl) (by decide) rfl (fun _ _ _ h => h) (Or.inl ⟨by rfl, ?_⟩) hS0 ?_
  · (intro w hSw; (try dsimp only at hSw); go_simp; try with_reducible rfl)
  try simp only [Act.put, List.getElem_toArray, List.getElem_cons_succ, List.getElem_cons_zero, List.setIfInBounds_toArray, List.set_cons_zero, List.set_cons_succ]
  clear hS0
  refine GoG.last (by kernel_rfl) (by kernel_rfl) rfl (fun Kx hK => ?_)
  try simp only [List.getElem_toArray, List.getElem_cons_succ, List.getElem_cons_zero]
  go_simp
  refine hK.out _ _ ?_
  clear hK
  try simp only [Act.put, List.getElem_toArray, List.getElem_cons_succ, List.getElem_cons_zero, List.setIfInBounds_toArray, List.set_cons_zero, List.set_cons_succ]
  go_wp2_with fail
  have hS0 := K1.out
  refine wp_region_G (fun W => W.cell? ⟨P, 3, none⟩ = some (.slice (some ⟨C, 0, none⟩) N N) ∧ W.cell? ⟨C, i, none⟩ = some (.slice (some ⟨g, 0, none⟩) n cS)) 16 (by kernel_rfl) ?_
  refine GoG.take (i := 0) (v := .pointer (some ⟨P, 0, none⟩)) (by kernel_rfl) (by kernel_rfl) (by decide) (by kernel_rfl) (by kernel_rfl) (by kernel_rfl) (by decide) rfl (fun _ _ _ h => h) (Or.inl ⟨by rfl, ?_⟩) hS0 ?_
  · (intro w hSw; (try dsimp only at hSw); go_simp; try with_reducible rfl)
  try simp only [Act.put, List.getElem_toArray, List.getElem_cons_succ, List.getElem_cons_zero, List.setIfInBounds_toArray, List.set_cons_zero, List.set_cons_succ]
  refine GoG.take (i := 1) (v := .pointer (some ⟨P, 0, none⟩)) (by kernel_rfl) (by kernel_rfl) (by decide) (by kernel_rfl) (by kernel_rfl) (by kernel_rfl) (by decide) rfl (fun _ _ _ h => h) (Or.inl ⟨by rfl, ?_⟩) hS0 ?_
  · (intro w hSw; (try dsimp only at hSw); go_simp; try with_reducible rfl)
  try simp only [Act.put, List.getElem_toArray, List.getElem_cons_succ, List.getElem_cons_zero, List.setIfInBounds_toArray, List.set_cons_zero, List.set_cons_succ]
  refine GoG.take (i := 2) (v := .pointer (some ⟨P, 3, none⟩)) (by kernel_rfl) (by kernel_rfl) (by decide) (by kernel_rfl) (by kernel_rfl) (by kernel_rfl) (by decide) rfl (fun _ _ _ h => h) (Or.inl ⟨by rfl, ?_⟩) hS0 ?_
  · (intro w hSw; (try dsimp only at hSw); go_simp; try with_reducible rfl)
  try simp only [Act.put, List.getElem_toArray, List.getElem_cons_succ, List.getElem_cons_zero, List.setIfInBounds_toArray, List.set_cons_zero, List.set_cons_succ]
  refine GoG.take (i := 3) (v := .slice (some ⟨C, 0, none⟩) N N) (by kernel_rfl) (by kernel_rfl) (by decide) (by kernel_rfl) (by kernel_rfl) (by kernel_rfl) (by decide) rfl (fun _ _ _ h => h) (Or.inl ⟨by rfl, ?_⟩) hS0 ?_
  · (intro w hSw; (try dsimp only at hSw); go_simp; try with_reducible rfl)
  try simp only [Act.put, List.getElem_toArray, List.getElem_cons_succ, List.getElem_cons_zero, List.setIfInBounds_toArray, List.set_cons_zero, List.set_cons_succ]
  refine GoG.take (i := 4) (v := .int .i64 i) (by kernel_rfl) (by kernel_rfl) (by decide) (by kernel_rfl) (by kernel_rfl) (by kernel_rfl) (by decide) rfl (fun _ _ _ h => h) (Or.inl ⟨by rfl, ?_⟩) hS0 ?_
  · (intro w hSw; (try dsimp only at hSw); go_simp; try with_reducible rfl)
  try simp only [Act.put, List.getElem_toArray, List.getElem_cons_succ, List.getElem_cons_zero, List.setIfInBounds_toArray, List.set_cons_zero, List.set_cons_succ]
  refine GoG.take (i := 5) (v := .pointer (some ⟨P, 0, none⟩)) (by kernel_rfl) (by kernel_rfl) (by decide) (by kernel_rfl) (by kernel_rfl) (by kernel_rfl) (by decide) rfl (fun _ _ _ h => h) (Or.inl ⟨by rfl, ?_⟩) hS0 ?_
  · (intro w hSw; (try dsimp only at hSw); go_simp; try with_reducible rfl)
  try simp only [Act.put, List.getElem_toArray, List.getElem_cons_succ, List.getElem_cons_zero, List.setIfInBounds_toArray, List.set_cons_zero, List.set_cons_succ]
  refine GoG.take (i := 6) (v := .pointer (some ⟨P, 0, none⟩)) (by kernel_rfl) (by kernel_rfl) (by decide) (by kernel_rfl) (by kernel_rfl) (by kernel_rfl) (by decide) rfl (fun _ _ _ h => h) (Or.inl ⟨by rfl, ?_⟩) hS0 ?_
  · (intro w hSw; (try dsimp only at hSw); go_simp; try with_reducible rfl)
  try simp only [Act.put, List.getElem_toArray, List.getElem_cons_succ, List.getElem_cons_zero, List.setIfInBounds_toArray, List.set_cons_zero, List.set_cons_succ]
  refine GoG.take (i := 7) (v := .pointer (some ⟨P, 3, none⟩)) (by kernel_rfl) (by kernel_rfl) (by decide) (by kernel_rfl) (by kernel_rfl) (by kernel_rfl) (by decide) rfl (fun _ _ _ h => h) (Or.inl ⟨by rfl, ?_⟩) hS0 ?_
  · (intro w hSw; (try dsimp only at hSw); go_simp; try with_reducible rfl)
  try simp only [Act.put, List.getElem_toArray, List.getElem_cons_succ, List.getElem_cons_zero, List.setIfInBounds_toArray, List.set_cons_zero, List.set_cons_succ]
  refine GoG.take (i := 8) (v := .slice (some ⟨C, 0, none⟩) N N) (by kernel_rfl) (by kernel_rfl) (by decide) (by kernel_rfl) (by kernel_rfl) (by kernel_rfl) (by decide) rfl (fun _ _ _ h => h) (Or.inl ⟨by rfl, ?_⟩) hS0 ?_
  · (intro w hSw; (try dsimp only at hSw); go_simp; try with_reducible rfl)
  try simp only [Act.put, List.getElem_toArray, List.getElem_cons_succ, List.getElem_cons_zero, List.setIfInBounds_toArray, List.set_cons_zero, List.set_cons_succ]
  refine GoG.take (i := 9) (v := .int .i64 i) (by kernel_rfl) (by kernel_rfl) (by decide) (by kernel_rfl) (by kernel_rfl) (by kernel_rfl) (by decide) rfl (fun _ _ _ h => h) (Or.inl ⟨by rfl, ?_⟩) hS0 ?_
  · (intro w hSw; (try dsimp only at hSw); go_simp; try with_reducible rfl)
  try simp only [Act.put, List.getElem_toArray, List.getElem_cons_succ, List.getElem_cons_zero, List.setIfInBounds_toArray, List.set_cons_zero, List.set_cons_succ]
  refine GoG.take (i := 10) (v := .pointer (some ⟨C, i, none⟩)) (by kernel_rfl) (by kernel_rfl) (by decide) (by kernel_rfl) (by kernel_rfl) (by kernel_rfl) (by decide) rfl (fun _ _ _ h => h) (Or.inl ⟨by rfl, ?_⟩) hS0 ?_
  · (intro w hSw; (try dsimp only at hSw); go_simp; try with_reducible rfl)
  try simp only [Act.put, List.getElem_toArray, List.getElem_cons_succ, List.getElem_cons_zero, List.setIfInBounds_toArray, List.set_cons_zero, List.set_cons_succ]
  refine GoG.take (i := 11) (v := .slice (some ⟨g, 0, none⟩) n cS) (by kernel_rfl) (by kernel_rfl) (by decide) (by kernel_rfl) (by kernel_rfl) (by kernel_rfl) (by decide) rfl (fun _ _ _ h => h) (Or.inl ⟨by rfl, ?_⟩) hS0 ?_
  · (intro w hSw; (try dsimp only at hSw); go_simp; try with_reducible rfl)
  try simp only [Act.put, List.getElem_toArray, List.getElem_cons_succ, List.getElem_cons_zero, List.setIfInBounds_toArray, List.set_cons_zero, List.set_cons_succ]
  refine GoG.take (i := 12) (v := .int .i64 t) (by kernel_rfl) (by kernel_rfl) (by decide) (by kernel_rfl) (by kernel_rfl) (by kernel_rfl) (by decide) rfl (fun _ _ _ h => h) (Or.inl ⟨by rfl, ?_⟩) hS0 ?_
  · (intro w hSw; (try dsimp only at hSw); go_simp; try with_reducible rfl)
  try simp only [Act.put, List.getElem_toArray, List.getElem_cons_succ, List.getElem_cons_zero, List.setIfInBounds_toArray, List.set_cons_zero, List.set_cons_succ]
  refine GoG.take (i := 13) (v := .int .i64 ((t : Int) + 1)) (by kernel_rfl) (by kernel_rfl) (by decide) (by kernel_rfl) (by kernel_rfl) (by kernel_rfl) (by decide) rfl (fun _ _ _ h => h) (Or.inl ⟨by rfl, ?_⟩) hS0 ?_
  · (intro w hSw; (try dsimp only at hSw); go_simp; try with_reducible rfl)
  try simp only [Act.put, List.getElem_toArray, List.getElem_cons_succ, List.getElem_cons_zero, List.setIfInBounds_toArray, List.set_cons_zero, List.set_cons_succ]
  refine GoG.take (i := 14) (v := .slice (some ⟨g, 0, none⟩) (t + 1) cS) (by kernel_rfl) (by kernel_rfl) (by decide) (by kernel_rfl) (by kernel_rfl) (by kernel_rfl) (by decide) rfl (fun _ _ _ h => h) (Or.inl ⟨by rfl, ?_⟩) hS0 ?_
  · (intro w hSw; (try dsimp only at hSw); go_simp; try with_reducible rfl)
  try simp only [Act.put, List.getElem_toArray, List.getElem_cons_succ, List.getElem_cons_zero, List.setIfInBounds_toArray, List.set_cons_zero, List.set_cons_succ]
  refine GoG.take (i := 15) (v := .pointer (some ⟨C, i, none⟩)) (by kernel_rfl) (by kernel_rfl) (by decide) (by kernel_rfl) (by kernel_rfl) (by kernel_rfl) (by decide) rfl (fun _ _ _ h => h) (Or.inl ⟨by rfl, ?_⟩) hS0 ?_
  · (intro w hSw; (try dsimp only at hSw); go_simp; try with_reducible rfl)
  try simp only [Act.put, List.getElem_toArray, List.getElem_cons_succ, List.getElem_cons_zero, List.setIfInBounds_toArray, List.set_cons_zero, List.set_cons_succ]
  clear hS0
  refine GoG.last (by kernel_rfl) (by kernel_rfl) rfl (fun Kx hK => ?_)
  try simp only [List.getElem_toArray, List.getElem_cons_succ, List.getElem_cons_zero]
  go_simp
  refine hK.out _ _ ?_
  clear hK
  try simp only [Act.put, List.getElem_toArray, List.getElem_cons_succ, List.getElem_cons_zero, List.setIfInBounds_toArray, List.set_cons_zero, List.set_cons_succ]
  go_wp2_with fail
  go_ret
  exact ⟨rfl, ⟨_, _, _, _, _, _, HK.out.below (Below.refl _ _).drew.drew⟩, HE.out.trans (Ext.of_below (Below.refl _ _).drew.drew)⟩
end
end Go.Proofs.Ytpgelebmhhcodaa
