/- Contract: the document's model: Commit. -/
import Derived.Test.YtpgelebmhhcodaaDmH
import Derived.Test.YtpgelebmhhcodaaRgG
namespace Go.Proofs.Ytpgelebmhhcodaa
open Go.RowKit
set_option linter.unusedVariables false
set_option linter.unusedSimpArgs false

section
variable {w : World} {P N : Nat} {K : Nat → Prop} {L : List (Int × Int)} {on : Nat → Bool} {mine : Nat → List Pc} {saves : Nat → List Int}
theorem refCommitNo (h : Dx w P N K L on mine saves) {s : Int} (hs : I64L s) (hon : onI N on s = false) :
    Calls Try.prog 59 #[.pointer (some ⟨P, 0, none⟩), .int .i64 s] w fun e w' => e = .returned (.bool false) ∧ Below w.heap.size w w' := by
  have HO := Lib.hid (refOpen h hs)
  rw [hon] at HO
  clear h hon hs
  go_enter Try.func59, Try.ntmps59
  go_wp2_with fail
  refine HO.out.mono ?_
  clear HO
  rintro e w1 ⟨rfl, hb⟩
  go_wp2_with fail
  go_ret
  exact ⟨rfl, hb⟩
theorem foldl_len (T : List Pc) : ∀ L : List (Int × Int), (T.foldl laidP L).length ≤ L.length + T.length := by
  induction T with
  | nil => intro L; simp
  | cons p T ih =>
    intro L
    rw [List.foldl_cons, List.length_cons]
    have := ih (laidP L p)
    have := laidP_len L p
    omega
set_option maxRecDepth 20000 in
set_option maxHeartbeats 4000000 in
theorem refCommit (h : Dx w P N K L on mine saves) {i : Nat} (hi : i < N) (hon : on i = true) (hil : I64L i) (hml : L.length + (mine i).length ≤ 80000) :
    Calls Try.prog 59 #[.pointer (some ⟨P, 0, none⟩), .int .i64 i] w fun e w' => e = .returned (.bool true) ∧ ∃ K', Dx w' P N K' ((mine i).foldl laidP L) (upN on i false) mine saves ∧ Ext K w K' w' := by
  have ho := refOpen h hil
  rw [onI_in hi, hon] at ho
  have HO := Lib.hid ho
  have H0 := Lib.hid h
  obtain ⟨m, hm⟩ : ∃ m, m = (mine i).length := ⟨_, rfl⟩
  have HMM : Hid (m = (mine i).length) := Lib.hid hm
  have HML := Lib.hid hml
  have hm8 : m ≤ 80000 := by omega
  have hi2 : (i : Int) < (N : Int) := by omega
  clear h ho hon hm hml
  go_enter Try.func59, Try.ntmps59
  go_wp2_with fail
  refine HO.out.mono ?_
  clear HO
  rintro e w1 ⟨rfl, hb1⟩
  have HX1 : Hid (Ext K w K w1) := Lib.hid (Ext.of_below hb1)
  have HD1 : Hid (Dx w1 P N K (((mine i).take 0).foldl laidP L) on mine saves) := Lib.hid (H0.out.below hb1)
  clear hb1 H0
  go_wp2_with fail
  go_loopw [5] (fun s5 wr => ∃ (j : Nat) (Kj : Nat → Prop), s5 = .int .i64 j ∧ j ≤ m ∧ Hid (Dx wr P N Kj (((mine i).take j).foldl laidP L) on mine saves) ∧ Hid (Ext K w Kj wr)) (fun s5 _ => m - (intOf s5).toNat)
  case atStart => exact ⟨0, K, rfl, by omega, HD1, HX1⟩
  case round =>
    obtain ⟨j, Kj, rfl, hj, HD, HX⟩ := hrel
    clear HD1 HX1
    obtain ⟨A, B, C, vL, vm, vs, hd⟩ := HD.out
    obtain ⟨p0, p1, p2, _, _⟩ := hd.cellP
    obtain ⟨b0, _⟩ := hd.cellB hi
    have hp := hd.ms i hi
    obtain ⟨oM, cM, hvm, hmc, hmm, _⟩ := hp.form
    rw [← HMM.out] at hvm hmc
    rw [hvm] at b0 hp
    unfold maxLen at hmm
    by_cases hjm : (j : Int) < m
    · obtain ⟨g, r, rfl, hr, hr1, hr2, e0, e1, e2⟩ := hp.at_ (k := j) (by rw [← HMM.out]; omega)
      have ht : ((mine i).take (j + 1)).foldl laidP L = laidP (((mine i).take j).foldl laidP L) r := by
        rw [List.take_add_one, hr, Option.toList_some, List.foldl_append]; rfl
      obtain ⟨rk, rh, rv⟩ := r
      dsimp only at e0 e1 e2 hr1 hr2
      have hlen : (((mine i).take j).foldl laidP L).length ≤ 90000 := by
        have h1 := foldl_len ((mine i).take j) L
        have h2 : ((mine i).take j).length ≤ (mine i).length := by rw [List.length_take]; omega
        have := HML.out
        omega
      have hdr : Below wr.heap.size wr wr.drew := (Below.refl _ _).drew
      have HC : Hid (Calls Try.prog 91 #[vL, .agg #[.int .i64 rk, .bool rh, .int .i64 rv]] wr.drew fun e w2 => ∃ g3 n3 c3, e = .returned (.slice (some ⟨g3, 0, none⟩) n3 c3) ∧ (w2.cell? ⟨P, 0, none⟩ = some vL ∧ w2.frozen? ⟨P, 0, none⟩ = false) ∧
          (w2.cell? ⟨P, 0, none⟩ = some vL ∧ w2.cell? ⟨P, 2, none⟩ = some (.slice (some ⟨B, 0, none⟩) N N) ∧ w2.cell? ⟨B, i, none⟩ = some (.slice (some ⟨g, 0, none⟩) m cM) ∧ w2.cell? ⟨g, j * 3, none⟩ = some (.int .i64 rk) ∧ w2.cell? ⟨g, j * 3 + 1, none⟩ = some (.bool rh) ∧ w2.cell? ⟨g, j * 3 + 2, none⟩ = some (.int .i64 rv)) ∧
          ∃ K2, Dx (w2.setCell ⟨P, 0, none⟩ (.slice (some ⟨g3, 0, none⟩) n3 c3)) P N K2 (((mine i).take (j + 1)).foldl laidP L) on mine saves ∧ Ext K w K2 (w2.setCell ⟨P, 0, none⟩ (.slice (some ⟨g3, 0, none⟩) n3 c3))) := Lib.hid (by
        refine (refLaid vL _ wr.drew (hd.own.below hdr) hlen rh hr1 hr2).mono ?_
        rintro e w2 ⟨g3, c3, rfl, he3, hb3⟩
        have hb : Below wr.heap.size wr w2 := hdr.trans hb3
        obtain ⟨q1, q2, q3⟩ := hd.putL hb he3
        have c := fun {a : Addr} {x : Value} (h : wr.cell? a = some x) => (hb.cell (Below.lt h)).trans h
        refine ⟨g3, _, c3, rfl, q1, ⟨c p0, c p2, c b0, c e0, c e1, c e2⟩, _, ?_, HX.out.trans q3⟩
        rw [ht]
        exact ⟨_, _, _, _, _, _, q2⟩)
      have S0 : Hid (wr.drew.cell? ⟨P, 0, none⟩ = some vL ∧ wr.drew.cell? ⟨P, 2, none⟩ = some (.slice (some ⟨B, 0, none⟩) N N) ∧ wr.drew.cell? ⟨B, i, none⟩ = some (.slice (some ⟨g, 0, none⟩) m cM) ∧ wr.drew.cell? ⟨g, j * 3, none⟩ = some (.int .i64 rk) ∧ wr.drew.cell? ⟨g, j * 3 + 1, none⟩ = some (.bool rh) ∧ wr.drew.cell? ⟨g, j * 3 + 2, none⟩ = some (.int .i64 rv)) := Lib.hid ⟨p0, p2, b0, e0, e1, e2⟩
      clear ht hlen hdr hd hp hr hr1 hr2 hvm e0 e1 e2 HX HD
      go_wp2_with fail
      have hS0 := S0.out
      refine wp_region_G (fun W => W.cell? ⟨P, 0, none⟩ = some vL ∧ W.cell? ⟨P, 2, none⟩ = some (.slice (some ⟨B, 0, none⟩) N N) ∧ W.cell? ⟨B, i, none⟩ = some (.slice (some ⟨g, 0, none⟩) m cM) ∧ W.cell? ⟨g, j * 3, none⟩ = some (.int .i64 rk) ∧ W.cell? ⟨g, j * 3 + 1, none⟩ = some (.bool rh) ∧ W.cell? ⟨g, j * 3 + 2, none⟩ = some (.int .i64 rv)) 18 (by kernel_rfl) ?_
      refine GoG.take (i := 0) (v := .pointer (some ⟨P, 0, none⟩)) (by kernel_rfl) (by kernel_rfl) (by decide) (by kernel_rfl) (by kernel_rfl) (by kernel_rfl) (by decide) rfl (fun _ _ _ h => h) (Or.inl ⟨by rfl, ?_⟩) hS0 ?_
      · (intro w hSw; (try dsimp only at hSw); go_simp; try with_reducible rfl)
      try simp only [Act.put, List.getElem_toArray, List.getElem_cons_succ, List.getElem_cons_zero, List.setIfInBounds_toArray, List.set_cons_zero, List.set_cons_succ]
      refine GoG.take (i := 1) (v := .pointer (some ⟨P, 0, none⟩)) (by kernel_rfl) (by kernel_rfl) (by decide) (by kernel_rfl) (by kernel_rfl) (by kernel_rfl) (by decide) rfl (fun _ _ _ h => h) (Or.inl ⟨by rfl, ?_⟩) hS0 ?_
      · (intro w hSw; (try dsimp only at hSw); go_simp; try with_reducible rfl)
      try simp only [Act.put, List.getElem_toArray, List.getElem_cons_succ, List.getElem_cons_zero, List.setIfInBounds_toArray, List.set_cons_zero, List.set_cons_succ]
      refine GoG.take (i := 2) (v := .pointer (some ⟨P, 0, none⟩)) (by kernel_rfl) (by kernel_rfl) (by decide) (by kernel_rfl) (by kernel_rfl) (by kernel_rfl) (by decide) rfl (fun _ _ _ h => h) (Or.inl ⟨by rfl, ?_⟩) hS0 ?_
      · (intro w hSw; (try dsimp only at hSw); go_simp; try with_reducible rfl)
      try simp only [Act.put, List.getElem_toArray, List.getElem_cons_succ, List.getElem_cons_zero, List.setIfInBounds_toArray, List.set_cons_zero, List.set_cons_succ]
      refine GoG.take (i := 3) (v := .pointer (some ⟨P, 0, none⟩)) (by kernel_rfl) (by kernel_rfl) (by decide) (by kernel_rfl) (by kernel_rfl) (by kernel_rfl) (by decide) rfl (fun _ _ _ h => h) (Or.inl ⟨by rfl, ?_⟩) hS0 ?_
      · (intro w hSw; (try dsimp only at hSw); go_simp; try with_reducible rfl)
      try simp only [Act.put, List.getElem_toArray, List.getElem_cons_succ, List.getElem_cons_zero, List.setIfInBounds_toArray, List.set_cons_zero, List.set_cons_succ]
      refine GoG.take (i := 4) (v := vL) (by kernel_rfl) (by kernel_rfl) (by decide) (by kernel_rfl) (by kernel_rfl) (by kernel_rfl) (by decide) rfl (fun _ _ _ h => h) (Or.inl ⟨by rfl, ?_⟩) hS0 ?_
      · (intro w hSw; (try dsimp only at hSw); go_simp; try with_reducible rfl)
      try simp only [Act.put, List.getElem_toArray, List.getElem_cons_succ, List.getElem_cons_zero, List.setIfInBounds_toArray, List.set_cons_zero, List.set_cons_succ]
      refine GoG.take (i := 5) (v := .pointer (some ⟨P, 0, none⟩)) (by kernel_rfl) (by kernel_rfl) (by decide) (by kernel_rfl) (by kernel_rfl) (by kernel_rfl) (by decide) rfl (fun _ _ _ h => h) (Or.inl ⟨by rfl, ?_⟩) hS0 ?_
      · (intro w hSw; (try dsimp only at hSw); go_simp; try with_reducible rfl)
      try simp only [Act.put, List.getElem_toArray, List.getElem_cons_succ, List.getElem_cons_zero, List.setIfInBounds_toArray, List.set_cons_zero, List.set_cons_succ]
      refine GoG.take (i := 6) (v := .pointer (some ⟨P, 0, none⟩)) (by kernel_rfl) (by kernel_rfl) (by decide) (by kernel_rfl) (by kernel_rfl) (by kernel_rfl) (by decide) rfl (fun _ _ _ h => h) (Or.inl ⟨by rfl, ?_⟩) hS0 ?_
      · (intro w hSw; (try dsimp only at hSw); go_simp; try with_reducible rfl)
      try simp only [Act.put, List.getElem_toArray, List.getElem_cons_succ, List.getElem_cons_zero, List.setIfInBounds_toArray, List.set_cons_zero, List.set_cons_succ]
      refine GoG.take (i := 7) (v := .pointer (some ⟨P, 2, none⟩)) (by kernel_rfl) (by kernel_rfl) (by decide) (by kernel_rfl) (by kernel_rfl) (by kernel_rfl) (by decide) rfl (fun _ _ _ h => h) (Or.inl ⟨by rfl, ?_⟩) hS0 ?_
      · (intro w hSw; (try dsimp only at hSw); go_simp; try with_reducible rfl)
      try simp only [Act.put, List.getElem_toArray, List.getElem_cons_succ, List.getElem_cons_zero, List.setIfInBounds_toArray, List.set_cons_zero, List.set_cons_succ]
      refine GoG.take (i := 8) (v := .slice (some ⟨B, 0, none⟩) N N) (by kernel_rfl) (by kernel_rfl) (by decide) (by kernel_rfl) (by kernel_rfl) (by kernel_rfl) (by decide) rfl (fun _ _ _ h => h) (Or.inl ⟨by rfl, ?_⟩) hS0 ?_
      · (intro w hSw; (try dsimp only at hSw); go_simp; try with_reducible rfl)
      try simp only [Act.put, List.getElem_toArray, List.getElem_cons_succ, List.getElem_cons_zero, List.setIfInBounds_toArray, List.set_cons_zero, List.set_cons_succ]
      refine GoG.take (i := 9) (v := .int .i64 i) (by kernel_rfl) (by kernel_rfl) (by decide) (by kernel_rfl) (by kernel_rfl) (by kernel_rfl) (by decide) rfl (fun _ _ _ h => h) (Or.inl ⟨by rfl, ?_⟩) hS0 ?_
      · (intro w hSw; (try dsimp only at hSw); go_simp; try with_reducible rfl)
      try simp only [Act.put, List.getElem_toArray, List.getElem_cons_succ, List.getElem_cons_zero, List.setIfInBounds_toArray, List.set_cons_zero, List.set_cons_succ]
      refine GoG.take (i := 10) (v := .pointer (some ⟨B, i, none⟩)) (by kernel_rfl) (by kernel_rfl) (by decide) (by kernel_rfl) (by kernel_rfl) (by kernel_rfl) (by decide) rfl (fun _ _ _ h => h) (Or.inl ⟨by rfl, ?_⟩) hS0 ?_
      · (intro w hSw; (try dsimp only at hSw); go_simp; try with_reducible rfl)
      try simp only [Act.put, List.getElem_toArray, List.getElem_cons_succ, List.getElem_cons_zero, List.setIfInBounds_toArray, List.set_cons_zero, List.set_cons_succ]
      refine GoG.take (i := 11) (v := .slice (some ⟨g, 0, none⟩) m cM) (by kernel_rfl) (by kernel_rfl) (by decide) (by kernel_rfl) (by kernel_rfl) (by kernel_rfl) (by decide) rfl (fun _ _ _ h => h) (Or.inl ⟨by rfl, ?_⟩) hS0 ?_
      · (intro w hSw; (try dsimp only at hSw); go_simp; try with_reducible rfl)
      try simp only [Act.put, List.getElem_toArray, List.getElem_cons_succ, List.getElem_cons_zero, List.setIfInBounds_toArray, List.set_cons_zero, List.set_cons_succ]
      refine GoG.take (i := 12) (v := .int .i64 j) (by kernel_rfl) (by kernel_rfl) (by decide) (by kernel_rfl) (by kernel_rfl) (by kernel_rfl) (by decide) rfl (fun _ _ _ h => h) (Or.inl ⟨by rfl, ?_⟩) hS0 ?_
      · (intro w hSw; (try dsimp only at hSw); go_simp; try with_reducible rfl)
      try simp only [Act.put, List.getElem_toArray, List.getElem_cons_succ, List.getElem_cons_zero, List.setIfInBounds_toArray, List.set_cons_zero, List.set_cons_succ]
      refine GoG.take (i := 13) (v := .pointer (some ⟨g, j * 3, none⟩)) (by kernel_rfl) (by kernel_rfl) (by decide) (by kernel_rfl) (by kernel_rfl) (by kernel_rfl) (by decide) rfl (fun _ _ _ h => h) (Or.inl ⟨by rfl, ?_⟩) hS0 ?_
      · (intro w hSw; (try dsimp only at hSw); go_simp; try with_reducible rfl)
      try simp only [Act.put, List.getElem_toArray, List.getElem_cons_succ, List.getElem_cons_zero, List.setIfInBounds_toArray, List.set_cons_zero, List.set_cons_succ]
      refine GoG.take (i := 14) (v := .agg #[.int .i64 rk, .bool rh, .int .i64 rv]) (by kernel_rfl) (by kernel_rfl) (by decide) (by kernel_rfl) (by kernel_rfl) (by kernel_rfl) (by decide) rfl (fun _ _ _ h => h) (Or.inl ⟨by rfl, ?_⟩) hS0 ?_
      · (intro w hSw; (try dsimp only at hSw); go_simp; try with_reducible rfl)
      try simp only [Act.put, List.getElem_toArray, List.getElem_cons_succ, List.getElem_cons_zero, List.setIfInBounds_toArray, List.set_cons_zero, List.set_cons_succ]
      clear hS0
      refine GoG.step1 (i := 15) (by kernel_rfl) (by decide) rfl (fun Kx hK => ?_)
      try simp only [List.getElem_toArray, List.getElem_cons_succ, List.getElem_cons_zero]
      go_simp
      go_at_call 91
      refine HC.out.mono ?_
      rintro e w2 ⟨g3, n3, c3, rfl, ⟨f1, f2⟩, s2, hend⟩
      refine hK.out _ _ s2 ?_
      clear hK
      try simp only [Act.put, List.getElem_toArray, List.getElem_cons_succ, List.getElem_cons_zero, List.setIfInBounds_toArray, List.set_cons_zero, List.set_cons_succ]
      refine GoG.take (i := 16) (v := .pointer (some ⟨P, 0, none⟩)) (by kernel_rfl) (by kernel_rfl) (by decide) (by kernel_rfl) (by kernel_rfl) (by kernel_rfl) (by decide) rfl (fun _ _ _ h => h) (Or.inl ⟨by rfl, ?_⟩) s2 ?_
      · (intro w hSw; (try dsimp only at hSw); go_simp; try with_reducible rfl)
      try simp only [Act.put, List.getElem_toArray, List.getElem_cons_succ, List.getElem_cons_zero, List.setIfInBounds_toArray, List.set_cons_zero, List.set_cons_succ]
      refine GoG.take (i := 17) (v := .pointer (some ⟨P, 0, none⟩)) (by kernel_rfl) (by kernel_rfl) (by decide) (by kernel_rfl) (by kernel_rfl) (by kernel_rfl) (by decide) rfl (fun _ _ _ h => h) (Or.inl ⟨by rfl, ?_⟩) s2 ?_
      · (intro w hSw; (try dsimp only at hSw); go_simp; try with_reducible rfl)
      try simp only [Act.put, List.getElem_toArray, List.getElem_cons_succ, List.getElem_cons_zero, List.setIfInBounds_toArray, List.set_cons_zero, List.set_cons_succ]
      refine GoG.last (by kernel_rfl) (by kernel_rfl) rfl (fun Kx hK => ?_)
      try simp only [List.getElem_toArray, List.getElem_cons_succ, List.getElem_cons_zero]
      go_simp
      refine hK.out _ _ ?_
      clear hK
      try simp only [Act.put, List.getElem_toArray, List.getElem_cons_succ, List.getElem_cons_zero, List.setIfInBounds_toArray, List.set_cons_zero, List.set_cons_succ]
      have HEND := Lib.hid hend
      clear hend s2 f1 f2 HC S0
      go_wp2_with fail
      go_roundw
      case rel =>
        obtain ⟨K2, z1, z2⟩ := HEND.out
        exact ⟨j + 1, K2, by go_num, by omega, Lib.hid z1, Lib.hid z2⟩
      case measure => simp [intOf]; omega
    · obtain rfl : j = m := by omega
      obtain ⟨a0, a1⟩ := hd.cellA hi
      have hk := hd.setA i false
      have hx := HX.out.trans (ext_set (hd.k4 A (.inr (.inl rfl))) i (.bool false))
      rw [List.take_of_length_le (by rw [← HMM.out]; omega)] at hk
      have HK := Lib.hid hk
      have HE := Lib.hid hx
      clear hk hx hd hp hvm HX HD
      go_wp2_with fail
      go_ret
      exact ⟨rfl, Kj, ⟨_, _, _, _, _, _, HK.out⟩, HE.out⟩
end
end Go.Proofs.Ytpgelebmhhcodaa
