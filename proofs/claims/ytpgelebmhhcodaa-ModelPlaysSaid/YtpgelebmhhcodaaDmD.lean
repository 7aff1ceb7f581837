/- Contracts: the document's model: New, Get. -/
import Derived.Test.YtpgelebmhhcodaaDmC
import Derived.Deep.RegionLaw
namespace Go.Proofs.Ytpgelebmhhcodaa
open Go.RowKit
set_option linter.unusedVariables false

theorem boolInfo : (Try.prog.info? 4).map (fun i => (i.zero, i.size, i.bytes)) = some (some (.bool false), 1, 1) := by kernel_rfl
theorem psInfo : (Try.prog.info? 127).map (fun i => (i.zero, i.size, i.bytes)) = some (some (.slice none 0 0), 1, 24) := by kernel_rfl
theorem isInfo : (Try.prog.info? 34).map (fun i => (i.zero, i.size, i.bytes)) = some (some (.slice none 0 0), 1, 24) := by kernel_rfl
theorem made_row (z : Value) (N : Nat) : madeCells #[z] N = rowF N fun _ => z := by
  refine Array.toList_inj.1 ?_
  rw [toList_madeCells_one]
  unfold rowF
  show List.replicate N z = (List.range N).map fun _ => z
  rw [List.map_const', List.length_range]
theorem run_make1 (t e : TypeId) (z : Value) (bytes : Nat) (hz1 : z.cells = #[z]) (ht : Try.prog.underlying t = some (.slice e)) (hi : (Try.prog.info? e).map (fun i => (i.zero, i.size, i.bytes)) = some (some z, 1, bytes)) (hb : bytes ≤ 100) (N : Nat) (hN : N ≤ 100000) (W : World) :
    (Instr.makeSlice t (.int .i64 N) (.int .i64 N)).run Try.prog W = .ok (.slice (some ⟨W.heap.size, 0, none⟩) N N) (W.alloc (.cells (rowF N fun _ => z) e)) := by
  obtain ⟨i0, hi0, hz0, hs, hby⟩ := info_parts hi
  have hm : i0.bytes * N ≤ 100 * 100000 := Nat.mul_le_mul (by omega) hN
  have hm2 : (i0.bytes : Int) * (N : Int) = ((i0.bytes * N : Nat) : Int) := by simp
  have hr := run_make (P := Try.prog) W t e i0 _ ht hi0 hz0 .i64 .i64 N N (by omega) (by omega) (by rw [hm2]; omega) (by omega)
  rw [hs, Nat.mul_one, hz1, Int.toNat_natCast, made_row] at hr
  exact hr
theorem make_on (N : Nat) (hN : N ≤ 100000) (W : World) : (Instr.makeSlice 82 (.int .i64 N) (.int .i64 N)).run Try.prog W = .ok (.slice (some ⟨W.heap.size, 0, none⟩) N N) (W.alloc (.cells (rowF N fun _ => .bool false) 4)) :=
  run_make1 _ _ _ _ rfl Try.underlying82 boolInfo (by omega) N hN W
theorem make_ps (N : Nat) (hN : N ≤ 100000) (W : World) : (Instr.makeSlice 83 (.int .i64 N) (.int .i64 N)).run Try.prog W = .ok (.slice (some ⟨W.heap.size, 0, none⟩) N N) (W.alloc (.cells (rowF N fun _ => .slice none 0 0) 127)) :=
  run_make1 _ _ _ _ rfl Try.underlying83 psInfo (by omega) N hN W
theorem make_is (N : Nat) (hN : N ≤ 100000) (W : World) : (Instr.makeSlice 84 (.int .i64 N) (.int .i64 N)).run Try.prog W = .ok (.slice (some ⟨W.heap.size, 0, none⟩) N N) (W.alloc (.cells (rowF N fun _ => .slice none 0 0) 34)) :=
  run_make1 _ _ _ _ rfl Try.underlying84 isInfo (by omega) N hN W
theorem Dx.made {w w' : World} {P A B C N : Nat} (hP : w'.heap[P]? = some (.cells #[.slice none 0 0, .slice (some ⟨A, 0, none⟩) N N, .slice (some ⟨B, 0, none⟩) N N, .slice (some ⟨C, 0, none⟩) N N] 86 (0, 0)))
    (hA : w'.heap[A]? = some (.cells (rowF N fun _ => .bool false) 4 (0, 0))) (hB : w'.heap[B]? = some (.cells (rowF N fun _ => .slice none 0 0) 127 (0, 0))) (hC : w'.heap[C]? = some (.cells (rowF N fun _ => .slice none 0 0) 34 (0, 0)))
    (hne : P ≠ A ∧ P ≠ B ∧ P ≠ C ∧ A ≠ B ∧ A ≠ C ∧ B ≠ C) (hb : w.heap.size ≤ P ∧ w.heap.size ≤ A ∧ w.heap.size ≤ B ∧ w.heap.size ≤ C) :
    Dx w' P N (fun b => w.heap.size ≤ b ∧ b < w'.heap.size) [] (fun _ => false) (fun _ => []) (fun _ => []) := by
  refine ⟨A, B, C, .slice none 0 0, fun _ => .slice none 0 0, fun _ => .slice none 0 0, hP, hA, hB, hC, En.nil, fun _ _ => Pt.nil, fun _ _ => Oi.nil, ?_, nil_own, fun _ _ => nil_own, fun _ _ => nil_own, hne, fun b h => h.2⟩
  have lt := fun {b : Nat} {c : Obj} (h : w'.heap[b]? = some c) => (Array.getElem?_eq_some_iff.1 h).1
  intro b hbb
  unfold OneOf at hbb
  rcases hbb with rfl | rfl | rfl | rfl
  · exact ⟨hb.1, lt hP⟩
  · exact ⟨hb.2.1, lt hA⟩
  · exact ⟨hb.2.2.1, lt hB⟩
  · exact ⟨hb.2.2.2, lt hC⟩
theorem four_heap (w : World) (a b c d : Obj) : ((((w.alloc a).alloc b).alloc c).alloc d).drew.heap[w.heap.size]? = some a ∧ ((((w.alloc a).alloc b).alloc c).alloc d).drew.heap[w.heap.size + 1]? = some b ∧ ((((w.alloc a).alloc b).alloc c).alloc d).drew.heap[w.heap.size + 1 + 1]? = some c ∧ ((((w.alloc a).alloc b).alloc c).alloc d).drew.heap[w.heap.size + 1 + 1 + 1]? = some d ∧ Below w.heap.size w ((((w.alloc a).alloc b).alloc c).alloc d).drew := by
  have s1 : (w.alloc a).heap.size = w.heap.size + 1 := by simp
  have s2 : ((w.alloc a).alloc b).heap.size = w.heap.size + 1 + 1 := by simp
  have s3 : (((w.alloc a).alloc b).alloc c).heap.size = w.heap.size + 1 + 1 + 1 := by simp
  have n1 := heap_alloc_new w a
  have n2 := heap_alloc_new (w.alloc a) b
  have n3 := heap_alloc_new ((w.alloc a).alloc b) c
  have n4 := heap_alloc_new (((w.alloc a).alloc b).alloc c) d
  rw [s1] at n2
  rw [s2] at n3
  rw [s3] at n4
  have al := fun (W : World) (x : Obj) (k : Nat) (hk : k < W.heap.size) => (Below.heap_alloc W x k hk)
  refine ⟨?_, ?_, ?_, n4, ((((Below.refl _ _).alloc (Nat.le_refl _) _).alloc (by omega) _).alloc (by omega) _).alloc (by omega) _ |>.drew⟩
  · exact (al _ d _ (by omega)).trans ((al _ c _ (by omega)).trans ((al _ b _ (by omega)).trans n1))
  · exact (al _ d _ (by omega)).trans ((al _ c _ (by omega)).trans n2)
  · exact (al _ d _ (by omega)).trans n3
set_option maxHeartbeats 2000000 in
theorem refNew (N : Nat) (hN : N ≤ 1000) (w : World) :
    Calls Try.prog 53 #[.int .i64 N] w fun e w' => ∃ P, e = .returned (.pointer (some ⟨P, 0, none⟩)) ∧ Dx w' P N (fun b => w.heap.size ≤ b ∧ b < w'.heap.size) [] (fun _ => false) (fun _ => []) (fun _ => []) ∧ Below w.heap.size w w' := by
  have m1 := make_on N (by omega)
  have m2 := make_ps N (by omega)
  have m3 := make_is N (by omega)
  have x1 : max (N : Int) 0 = N := by omega
  have x2 : min (N : Int) 1000 = N := by omega
  go_enter Try.func53, Try.ntmps53
  go_wp2_with fail
  go_region
  all_goals
    go_wp2_with fail
    go_ret
    exact ⟨_, rfl, Dx.made (four_heap w _ _ _ _).2.2.2.1 (by first | exact (four_heap w _ _ _ _).1 | exact (four_heap w _ _ _ _).2.1 | exact (four_heap w _ _ _ _).2.2.1) (by first | exact (four_heap w _ _ _ _).1 | exact (four_heap w _ _ _ _).2.1 | exact (four_heap w _ _ _ _).2.2.1) (by first | exact (four_heap w _ _ _ _).1 | exact (four_heap w _ _ _ _).2.1 | exact (four_heap w _ _ _ _).2.2.1) (by omega) (by omega), (four_heap w _ _ _ _).2.2.2.2⟩

/-- what parts say of a key -/
def ownOf (T : List Pc) : FM := T.foldl (fun f p => updM f p.1 (some (p.2.2, p.2.1))) (fun _ => none)
theorem ownOf_snoc (T : List Pc) (p : Pc) : ownOf (T ++ [p]) = updM (ownOf T) p.1 (some (p.2.2, p.2.1)) := by
  unfold ownOf; rw [List.foldl_append]; rfl
theorem ownOf_step {T : List Pc} {c : Nat} {p : Pc} (h : T[c]? = some p) (k : Int) : (p.1 = k → ownOf (T.take (c + 1)) k = some (p.2.2, p.2.1)) ∧ (p.1 ≠ k → ownOf (T.take (c + 1)) k = ownOf (T.take c) k) := by
  rw [List.take_add_one, h, Option.toList_some, ownOf_snoc]
  exact ⟨fun e => by rw [e]; exact updM_same _ _ _, fun e => updM_other _ _ fun e2 => e e2.symm⟩
/-- a key's value among entries -/
def lookE : List (Int × Int) → Int → Option Int
  | [], _ => none
  | p :: L, k => if p.1 = k then some p.2 else lookE L k
theorem lookE_drop {L : List (Int × Int)} {i : Nat} {p : Int × Int} (h : L[i]? = some p) (k : Int) : lookE (L.drop i) k = if p.1 = k then some p.2 else lookE (L.drop (i + 1)) k := by
  have hi := (List.getElem?_eq_some_iff.1 h).1
  have hp := (List.getElem?_eq_some_iff.1 h).2
  rw [List.drop_eq_getElem_cons hi, hp]
  rfl
def seesD (L : List (Int × Int)) (o : Option MV) (k : Int) : MV := o.getD (((lookE L k).map fun v => (v, true)).getD (0, false))
section
variable {w : World} {P N : Nat} {K : Nat → Prop} {L : List (Int × Int)} {on : Nat → Bool} {mine : Nat → List Pc} {saves : Nat → List Int}
set_option maxHeartbeats 4000000 in
theorem refGet (h : Dx w P N K L on mine saves) {s k : Int} (hs : I64L s) (hk : I64L k) (hml : ∀ i, i < N → (mine i).length ≤ 100000) :
    Calls Try.prog 56 #[.pointer (some ⟨P, 0, none⟩), .int .i64 s, .int .i64 k] w fun e w' => e = .returned (.tuple #[.int .i64 (seesD L (if onI N on s = true then ownOf (mine s.toNat) k else none) k).1, .bool (seesD L (if onI N on s = true then ownOf (mine s.toNat) k else none) k).2]) ∧ Below w.heap.size w w' := by
  have HO := Lib.hid (refOpen h hs)
  obtain ⟨A, B, C, vL, vm, vs, h⟩ := h
  have HH := Lib.hid h
  obtain ⟨oL, cL, rfl, hlc, hcm, _⟩ := h.own.form
  unfold maxLen at hcm
  obtain ⟨nL, hnL⟩ : ∃ n, n = L.length := ⟨_, rfl⟩
  rw [← hnL] at hlc HH
  have HNL := Lib.hid hnL
  obtain ⟨R, hR⟩ : ∃ R : MV, R = seesD L (if onI N on s = true then ownOf (mine s.toNat) k else none) k := ⟨_, rfl⟩
  rw [← hR]
  have HR := Lib.hid hR
  clear h hnL hR
  by_cases hon : onI N on s = true
  · obtain ⟨i, rfl, hi, hon1⟩ := onI_inv hon
    rw [hon] at HO
    rw [if_pos hon, Int.toNat_natCast] at HR
    have hln := hml i hi
    obtain ⟨oM, cM, hvm, hmc, hmm, _⟩ := (HH.out.ms i hi).form
    unfold maxLen at hmm
    obtain ⟨nM, hnM⟩ : ∃ n, n = (mine i).length := ⟨_, rfl⟩
    rw [← hnM] at hvm hmc hln
    have HNM := Lib.hid hnM
    have HVM := Lib.hid hvm
    have hi2 : (i : Int) < (N : Int) := by omega
    clear hnM hvm hon
    go_enter Try.func56, Try.ntmps56
    go_wp2_with fail
    refine HO.out.mono ?_
    clear HO
    rintro e w1 ⟨rfl, hb⟩
    have h1 := HH.out.below hb
    obtain ⟨p0, _, p2, _, _⟩ := h1.cellP
    obtain ⟨b0, _⟩ := h1.cellB hi
    rw [HVM.out] at b0
    have HB := Lib.hid hb
    have H1 := Lib.hid h1
    clear hb h1
    go_wp2_with fail
    go_loopw [8] (fun s8 wr => ∃ c : Nat, s8 = .int .i64 ((c : Int) - 1) ∧ c ≤ nM ∧ Hid (ownOf (mine i) k = ownOf ((mine i).take c) k) ∧ Hid (Below w1.heap.size w1 wr)) (fun s8 _ => (intOf s8 + 1).toNat)
    case atStart => exact ⟨nM, by go_num, by omega, Lib.hid (by rw [List.take_of_length_le (by rw [← HNM.out]; omega)]), Lib.hid (Below.refl _ _)⟩
    case round =>
      obtain ⟨c, rfl, hc, HW, HBR⟩ := hrel
      have HBW := Lib.hid (HB.out.trans (HBR.out.mono HB.out.size))
      cases c with
      | zero =>
        have HRN : Hid (R = seesD L none k) := Lib.hid (by rw [HR.out, HW.out]; rfl)
        clear HB HBR H1 HW
        go_wp2_with fail
        go_loopw [9] (fun s9 wx => ∃ j : Nat, s9 = .int .i64 j ∧ j ≤ nL ∧ Hid (lookE L k = lookE (L.drop j) k) ∧ Hid (Below w.heap.size w wx)) (fun s9 _ => nL - (intOf s9).toNat)
        case atStart => exact ⟨0, rfl, by omega, Lib.hid rfl, HBW⟩
        case round =>
          obtain ⟨j, rfl, hj, HL, HBX⟩ := hrel
          have h3 := HH.out.below HBX.out
          obtain ⟨y0, _, _, _, _⟩ := h3.cellP
          by_cases hjn : (j : Int) < nL
          · obtain ⟨g, r, rfl, hr, _, _, e0, e1⟩ := h3.own.at_ (k := j) (by rw [← HNL.out]; omega)
            have hst := lookE_drop hr k
            clear h3 hr
            obtain ⟨rk, rv⟩ := r
            dsimp only at e0 e1 hst
            by_cases hkk : rk = k
            · have b1 : (rk == k) = true := by simp [hkk]
              rw [if_pos hkk] at hst
              have HF : Hid (R = (rv, true)) := Lib.hid (by
                rw [HRN.out]
                unfold seesD
                rw [HL.out, hst]
                rfl)
              clear hst hkk
              go_wp2_with fail
              go_ret2
              exact ⟨by rw [HF.out] <;> rfl, HBX.out⟩
            · have b1 : (rk == k) = false := by simp [hkk]
              rw [if_neg hkk] at hst
              have HL2 := Lib.hid (HL.out.trans hst)
              clear hst hkk
              go_wp2_with fail
              go_roundw
              case rel => exact ⟨j + 1, by go_num, by omega, HL2, HBX⟩
              case measure => simp [intOf]; omega
          · have HF : Hid (R = (0, false)) := Lib.hid (by
              rw [HRN.out]
              unfold seesD
              rw [HL.out, List.drop_eq_nil_of_le (by rw [← HNL.out]; omega)]
              rfl)
            clear h3
            go_wp2_with fail
            go_ret2
            exact ⟨by rw [HF.out] <;> rfl, HBX.out⟩
      | succ c =>
        have h2 := HH.out.below HBW.out
        obtain ⟨y0, _, y2, _, _⟩ := h2.cellP
        obtain ⟨z0, _⟩ := h2.cellB hi
        rw [HVM.out] at z0
        have hmr := h2.ms i hi
        rw [HVM.out] at hmr
        obtain ⟨g, r, rfl, hr, _, _, e0, e1, e2⟩ := hmr.at_ (k := c) (by rw [← HNM.out]; omega)
        have hst := ownOf_step hr k
        rw [show (((c + 1 : Nat) : Int) - 1) = (c : Int) by omega]
        have hcn : (c : Int) < (nM : Int) := by omega
        clear h2 hr hmr
        obtain ⟨rk, rh, rv⟩ := r
        dsimp only at e0 e1 e2 hst
        by_cases hkk : rk = k
        · have b1 : (rk == k) = true := by simp [hkk]
          have HF : Hid (R = (rv, rh)) := Lib.hid (by
            rw [HR.out, HW.out, hst.1 hkk]; rfl)
          clear hst hkk
          go_wp2_with fail
          go_quiet (fail)
          go_wp2_with fail
          go_ret2
          exact ⟨by rw [HF.out] <;> rfl, HBW.out.trans (bdrew _ _ _)⟩
        · have b1 : (rk == k) = false := by simp [hkk]
          have HW2 := Lib.hid (HW.out.trans (hst.2 hkk))
          clear hst hkk
          go_wp2_with fail
          go_roundw
          case rel => exact ⟨c, by go_num, by omega, HW2, HBR⟩
          case measure => simp [intOf]
  · have hof : onI N on s = false := by simpa using hon
    rw [hof] at HO
    rw [if_neg hon] at HR
    have HRN := HR
    clear hon hof HR
    go_enter Try.func56, Try.ntmps56
    go_wp2_with fail
    refine HO.out.mono ?_
    clear HO
    rintro e w1 ⟨rfl, hb⟩
    have HBW := Lib.hid hb
    clear hb
    go_wp2_with fail
    go_loopw [9] (fun s9 wx => ∃ j : Nat, s9 = .int .i64 j ∧ j ≤ nL ∧ Hid (lookE L k = lookE (L.drop j) k) ∧ Hid (Below w.heap.size w wx)) (fun s9 _ => nL - (intOf s9).toNat)
    case atStart => exact ⟨0, rfl, by omega, Lib.hid rfl, HBW⟩
    case round =>
      obtain ⟨j, rfl, hj, HL, HBX⟩ := hrel
      have h3 := HH.out.below HBX.out
      obtain ⟨y0, _, _, _, _⟩ := h3.cellP
      by_cases hjn : (j : Int) < nL
      · obtain ⟨g, r, rfl, hr, _, _, e0, e1⟩ := h3.own.at_ (k := j) (by rw [← HNL.out]; omega)
        have hst := lookE_drop hr k
        clear h3 hr
        obtain ⟨rk, rv⟩ := r
        dsimp only at e0 e1 hst
        by_cases hkk : rk = k
        · have b1 : (rk == k) = true := by simp [hkk]
          rw [if_pos hkk] at hst
          have HF : Hid (R = (rv, true)) := Lib.hid (by
            rw [HRN.out]
            unfold seesD
            rw [HL.out, hst]
            rfl)
          clear hst hkk
          go_wp2_with fail
          go_ret2
          exact ⟨by rw [HF.out] <;> rfl, HBX.out⟩
        · have b1 : (rk == k) = false := by simp [hkk]
          rw [if_neg hkk] at hst
          have HL2 := Lib.hid (HL.out.trans hst)
          clear hst hkk
          go_wp2_with fail
          go_roundw
          case rel => exact ⟨j + 1, by go_num, by omega, HL2, HBX⟩
          case measure => simp [intOf]; omega
      · have HF : Hid (R = (0, false)) := Lib.hid (by
          rw [HRN.out]
          unfold seesD
          rw [HL.out, List.drop_eq_nil_of_le (by rw [← HNL.out]; omega)]
          rfl)
        clear h3
        go_wp2_with fail
        go_ret2
        exact ⟨by rw [HF.out] <;> rfl, HBX.out⟩
end
end Go.Proofs.Ytpgelebmhhcodaa
