/- Contracts over ints: slices.Clone, Index, Contains; IndexFunc, DeleteFunc over the closure of Wait. -/
import Derived.Test.YtpgelebmhhcodaaLrS
import Derived.Test.YtpgelebmhhcodaaMp
namespace Go.Proofs.Ytpgelebmhhcodaa
open Go.RowKit
set_option linter.unusedVariables false

set_option maxRecDepth 20000 in
theorem cloneInts {v : Value} {l : List Int} {w : World} (hv : Ns .i64 w v l) (hl : l.length ≤ 100000) :
    Calls Try.prog 71 #[v] w fun e w' => ∃ o c, e = .returned (.slice o l.length c) ∧ Below w.heap.size w w' ∧ Oi w.heap.size w' (.slice o l.length c) l := by
  have hv' := hv
  obtain ⟨hl1, o, c, rfl, hlc, hcm, hon, hcell⟩ := hv
  unfold maxLen at hcm
  cases o with
  | none =>
    have hm : l = [] := Classical.byContradiction fun hne => by obtain ⟨a, ha, _⟩ := hcell hne; cases ha
    subst hm
    have hc0 := hon rfl
    subst hc0
    have h0 := fun w => @Lib.run_eql_slice_nil Try.prog w 34 3 none 0 0 0 0 Try.underlying34
    simp only [List.length_nil]
    go_enter Try.func71, Try.ntmps71
    go_wp2
    go_ret
    exact ⟨_, _, rfl, Below.refl _ _, Oi.nil⟩
  | some a =>
    have h0 := fun w => @Lib.run_eql_slice_nil Try.prog w 34 3 (some a) l.length c 0 0 Try.underlying34
    have hb1 : Below w.heap.size w (w.alloc (.cells #[] 3)) := (Below.refl _ _).alloc (Nat.le_refl _) _
    have hmade := Oi.made (base := w.heap.size) (w := w) #[] 0 (Nat.le_refl _) (by simp [maxLen]) rfl
    by_cases hne : l = []
    · subst hne
      have hr := ints_append0 (w.alloc (.cells #[] 3)) w.heap.size 0 0 (Nat.le_refl _) (some a) c 34
      have HM := Lib.hid hmade
      have HB := Lib.hid hb1
      simp only [List.length_nil] at h0 ⊢
      clear hv' hcell hon hmade hb1
      go_enter Try.func71, Try.ntmps71
      go_wp2_with (at_builtin; refine Lib.wpList_append_run _ rfl _ _ _ _ rfl _ _ rfl rfl _ _ hr ?_)
      go_ret
      exact ⟨_, _, rfl, HB.out, HM.out⟩
    · obtain ⟨gb, cap, w', hr, h1, h2, _, _, hca, _⟩ := hmade.append _ l (hv'.below hb1) (by simp) (by simp; omega) hne 34
      rw [List.length_nil, Nat.zero_add] at hr h1
      rw [List.nil_append] at h1
      have hb2 : Below w.heap.size w w' := hmade.grown h2 hb1 (Nat.le_refl _) (by simp)
      have H1 := Lib.hid h1
      have HB := Lib.hid hb2
      clear hv' hcell hon hmade h2 hca h1 hb2 hb1
      go_enter Try.func71, Try.ntmps71
      go_wp2_with (at_builtin; refine Lib.wpList_append_run _ rfl _ _ _ _ rfl _ _ rfl rfl _ _ hr ?_)
      go_ret
      exact ⟨_, _, rfl, HB.out, H1.out⟩

/-- where a number stands; -1: nowhere -/
def idxI (x : Int) : List Int → Nat → Int
  | [], _ => -1
  | y :: l, k => if x = y then (k : Int) else idxI x l (k + 1)
theorem idxI_mem (x : Int) : ∀ (l : List Int) (k : Nat), (0 ≤ idxI x l k ↔ x ∈ l)
  | [], k => by simp [idxI]
  | y :: l, k => by
    rw [idxI]
    split
    · rename_i e; subst e; simp
    · rename_i e
      rw [idxI_mem x l (k + 1), List.mem_cons]
      constructor
      · exact .inr
      · rintro (h | h)
        · exact absurd h e
        · exact h
set_option maxRecDepth 20000 in
theorem indexInts {v : Value} {l : List Int} {w : World} (hv : Ns .i64 w v l) (x : Int) :
    Calls Try.prog 95 #[v, .int .i64 x] w fun e w' => e = .returned (.int .i64 (idxI x l 0)) ∧ w = w' := by
  obtain ⟨hwf, o, cap, rfl, h1, h2, h3, h4⟩ := hv
  have hcl := fun k hk => Ns.at_ hwf h4 (k := k) hk
  have HCL := Lib.hid hcl
  unfold maxLen at h2
  obtain ⟨n, hn⟩ : ∃ n, n = l.length := ⟨_, rfl⟩
  rw [← hn] at h1
  rw [← hn]
  have HN := Lib.hid hn
  obtain ⟨R, hR⟩ : ∃ R, R = idxI x l 0 := ⟨_, rfl⟩
  rw [← hR]
  have HR : Hid (R = idxI x (l.drop 0) 0) := Lib.hid (by rw [List.drop_zero]; exact hR)
  clear hwf h3 h4 hcl hn hR
  go_enter Try.func95, Try.ntmps95
  go_wp2_with fail
  go_loop [8] (fun i => ∃ k : Nat, i = .int .i64 k ∧ k ≤ n ∧ Hid (R = idxI x (l.drop k) k)) (fun i => n - (intOf i).toNat)
  case atStart => exact ⟨0, rfl, by omega, HR⟩
  case round =>
    obtain ⟨k, rfl, hk, HRR⟩ := hrel
    clear HR
    by_cases hkn : (k : Int) < n
    · obtain ⟨a, y, rfl, hc, hy, _⟩ := HCL.out k (by have := HN.out; omega)
      have hkl : k < l.length := by have := HN.out; omega
      have hdrop : l.drop k = y :: l.drop (k + 1) := by
        rw [List.drop_eq_getElem_cons hkl, ← getD_lt (d := 0) hkl, hy.out]
      rw [hdrop] at HRR
      clear hdrop hy
      by_cases e : x = y
      · have HX : Hid (R = (k : Int)) := Lib.hid (by rw [HRR.out, idxI, if_pos e])
        subst e
        clear HRR
        go_wp2_with fail
        go_ret
        exact ⟨by rw [HX.out]; rfl, rfl⟩
      · have HX : Hid (R = idxI x (l.drop (k + 1)) (k + 1)) := Lib.hid (by rw [HRR.out, idxI, if_neg e])
        have eb : (x == y) = false := by simp [e]
        clear HRR
        go_wp2_with fail
        go_round
        case rel => exact ⟨k + 1, by go_num, by omega, HX⟩
        case measure => simp [intOf]; omega
    · have HX : Hid (R = -1) := Lib.hid (by rw [HRR.out, List.drop_eq_nil_of_le (by have := HN.out; omega)]; rfl)
      go_wp2_with fail
      go_ret
      exact ⟨by rw [HX.out]; rfl, rfl⟩
theorem containsInts {v : Value} {l : List Int} {w : World} (hv : Ns .i64 w v l) (x : Int) :
    Calls Try.prog 74 #[v, .int .i64 x] w fun e w' => e = .returned (.bool (decide (x ∈ l))) ∧ w = w' := by
  have hi := indexInts hv x
  have hm := idxI_mem x l 0
  have e : decide (x ∈ l) = decide (0 ≤ idxI x l 0) := by
    by_cases h : x ∈ l
    · simp [h, hm.2 h]
    · have : ¬ 0 ≤ idxI x l 0 := fun h2 => h (hm.1 h2)
      simp [h, this]
  rw [e]
  generalize idxI x l 0 = R at hi
  obtain ⟨_, o, cap, rfl, _⟩ := hv
  have HI := Lib.hid hi
  clear hi hm e
  go_enter Try.func74, Try.ntmps74
  go_wp2_with fail
  refine HI.out.mono ?_
  rintro e w' ⟨rfl, rfl⟩
  go_wp2_with fail
  go_ret
  exact ⟨rfl, rfl⟩

theorem waitHere (x s : Int) (p : Addr) (w : World) (c : w.cell? p = some (.int .i64 s)) :
    Calls Try.prog 72 #[.int .i64 x, .pointer (some p)] w fun e w' => e = .returned (.bool (x == s)) ∧ w = w' := by
  go_enter Try.func72, Try.ntmps72
  go_wp2_with fail
  go_ret
  exact ⟨rfl, rfl⟩

def delI (l : List Int) (s : Int) : List Int := l.filter fun x => !(x == s)
theorem delI_mem (l : List Int) (s x : Int) : x ∈ delI l s ↔ x ∈ l ∧ x ≠ s := by unfold delI; rw [List.mem_filter]; simp
theorem delI_len (l : List Int) (s : Int) : (delI l s).length ≤ l.length := List.length_filter_le _ _
theorem delI_step (l : List Int) (s : Int) (j : Nat) (x : Int) (hx : l[j]? = some x) : delI (l.take (j + 1)) s = delI (l.take j) s ++ (if (x == s) = true then [] else [x]) := by
  unfold delI
  rw [List.take_add_one, hx, Option.toList_some, List.filter_append]
  congr 1
  rw [List.filter_cons]
  cases (x == s) <;> simp
theorem idxI_spec (s : Int) : ∀ (l : List Int) (k : Nat), (idxI s l k = -1 ∧ delI l s = l) ∨ ∃ j, j < l.length ∧ idxI s l k = ((k + j : Nat) : Int) ∧ delI (l.take j) s = l.take j ∧ delI (l.take (j + 1)) s = l.take j
  | [], k => .inl ⟨rfl, rfl⟩
  | x :: l, k => by
    rw [idxI]
    by_cases hs : s = x
    · rw [if_pos hs]
      right
      exact ⟨0, by simp, by simp, by simp [delI], by simp [delI, hs]⟩
    · rw [if_neg hs]
      have hs2 : (x == s) = false := by simpa using Ne.symm hs
      rcases idxI_spec s l (k + 1) with ⟨e, f⟩ | ⟨j, hj, e, f1, f2⟩
      · left
        refine ⟨e, ?_⟩
        unfold delI at *
        rw [List.filter_cons, hs2, f]; rfl
      · right
        refine ⟨j + 1, by rw [List.length_cons]; omega, by rw [e]; omega, ?_, ?_⟩
        · unfold delI at *
          rw [List.take_succ_cons, List.filter_cons, hs2, f1]; rfl
        · unfold delI at *
          rw [List.take_succ_cons, List.filter_cons, hs2, f2, List.take_succ_cons]; rfl
set_option maxRecDepth 20000 in
theorem indexWait {v : Value} {l : List Int} {w : World} (hv : Ns .i64 w v l) (s : Int) (p : Addr) (c3 : w.cell? p = some (.int .i64 s)) :
    Calls Try.prog 94 #[v, .func (.func 72) #[] #[.pointer (some p)]] w fun e w' => e = .returned (.int .i64 (idxI s l 0)) ∧ w = w' := by
  obtain ⟨hwf, o, cap, rfl, h1, h2, h3, h4⟩ := hv
  have hcl := fun k hk => Ns.at_ hwf h4 (k := k) hk
  have HCL := Lib.hid hcl
  have HC3 := Lib.hid c3
  unfold maxLen at h2
  obtain ⟨n, hn⟩ : ∃ n, n = l.length := ⟨_, rfl⟩
  rw [← hn] at h1
  rw [← hn]
  have HN := Lib.hid hn
  obtain ⟨R, hR⟩ : ∃ R, R = idxI s l 0 := ⟨_, rfl⟩
  rw [← hR]
  have HR : Hid (R = idxI s (l.drop 0) 0) := Lib.hid (by rw [List.drop_zero]; exact hR)
  clear hwf h3 h4 hcl hn hR c3
  go_enter Try.func94, Try.ntmps94
  go_wp2_with fail
  go_loopw [8] (fun i wr => ∃ k : Nat, i = .int .i64 k ∧ k ≤ n ∧ w = wr ∧ Hid (R = idxI s (l.drop k) k)) (fun i _ => n - (intOf i).toNat)
  case atStart => exact ⟨0, rfl, by omega, rfl, HR⟩
  case round =>
    obtain ⟨k, rfl, hk, rfl, HRR⟩ := hrel
    clear HR
    by_cases hkn : (k : Int) < n
    · obtain ⟨a, y, rfl, hc, hy, _⟩ := HCL.out k (by have := HN.out; omega)
      have hkl : k < l.length := by have := HN.out; omega
      have hdrop : l.drop k = y :: l.drop (k + 1) := by
        rw [List.drop_eq_getElem_cons hkl, ← getD_lt (d := 0) hkl, hy.out]
      rw [hdrop] at HRR
      have HW := Lib.hid (waitHere y s p w HC3.out)
      clear hdrop hy
      by_cases e : s = y
      · have HX : Hid (R = (k : Int)) := Lib.hid (by rw [HRR.out, idxI, if_pos e])
        rw [show (y == s) = true from by simp [e]] at HW
        clear HRR e
        go_wp2_with fail
        refine HW.out.mono ?_
        rintro e w2 ⟨rfl, rfl⟩
        go_wp2_with fail
        go_ret
        exact ⟨by rw [HX.out]; rfl, rfl⟩
      · have HX : Hid (R = idxI s (l.drop (k + 1)) (k + 1)) := Lib.hid (by rw [HRR.out, idxI, if_neg e])
        rw [show (y == s) = false from by simpa using Ne.symm e] at HW
        clear HRR e
        go_wp2_with fail
        refine HW.out.mono ?_
        rintro e w2 ⟨rfl, rfl⟩
        go_wp2_with fail
        go_roundw
        case rel => exact ⟨k + 1, by go_num, by omega, trivial, HX⟩
        case measure => simp [intOf]; omega
    · have HX : Hid (R = -1) := Lib.hid (by rw [HRR.out, List.drop_eq_nil_of_le (by have := HN.out; omega)]; rfl)
      go_wp2_with fail
      go_ret
      exact ⟨by rw [HX.out]; rfl, rfl⟩
end Go.Proofs.Ytpgelebmhhcodaa
