/- Plain: rising lists; what keys and who are. -/
import Derived.Test.YtpgelebmhhcodaaLkL
namespace Go.Proofs.Ytpgelebmhhcodaa
open Go.RowKit
set_option linter.unusedVariables false

/-- two rising lists with the same numbers are one -/
theorem rise_ext : ∀ (l m : List Int), l.Pairwise (· < ·) → m.Pairwise (· < ·) → (∀ x, x ∈ l ↔ x ∈ m) → l = m
  | [], [], _, _, _ => rfl
  | [], y :: m, _, _, h => by have := (h y).2 (by simp); simp at this
  | x :: l, [], _, _, h => by have := (h x).1 (by simp); simp at this
  | x :: l, y :: m, hl, hm, h => by
    rw [List.pairwise_cons] at hl hm
    have hxy : x = y := by
      have h1 := (h x).1 (by simp)
      have h2 := (h y).2 (by simp)
      rw [List.mem_cons] at h1 h2
      rcases h1 with h1 | h1
      · exact h1
      · rcases h2 with h2 | h2
        · exact h2.symm
        · have := hm.1 x h1
          have := hl.1 y h2
          omega
    subst hxy
    rw [rise_ext l m hl.2 hm.2]
    intro z
    have := h z
    rw [List.mem_cons, List.mem_cons] at this
    constructor
    · intro hz
      rcases this.1 (.inr hz) with e | e
      · have := hl.1 z hz; omega
      · exact e
    · intro hz
      rcases this.2 (.inr hz) with e | e
      · have := hm.1 z hz; omega
      · exact e
theorem sortL_le (l : List Int) : (sortL l).Pairwise (· ≤ ·) := by
  have := List.pairwise_mergeSort (le := fun x y : Int => decide (x ≤ y)) (by intro a b c h1 h2; simp at *; omega) (by intro a b; simp; omega) l
  exact this.imp (by intro a b h; simpa using h)
theorem sortL_mem (l : List Int) (x : Int) : x ∈ sortL l ↔ x ∈ l := (List.mergeSort_perm l _).mem_iff
theorem sortL_nodup (l : List Int) (h : l.Nodup) : (sortL l).Pairwise (· < ·) := by
  have h1 := sortL_le l
  have h2 : (sortL l).Nodup := (List.mergeSort_perm l _).nodup_iff.2 h
  refine (h1.and h2).imp ?_
  rintro a b ⟨h3, h4⟩
  omega
theorem compUp (l : List Int) (hl : l.Pairwise (· ≤ ·)) : ∀ m, m ≤ l.length → (Lib.compactUpTo l.toArray m).Pairwise (· < ·) ∧ ∀ x, x ∈ Lib.compactUpTo l.toArray m ↔ ∃ j, j < m ∧ l[j]? = some x
  | 0, _ => ⟨by simp [Lib.compactUpTo], fun x => by simp [Lib.compactUpTo]⟩
  | m + 1, hm => by
    obtain ⟨h1, h2⟩ := compUp l hl m (by omega)
    rw [Lib.compactUpTo_succ]
    have hg : ∀ j, j < l.length → l.toArray[j]! = l.getD j 0 := fun j hj => by
      rw [getElem!_pos _ j (by simpa using hj)]
      simp [List.getD, List.getElem?_eq_getElem hj]
    have hd : ∀ j, j < l.length → l[j]? = some (l.getD j 0) := fun j hj => by simp [List.getD, List.getElem?_eq_getElem hj]
    have hle : ∀ i j, i < j → j < l.length → l.getD i 0 ≤ l.getD j 0 := fun i j hij hj => by
      have := List.pairwise_iff_getElem.1 hl i j (by omega) hj hij
      simpa [List.getD, List.getElem?_eq_getElem hj, List.getElem?_eq_getElem (show i < l.length by omega)] using this
    by_cases hk : Lib.keeps l.toArray m = true
    · rw [if_pos hk, hg m (by omega)]
      refine ⟨List.pairwise_append.2 ⟨h1, by simp, fun x hx y hy => ?_⟩, fun x => ?_⟩
      · rw [List.mem_singleton.1 hy]
        obtain ⟨j, hj, he⟩ := (h2 x).1 hx
        rw [hd j (by omega)] at he
        simp only [Option.some.injEq] at he
        have hne : m ≠ 0 → l.getD m 0 ≠ l.getD (m - 1) 0 := fun h0 => by
          unfold Lib.keeps at hk
          rw [hg m (by omega), hg (m - 1) (by omega)] at hk
          simpa [h0] using hk
        have a1 := hne (by omega)
        have a2 := hle (m - 1) m (by omega) (by omega)
        have a3 : l.getD j 0 ≤ l.getD (m - 1) 0 := by
          by_cases e : j = m - 1
          · rw [e]; exact Int.le_refl _
          · exact hle j (m - 1) (by omega) (by omega)
        omega
      · rw [List.mem_append, h2, List.mem_singleton]
        constructor
        · rintro (⟨j, hj, e⟩ | rfl)
          · exact ⟨j, by omega, e⟩
          · exact ⟨m, by omega, hd m (by omega)⟩
        · rintro ⟨j, hj, e⟩
          by_cases e2 : j = m
          · right
            rw [e2, hd m (by omega)] at e
            simpa using e.symm
          · exact .inl ⟨j, by omega, e⟩
    · rw [if_neg hk, List.append_nil]
      refine ⟨h1, fun x => ?_⟩
      rw [h2]
      constructor
      · rintro ⟨j, hj, e⟩
        exact ⟨j, by omega, e⟩
      · rintro ⟨j, hj, e⟩
        by_cases e2 : j = m
        · subst e2
          have hk2 : j ≠ 0 ∧ l.getD j 0 = l.getD (j - 1) 0 := by
            unfold Lib.keeps at hk
            simp only [decide_eq_true_eq, not_or, Decidable.not_not] at hk
            refine ⟨hk.1, ?_⟩
            rw [← hg j (by omega), ← hg (j - 1) (by omega)]
            exact hk.2
          refine ⟨j - 1, by omega, ?_⟩
          rw [hd (j - 1) (by omega), ← hk2.2, ← hd j (by omega), e]
        · exact ⟨j, by omega, e⟩
theorem compact_rise (l : List Int) (hl : l.Pairwise (· ≤ ·)) : (Lib.compact l).Pairwise (· < ·) ∧ ∀ x, x ∈ Lib.compact l ↔ x ∈ l := by
  obtain ⟨h1, h2⟩ := compUp l hl l.length (Nat.le_refl _)
  refine ⟨h1, fun x => ?_⟩
  unfold Lib.compact
  rw [h2, List.mem_iff_getElem?]
  constructor
  · rintro ⟨j, _, e⟩; exact ⟨j, e⟩
  · rintro ⟨j, e⟩; exact ⟨j, (List.getElem?_eq_some_iff.1 e).1, e⟩
/-- keys rise, and are those of the holds -/
theorem keysT_rise (p : HoldD → Bool) (T : List HoldD) : (keysT p T).Pairwise (· < ·) := (compact_rise _ (sortL_le _)).1
theorem keysT_mem (p : HoldD → Bool) (T : List HoldD) (x : Int) : x ∈ keysT p T ↔ ∃ h ∈ T, p h = true ∧ h.key = x := by
  unfold keysT
  rw [(compact_rise _ (sortL_le _)).2, sortL_mem]
  unfold keyL
  simp only [List.mem_map, List.mem_filter]
  constructor
  · rintro ⟨h, ⟨h1, h2⟩, h3⟩; exact ⟨h, h1, h2, h3⟩
  · rintro ⟨h, h1, h2, h3⟩; exact ⟨h, ⟨h1, h2⟩, h3⟩
theorem keysT_eq {p q : HoldD → Bool} {T U : List HoldD} (h : ∀ x, (∃ h ∈ T, p h = true ∧ h.key = x) ↔ ∃ h ∈ U, q h = true ∧ h.key = x) : keysT p T = keysT q U :=
  rise_ext _ _ (keysT_rise _ _) (keysT_rise _ _) fun x => by rw [keysT_mem, keysT_mem]; exact h x

/-- nobody holds a key twice -/
def OneH (T : List HoldD) : Prop := T.Pairwise fun a b => ¬ (a.s = b.s ∧ a.key = b.key)
theorem idxG_mem (s key : Int) : ∀ (T : List HoldD) (k : Nat), (idxG s key T k = -1 ∧ ∀ h ∈ T, ¬ (h.s = s ∧ h.key = key)) ∨ ∃ j h, idxG s key T k = ((k + j : Nat) : Int) ∧ T[j]? = some h ∧ h.s = s ∧ h.key = key
  | [], k => .inl ⟨rfl, fun h hm => by simp at hm⟩
  | h :: T, k => by
    rw [idxG]
    by_cases hh : hereT s key h = true
    · rw [if_pos hh]
      unfold hereT at hh
      simp only [Bool.and_eq_true, beq_iff_eq] at hh
      exact .inr ⟨0, h, by simp, by simp, hh.1, hh.2⟩
    · rw [if_neg hh]
      rcases idxG_mem s key T (k + 1) with ⟨e, f⟩ | ⟨j, x, e, f⟩
      · refine .inl ⟨e, fun x hx => ?_⟩
        rcases List.mem_cons.1 hx with rfl | hx
        · intro hc; apply hh; unfold hereT; simp [hc.1, hc.2]
        · exact f x hx
      · exact .inr ⟨j + 1, x, by rw [e]; omega, by simpa using f⟩
theorem setM_len (T : List HoldD) (k : Nat) (m : Int) : (setM T k m).length = T.length := by unfold setM; simp
theorem setM_eq {T : List HoldD} {k : Nat} {r : HoldD} (h : T[k]? = some r) (m : Int) : setM T k m = T.set k ⟨r.s, r.key, m⟩ := by
  unfold setM
  rw [List.getD_eq_getElem?_getD, h]
  rfl
theorem setM_same {T : List HoldD} {k : Nat} {r : HoldD} (h : T[k]? = some r) : setM T k r.mode = T := by
  rw [setM_eq h]
  obtain ⟨h1, h2⟩ := List.getElem?_eq_some_iff.1 h
  subst h2
  exact List.set_getElem_self h1
end Go.Proofs.Ytpgelebmhhcodaa
