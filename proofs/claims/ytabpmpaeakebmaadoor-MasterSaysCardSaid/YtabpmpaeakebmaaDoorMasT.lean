/- Plain laws on a master's bytes with one byte turned. -/
import Derived.Test.YtabpmpaeakebmaaDoorMasP
namespace Go.Proofs.YtabpmpaeakebmaaDoor
open Go.RowKit
set_option linter.unusedVariables false

theorem readM_turned (g : MasD) (k : Nat) (y : Int) (hk : k < 256) (hy : y ≠ (masB g).getD k 0) (h : k < 4 ∨ 32 ≤ k) : readM ((masB g).set k y) = (mas0, 106) := by
  unfold readM
  rw [if_neg (by rw [List.length_set, masB_length]; simp)]
  have hne : sameB (masB (masOf ((masB g).set k y))) ((masB g).set k y) = false := by
    rw [Bool.eq_false_iff]
    intro hs
    have e := sameB_iff.1 hs
    have e2 : (masB (masOf ((masB g).set k y))).getD k 0 = y := by
      rw [e, List.getD_eq_getElem?_getD, List.getElem?_set_self (by rw [masB_length]; exact hk)]; rfl
    rcases h with h | h
    · rw [masB_head _ _ h] at e2 hy
      exact hy e2.symm
    · rw [masB_tail _ _ h hk] at e2 hy
      exact hy e2.symm
  rw [hne, Bool.and_false]
  rfl

theorem getD_set_self (b : List Int) (k : Nat) (y : Int) (hk : k < b.length) : (b.set k y).getD k 0 = y := by
  rw [List.getD_eq_getElem?_getD, List.getElem?_set_self hk]; rfl

theorem readM_other (g : MasD) (k : Nat) (y : Int) (hk : k < 256) (hy : y ≠ (masB g).getD k 0) (h : (readM ((masB g).set k y)).2 = 0) : (readM ((masB g).set k y)).1 ≠ g := by
  intro e
  have h1 := (readM_ok (m := g) h).1
  rw [e] at h1
  have hl := masB_length g
  have h2 := getD_set_self (masB g) k y (by omega)
  generalize masB g = b at *
  rw [h1] at h2
  exact hy h2.symm

theorem sameB_masB {a b : MasD} (ha : okM a = true) (hb : okM b = true) : sameB (masB a) (masB b) = sameMB a b := by
  unfold sameB sameMB
  by_cases e : a = b
  · subst e; rw [decide_eq_true rfl, decide_eq_true rfl]
  · rw [decide_eq_false e, decide_eq_false (fun h => e (masB_inj ha hb h))]
end Go.Proofs.YtabpmpaeakebmaaDoor
