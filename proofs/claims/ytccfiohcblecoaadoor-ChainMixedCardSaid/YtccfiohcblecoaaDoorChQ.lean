/- Plain laws: what a chain is where changes were put one on the other and taken off. No program. -/
import Derived.Test.YtccfiohcblecoaaDoorChP
namespace Go.Proofs.YtccfiohcblecoaaDoor
open Go.RowKit
set_option linter.unusedVariables false

/-- changes, the last one first: each goes on to the next -/
def Stk (R : List RecD) : List Int → Prop
  | [] => True
  | k :: ks => (0 < k ∧ k ≤ R.length ∧ ∃ r, recAtN 0 R k = some r ∧ r.kind = 2 ∧ r.prev < k ∧ norm 0 R r.prev = (ks.headD 0, none)) ∧ Stk R ks
theorem Stk.more {R M : List RecD} : ∀ {st : List Int}, Stk R st → Stk (R ++ M) st
  | [], _ => trivial
  | k :: ks, ⟨⟨h0, h1, r, hr, h2, h3, h4⟩, hs⟩ =>
    ⟨⟨h0, by simp; omega, r, by rw [recAtN_append (by omega)]; exact hr, h2, h3, by rw [norm_append (Int.le_refl _) _ _ (Nat.lt_succ_self _) (by omega)]; exact h4⟩, Stk.more hs⟩
theorem Stk.head {R : List RecD} {st : List Int} (h : Stk R st) : norm 0 R (st.headD 0) = (st.headD 0, none) := by
  cases st with
  | nil => exact norm_zero _ _
  | cons k ks =>
    obtain ⟨⟨h0, h1, r, hr, h2, h3, h4⟩, hs⟩ := h
    exact norm_set (show k ≠ 0 by omega) hr h2
theorem Stk.chain {R : List RecD} : ∀ {st : List Int} (out : List Int) (next : Int), Stk R st → norm 0 R next = (st.headD 0, none) → Go.Proofs.YtccfiohcblecoaaDoor.chain 0 R out next = (out ++ st, none)
  | [], out, next, _, hn => by rw [chain_end hn, List.append_nil]
  | k :: ks, out, next, ⟨⟨h0, h1, r, hr, h2, h3, h4⟩, hs⟩, hn => by
    have hp : prevN 0 R k = r.prev := by unfold prevN; rw [hr]; rfl
    rw [chain_on (Int.le_refl _) hn (by simp; omega) (by simp only [List.headD_cons]; rw [hp]; exact h3), List.headD_cons, hp, Stk.chain (out ++ [k]) r.prev hs h4, List.append_assoc]
    rfl
theorem recAtN_last (R : List RecD) (r : RecD) : recAtN 0 (R ++ [r]) ((R.length : Int) + 1) = some r := by
  unfold recAtN
  rw [if_pos (by simp)]
  have e : ((R.length : Int) + 1 - 0 - 1).toNat = R.length := by omega
  rw [e]
  simp
/-- one change more -/
theorem Stk.push {R : List RecD} {st : List Int} (h : Stk R st) (hl : norm 0 R R.length = (st.headD 0, none)) (r : RecD) (hk : r.kind = 2) (hp : r.prev = R.length) :
    Stk (R ++ [r]) (((R.length : Int) + 1) :: st) ∧ norm 0 (R ++ [r]) (R ++ [r]).length = ((R.length : Int) + 1, none) := by
  have hr := recAtN_last R r
  refine ⟨⟨⟨by omega, by simp, r, hr, hk, by omega, ?_⟩, h.more⟩, ?_⟩
  · rw [hp, norm_append (Int.le_refl _) _ _ (Nat.lt_succ_self _) (by omega)]; exact hl
  · have e : ((R ++ [r]).length : Int) = (R.length : Int) + 1 := by simp
    rw [e]
    exact norm_set (by omega) hr hk
/-- the last one undone -/
theorem Stk.pop {R : List RecD} {k : Int} {st : List Int} (h : Stk R (k :: st)) (r : RecD) (hk : r.kind = 3) (hp : r.next = st.headD 0) :
    Stk (R ++ [r]) st ∧ norm 0 (R ++ [r]) (R ++ [r]).length = (st.headD 0, none) := by
  have hr := recAtN_last R r
  refine ⟨h.2.more, ?_⟩
  have e : ((R ++ [r]).length : Int) = (R.length : Int) + 1 := by simp
  have hon : onOf r = st.headD 0 := by unfold onOf; rw [if_pos hk, hp]
  have hle : st.headD 0 ≤ R.length := by
    cases st with
    | nil => simp
    | cons q qs => obtain ⟨_, ⟨_, h1, _⟩, _⟩ := h; simpa using h1
  rw [e, norm_on (Int.le_refl _) (by omega) hr (.inl hk) (by omega), hon]
  exact (Stk.more (M := [r]) h.2).head
end Go.Proofs.YtccfiohcblecoaaDoor
