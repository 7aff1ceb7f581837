/- Contract of slices.Clone at bytes. -/
import Derived.Test.YtoikdhfihkbcbaaDoorByteT
namespace Go.Proofs.YtoikdhfihkbcbaaDoor
open Go.RowKit
set_option linter.unusedVariables false

theorem clone (v : Value) (l : List Int) (w : World) (hv : Bs w v l) (hl : l.length ≤ 1000000000000) :
    Calls Tryd.prog 60 #[v] w fun e w' => ∃ v', e = .returned v' ∧ Below w.heap.size w w' ∧ Ob 5 w.heap.size w' v' l := by
  have hv' := hv
  obtain ⟨hl1, o, c, rfl, hlc, hcm, hon, hcell⟩ := hv
  unfold maxLen at hcm
  cases o with
  | none =>
    have hm : l = [] := Classical.byContradiction fun hne => by obtain ⟨a, ha, _⟩ := hcell hne; cases ha
    subst hm
    have hc0 := hon rfl
    subst hc0
    have h0 := fun w => @Lib.run_eql_slice_nil Tryd.prog w 33 5 none 0 0 0 0 Tryd.underlying33
    simp only [List.length_nil]
    go_enter Tryd.func60, Tryd.ntmps60
    go_wp2
    go_ret
    exact ⟨_, rfl, Below.refl _ _, Ob.nil⟩
  | some a =>
    have h0 := fun w => @Lib.run_eql_slice_nil Tryd.prog w 33 5 (some a) l.length c 0 0 Tryd.underlying33
    have hb1 : Below w.heap.size w (w.alloc (.cells #[] 5)) := (Below.refl _ _).alloc (Nat.le_refl _) _
    obtain ⟨v', w', hr, h1, h2, h3⟩ := byteT.append 33 (w.alloc (.cells #[] 5)) w.heap.size _ [] (Ob.made #[] 0 (Nat.le_refl _) (by simp [maxLen]) rfl) _ l (hv'.below hb1) (by simpa using hl) (by simp)
    have hb2 : Below w.heap.size w w' := (Ob.made (e := 5) #[] 0 (Nat.le_refl _) (by simp [maxLen]) rfl).grown h2 hb1 (Nat.le_refl _) (by simp)
    clear hv' hcell hon h3
    go_enter Tryd.func60, Tryd.ntmps60
    go_wp2_with (at_builtin; refine Lib.wpList_append_run _ rfl _ _ _ _ rfl _ _ rfl rfl _ _ hr ?_)
    go_ret
    exact ⟨_, rfl, hb2, h1⟩
end Go.Proofs.YtoikdhfihkbcbaaDoor
