/- Contract: the next number of a Seq. -/
import Derived.Test.YtpgelebmhhcodaaDoorProg
import Derived.Test.YtpgelebmhhcodaaDoorByteT
namespace Go.Proofs.YtpgelebmhhcodaaDoor
open Go.RowKit
set_option linter.unusedVariables false

/-- the block of a Seq -/
def SeqAt (w : World) (q : Nat) (v : Value) (p : Int) : Prop := w.heap[q]? = some (.cells #[v, .int .i64 p] 29 (0, 0))

set_option maxHeartbeats 1600000 in
theorem seqNext (q : Nat) (l : List Int) (v : Value) (p b : Int) (w : World) (hrow : SeqAt w q v p) (hv : Ns .i64 w v l) (h0 : 0 ≤ p) (h1 : p ≤ 1000) (hl : l.length ≤ 1000) (hb : 0 < b) (hb2 : b ≤ 4611686018427387904) :
    Calls Tryd.prog 6 #[.pointer (some ⟨q, 0, none⟩), .int .i64 b] w fun e w' => (∃ x, e = .returned (.int .i64 x) ∧ 0 ≤ x ∧ x < b) ∧ ∃ n, w' = (w.drewN n).setCell ⟨q, 1, none⟩ (.int .i64 (p + 1)) := by
  have c0 : w.cell? ⟨q, 0, none⟩ = some v := cell_of_row w q 0 _ _ _ hrow
  have c1 : w.cell? ⟨q, 1, none⟩ = some (.int .i64 p) := cell_of_row w q 1 _ _ _ hrow
  have fz : w.frozen? ⟨q, 1, none⟩ = false := by
    unfold SeqAt at hrow
    simp [World.frozen?, hrow]
  obtain ⟨hwf, o, cap, rfl, hc1, hc2, hc3, hc4⟩ := hv
  have hx : ∀ x, -9223372036854775808 ≤ x → x ≤ 9223372036854775807 → 0 ≤ x % b ∧ x % b < b := fun x _ _ => ⟨Int.emod_nonneg _ (by omega), Int.emod_lt_of_pos _ hb⟩
  have HX := Lib.hid hx
  clear hx hrow
  by_cases hlt : p < l.length
  · obtain ⟨k, rfl⟩ := Int.eq_ofNat_of_zero_le h0
    have hk : k < l.length := by omega
    obtain ⟨a, rfl, hcell⟩ := hc4 (ne_nil_of_lt hk)
    have ck := hcell k hk
    have hwk := wf_i64 (hwf (l.getD k 0) (by rw [getD_lt hk]; exact List.getElem_mem hk))
    generalize l.getD k 0 = x at ck hwk
    generalize l.length = m at *
    clear hcell hc4 hwf hc3
    go_enter Tryd.func6, Tryd.ntmps6
    go_wp2
    go_quiet (fail)
    go_wp2
    go_quiet (fail)
    go_wp2_with fail
    refine (number x b _ hb hb2 hwk.1 hwk.2).mono ?_
    rintro e w1 ⟨rfl, hw1⟩
    have hxx := HX.out x hwk.1 hwk.2
    generalize x % b = y at hxx
    go_wp2_with fail
    go_ret
    exact ⟨⟨y, rfl, hxx.1, hxx.2⟩, _, by rw [← hw1]⟩
  · have hge : ¬ p < (l.length : Int) := hlt
    generalize l.length = m at *
    clear hc4 hwf hc3
    go_enter Tryd.func6, Tryd.ntmps6
    go_wp2
    go_quiet (fail)
    go_wp2_with fail
    refine (number 0 b _ hb hb2 (by decide) (by decide)).mono ?_
    rintro e w1 ⟨rfl, hw1⟩
    have hxx := HX.out 0 (by decide) (by decide)
    generalize (0 : Int) % b = y at hxx
    go_wp2_with fail
    go_ret
    exact ⟨⟨y, rfl, hxx.1, hxx.2⟩, _, by rw [← hw1]⟩

/-- what it leaves: the Seq, one on; each other block as it was -/
theorem seqNext' (q : Nat) (l : List Int) (v : Value) (p b : Int) (w : World) (hrow : SeqAt w q v p) (hv : Ns .i64 w v l) (h0 : 0 ≤ p) (h1 : p ≤ 1000) (hl : l.length ≤ 1000) (hb : 0 < b) (hb2 : b ≤ 4611686018427387904) :
    Calls Tryd.prog 6 #[.pointer (some ⟨q, 0, none⟩), .int .i64 b] w fun e w' => (∃ x, e = .returned (.int .i64 x) ∧ 0 ≤ x ∧ x < b) ∧
      (SeqAt w' q v (p + 1) ∧ (∀ g, g ≠ q → w'.heap[g]? = w.heap[g]?) ∧ w'.heap.size = w.heap.size ∧ ∀ base w0, Below base w0 w → base ≤ q → Below base w0 w') := by
  refine (seqNext q l v p b w hrow hv h0 h1 hl hb hb2).mono ?_
  rintro e w' ⟨hx, n, rfl⟩
  have hr : SeqAt (w.drewN n) q v p := hrow
  refine ⟨hx, ?_, fun g hg => ?_, ?_, fun base w0 hB hq => ?_⟩
  · obtain ⟨hlt, hk⟩ := Array.getElem?_eq_some_iff.1 hr
    show ((w.drewN n).heap.modify q _)[q]? = _
    rw [Array.getElem?_eq_getElem (by rw [Array.size_modify]; exact hlt), Array.getElem_modify_self, hk]
    rfl
  · show ((w.drewN n).heap.modify q _)[g]? = w.heap[g]?
    rw [Array.getElem?_modify, if_neg (Ne.symm hg)]
    rfl
  · show ((w.drewN n).heap.modify q _).size = w.heap.size
    rw [Array.size_modify]
    rfl
  · have hd : Below base w (w.drewN n) := ⟨rfl, rfl, rfl, Nat.le_refl _, fun _ _ => rfl⟩
    exact Below.setCell (p := ⟨q, 1, none⟩) (hB.trans hd) hq _
end Go.Proofs.YtpgelebmhhcodaaDoor
