/- Contract of the log's Rec, where there is one of that number. -/
import Derived.Test.YtccfiohcblecoaaDoorWalB
import Derived.Test.YtccfiohcblecoaaDoorRefA
import Derived.Deep.RegionLaw
namespace Go.Proofs.YtccfiohcblecoaaDoor
open Go.RowKit
set_option linter.unusedVariables false

set_option maxRecDepth 20000 in
set_option maxHeartbeats 1000000 in
theorem refRecYes {w : World} {X : Nat} {c : LogC} {v : Value} {L : List RecD} (h : Lg 133 w X c v L) (lsn : Int) (r : RecD) (hr : recAtN c.base L lsn = some r) :
    Calls Tryd.prog 74 #[.pointer (some ⟨X, 0, none⟩), .int .i64 lsn] w fun e w' => e = .returned (.tuple #[recV r, .bool true]) ∧ Below w.heap.size w w' := by
  obtain ⟨i, hi, hiL, hLi⟩ := recAtN_idx hr
  have hlt := recAtN_lt hr
  obtain ⟨o, cap, rfl, hc1, hc2, _, _⟩ := id h.own.form
  obtain ⟨g, r', rfl, hg0, hgl, hr', hrw, hcs⟩ := h.own.at_ hiL
  obtain rfl : r' = r := by rw [hLi] at hr'; simpa using hr'.symm
  obtain ⟨W, hW⟩ : ∃ W, W = w.alloc (.cells #[.int .i64 0, .int .i64 0, .int .i64 0, .int .i64 0, .int .i64 0, .int .i64 0, .bool false, .bool false, .int .i64 0, .int .i64 0] 33) := ⟨_, rfl⟩
  have hb : Below w.heap.size w W := by rw [hW]; exact (Below.refl _ _).alloc (Nat.le_refl _) _
  have HR : Hid (RW w.heap.size #[.int .i64 0, .int .i64 0, .int .i64 0, .int .i64 0, .int .i64 0, .int .i64 0, .bool false, .bool false, .int .i64 0, .int .i64 0] W) := by rw [hW]; exact RW.new w _
  have HL := Lib.hid (refLast (h.below hb))
  have HLG := Lib.hid (h.below hb)
  have HC := Lib.hid hcs
  obtain ⟨h0, h1, h2, h3, h4, h5, h6, _⟩ := (h.below hb).cells
  have HA := Lib.hid hb
  have HW := Lib.hid hW
  have b1 := h.ok.b0
  have b2 := h.ok.b1
  have hl := h.len
  unfold maxLen at hc2
  have HGL := Lib.hid hgl
  obtain ⟨A, hA⟩ : ∃ A, A = w.heap.size := ⟨_, rfl⟩
  have HSA := Lib.hid hA
  obtain ⟨b, hbb⟩ : ∃ b, b = c.base := ⟨_, rfl⟩
  have HBB := Lib.hid hbb
  rw [← hbb] at h3 hlt hi b1 b2
  generalize hn : L.length = n at *
  clear h hb h0 h1 h2 h4 h5 h6 hW hr hr' hLi hcs hgl hbb hg0
  have hg1 : b < lsn := hlt.1
  have hg2 : lsn ≤ b + n := hlt.2
  have hI : (i : Int) < n := by omega
  rw [← HBB.out] at HL
  go_enter Tryd.func74, Tryd.ntmps74
  go_upto_region 1 with fail
  rw [← HW.out, ← HSA.out]
  rw [← HSA.out] at HR
  clear hA hlt hn
  go_wp2_with fail
  refine HL.out.mono ?_
  rintro e w1 ⟨rfl, hq⟩
  have hbq : Below W.heap.size W w1 := hq.below _
  have HB := Lib.hid (HA.out.trans (hq.below w.heap.size))
  have HR1 := Lib.hid (HR.out.below hbq)
  have hfz := HR1.out.frozen
  obtain ⟨e0, e1, e2, e3, e4, e5, e6, e7, e8, e9⟩ := HR1.out.cells
  obtain ⟨_, _, _, g3, _, g5, _, _⟩ := (HLG.out.below hbq).cells
  rw [← HBB.out] at g3
  have hcw : ∀ {p v}, w.cell? p = some v → w1.cell? p = some v := fun {p v} hp => (HB.out.cell (Below.lt hp)).trans hp
  obtain ⟨c0, c1, c2, c3, c4, c5, c6, c7, c8, c9⟩ := HC.out
  have d0 := hcw c0
  have d1 := hcw c1
  have d2 := hcw c2
  have d3 := hcw c3
  have d4 := hcw c4
  have d5 := hcw c5
  have d6 := hcw c6
  have d7 := hcw c7
  have d8 := hcw c8
  have d9 := hcw c9
  clear hq h3 hcw c0 c1 c2 c3 c4 c5 c6 c7 c8 c9 hbq HLG
  go_wp2_with fail
  go_region
  go_wp2_with fail
  exact bodyPost_ret (v := .tuple #[recV r', .bool true]) (by simp [results, Tryd.results74, go_sem, recV, e0, e1, e2, e3, e4, e5, e6, e7, e8, e9]) rfl ⟨rfl, (below10 HB.out (by rw [HSA.out]; exact Nat.le_refl _) _ _ _ _ _ _ _ _ _ _).drew⟩
end Go.Proofs.YtccfiohcblecoaaDoor
