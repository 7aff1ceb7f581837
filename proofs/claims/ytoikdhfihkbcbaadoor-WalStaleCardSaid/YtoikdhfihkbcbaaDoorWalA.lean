/- Contracts of the log's small functions. -/
import Derived.Test.YtoikdhfihkbcbaaDoorGs
import Derived.Test.YtoikdhfihkbcbaaDoorErC
import Derived.Deep.QuietTactic
import Derived.Deep.Cut
import Derived.Deep.RegionLaw
namespace Go.Proofs.YtoikdhfihkbcbaaDoor
open Go.RowKit
set_option linter.unusedVariables false

theorem ret_i64 {k : IntKind} {a b : Int} (h : a = b) : Ending.returned (.int k a) = .returned (.int k b) := by rw [h]

theorem walLast {w : World} {X : Nat} {c : LogC} {v : Value} {L : List RecD} (h : Lg 97 w X c v L) :
    Calls Tryd.prog 29 #[.pointer (some ⟨X, 0, none⟩)] w fun e w' => e = .returned (.int .i64 (c.base + L.length)) ∧ Qw w w' := by
  obtain ⟨h0, h1, h2, h3, h4, h5, h6, _⟩ := h.cells
  obtain ⟨_, b1, b2⟩ := And.intro h.len (And.intro h.ok.b0 h.ok.b1)
  obtain ⟨o, cap, rfl, hc1, hc2, _, _⟩ := h.own.form
  have hl := h.len
  unfold maxLen at hc2
  clear h h0 h1 h2 h4 h6
  generalize L.length = n at *
  generalize c.base = b at *
  go_enter Tryd.func29, Tryd.ntmps29
  go_wp2_with fail
  go_quiet (fail)
  go_wp2_with fail
  go_ret
  exact ⟨rfl, _, rfl⟩

set_option maxHeartbeats 1000000 in
theorem walRoom {w : World} {X : Nat} {c : LogC} {v : Value} {L : List RecD} (h : Lg 97 w X c v L) :
    Calls Tryd.prog 27 #[.pointer (some ⟨X, 0, none⟩)] w fun e w' => e = .returned (.int .i64 (roomN c L.length)) ∧ Qw w w' := by
  obtain ⟨h0, h1, h2, h3, h4, h5, h6, _⟩ := h.cells
  have b1 := h.ok.b0
  have b2 := h.ok.b1
  have k1 := h.ok.k0
  have k2 := h.ok.k1
  obtain ⟨o, cap, rfl, hc1, hc2, _, _⟩ := h.own.form
  have hl := h.len
  unfold maxLen at hc2
  have HL := Lib.hid (fun W (hq : Below w.heap.size w W) => (walLast (h.below hq)))
  obtain ⟨r, hr⟩ : ∃ r, r = roomN c L.length := ⟨_, rfl⟩
  rw [← hr]
  unfold roomN at hr
  clear h h0 h1 h3 h4 h6
  generalize L.length = n at *
  generalize c.base = b at *
  generalize c.blocks = k at *
  have HR := Lib.hid hr
  clear hr
  go_enter Tryd.func27, Tryd.ntmps27
  go_wp2_with fail
  have hq : ∀ m, Calls Tryd.prog 29 #[.pointer (some ⟨X, 0, none⟩)] (w.drewN m) fun e w' => e = .returned (.int .i64 (b + n)) ∧ ∃ k, w' = w.drewN k := fun m => Calls.quiet_of (HL.out (w.drewN m) (bdrew _ _ _))
  have HQ := Lib.hid hq
  clear hq HL
  by_cases ha : 1073741824 - (b + n) < k * 6 - (n : Int)
  · by_cases hb : 1073741824 - (b + n) < 0
    · go_quiet ((go_at_call 29; exact HQ.out _))
      all_goals
        go_wp2_with fail
        go_ret
        exact ⟨ret_i64 (by have := HR.out; omega), _, rfl⟩
    · go_quiet ((go_at_call 29; exact HQ.out _))
      all_goals
        go_wp2_with fail
        go_ret
        exact ⟨ret_i64 (by have := HR.out; omega), _, rfl⟩
  · by_cases hb : k * 6 - (n : Int) < 0
    · go_quiet ((go_at_call 29; exact HQ.out _))
      all_goals
        go_wp2_with fail
        go_ret
        exact ⟨ret_i64 (by have := HR.out; omega), _, rfl⟩
    · go_quiet ((go_at_call 29; exact HQ.out _))
      all_goals
        go_wp2_with fail
        go_ret
        exact ⟨ret_i64 (by have := HR.out; omega), _, rfl⟩

theorem walNew (d : Value) (first blocks base epoch : Int) (w : World) (p : Option Addr) (hd : d = .pointer p) :
    Calls Tryd.prog 26 #[d, .int .i64 first, .int .i64 blocks, .int .i64 base, .int .i64 epoch] w fun e w' => e = .returned (.pointer (some ⟨w.heap.size, 0, none⟩)) ∧ w' = w.alloc (.cells (headCs ⟨d, first, blocks, base, epoch, 0⟩ (.slice none 0 0)) 97) := by
  subst hd
  go_enter Tryd.func26, Tryd.ntmps26
  go_wp2_with fail
  go_ret
  exact ⟨rfl, rfl⟩

/-- Rec: there is none of that number -/
theorem walRecNo {w : World} {X : Nat} {c : LogC} {v : Value} {L : List RecD} (h : Lg 97 w X c v L) (lsn : Int) (hl1 : -9223372036854775808 ≤ lsn) (hl2 : lsn ≤ 9223372036854775807) (hn : lsn ≤ c.base ∨ c.base + L.length < lsn) :
    Calls Tryd.prog 38 #[.pointer (some ⟨X, 0, none⟩), .int .i64 lsn] w fun e w' => e = .returned (.tuple #[recV rec00, .bool false]) ∧ Below w.heap.size w w' := by
  obtain ⟨W, hW⟩ : ∃ W, W = w.alloc (.cells #[.int .i64 0, .int .i64 0, .int .i64 0, .int .i64 0, .int .i64 0, .int .i64 0, .bool false, .bool false, .int .i64 0, .int .i64 0] 31) := ⟨_, rfl⟩
  have hb : Below w.heap.size w W := by rw [hW]; exact (Below.refl _ _).alloc (Nat.le_refl _) _
  have HR : Hid (RW w.heap.size #[.int .i64 0, .int .i64 0, .int .i64 0, .int .i64 0, .int .i64 0, .int .i64 0, .bool false, .bool false, .int .i64 0, .int .i64 0] W) := by rw [hW]; exact RW.new w _
  have HL := Lib.hid (walLast (h.below hb))
  obtain ⟨h0, h1, h2, h3, h4, h5, h6, _⟩ := (h.below hb).cells
  have HA := Lib.hid hb
  have HW := Lib.hid hW
  have hfz := HR.out.frozen
  generalize c.base = b at *
  generalize L.length = n at *
  obtain ⟨A, hA⟩ : ∃ A, A = w.heap.size := ⟨_, rfl⟩
  have HSA := Lib.hid hA
  clear h hb h0 h1 h2 h4 h5 h6 hW
  by_cases h1 : lsn ≤ b
  · clear HL
    go_enter Tryd.func38, Tryd.ntmps38
    go_upto_region 1 with fail
    rw [← HW.out, ← HSA.out]
    rw [← HSA.out] at hfz HR
    obtain ⟨e0, e1, e2, e3, e4, e5, e6, e7, e8, e9⟩ := HR.out.cells
    clear hA
    go_wp2_with fail
    exact bodyPost_ret (v := .tuple #[recV rec00, .bool false]) (by simp [results, Tryd.results38, go_sem, recV, rec00, e0, e1, e2, e3, e4, e5, e6, e7, e8, e9]) rfl ⟨rfl, below10 HA.out (by rw [HSA.out]; exact Nat.le_refl _) _ _ _ _ _ _ _ _ _ _⟩
  · have h2 : b + n < lsn := by omega
    go_enter Tryd.func38, Tryd.ntmps38
    go_upto_region 1 with fail
    rw [← HW.out, ← HSA.out]
    rw [← HSA.out] at hfz HR
    clear hA hfz
    go_wp2_with fail
    refine HL.out.mono ?_
    rintro e w1 ⟨rfl, hq⟩
    have HB := Lib.hid (HA.out.trans (hq.below w.heap.size))
    have HR1 := Lib.hid (HR.out.below (hq.below _))
    have hfz := HR1.out.frozen
    obtain ⟨e0, e1, e2, e3, e4, e5, e6, e7, e8, e9⟩ := HR1.out.cells
    clear hq h3
    go_wp2_with fail
    exact bodyPost_ret (v := .tuple #[recV rec00, .bool false]) (by simp [results, Tryd.results38, go_sem, recV, rec00, e0, e1, e2, e3, e4, e5, e6, e7, e8, e9]) rfl ⟨rfl, below10 HB.out (by rw [HSA.out]; exact Nat.le_refl _) _ _ _ _ _ _ _ _ _ _⟩

theorem recAtN_idx {base : Int} {L : List RecD} {lsn : Int} {r : RecD} (h : recAtN base L lsn = some r) : ∃ i : Nat, lsn - base - 1 = i ∧ i < L.length ∧ L[i]? = some r := by
  have hlt := recAtN_lt h
  refine ⟨(lsn - base - 1).toNat, by omega, by omega, ?_⟩
  unfold recAtN at h
  rw [if_pos hlt] at h
  exact h

set_option maxRecDepth 20000 in
set_option maxHeartbeats 1000000 in
theorem walRecYes {w : World} {X : Nat} {c : LogC} {v : Value} {L : List RecD} (h : Lg 97 w X c v L) (lsn : Int) (r : RecD) (hr : recAtN c.base L lsn = some r) :
    Calls Tryd.prog 38 #[.pointer (some ⟨X, 0, none⟩), .int .i64 lsn] w fun e w' => e = .returned (.tuple #[recV r, .bool true]) ∧ Below w.heap.size w w' := by
  obtain ⟨i, hi, hiL, hLi⟩ := recAtN_idx hr
  have hlt := recAtN_lt hr
  obtain ⟨o, cap, rfl, hc1, hc2, _, _⟩ := id h.own.form
  obtain ⟨g, r', rfl, hg0, hgl, hr', hrw, hcs⟩ := h.own.at_ hiL
  obtain rfl : r' = r := by rw [hLi] at hr'; simpa using hr'.symm
  obtain ⟨W, hW⟩ : ∃ W, W = w.alloc (.cells #[.int .i64 0, .int .i64 0, .int .i64 0, .int .i64 0, .int .i64 0, .int .i64 0, .bool false, .bool false, .int .i64 0, .int .i64 0] 31) := ⟨_, rfl⟩
  have hb : Below w.heap.size w W := by rw [hW]; exact (Below.refl _ _).alloc (Nat.le_refl _) _
  have HR : Hid (RW w.heap.size #[.int .i64 0, .int .i64 0, .int .i64 0, .int .i64 0, .int .i64 0, .int .i64 0, .bool false, .bool false, .int .i64 0, .int .i64 0] W) := by rw [hW]; exact RW.new w _
  have HL := Lib.hid (walLast (h.below hb))
  have HLG := Lib.hid (h.below hb)
  have HC := Lib.hid hcs
  obtain ⟨h0, h1, h2, h3, h4, h5, h6, _⟩ := (h.below hb).cells
  have HA := Lib.hid hb
  have HW := Lib.hid hW
  have b1 := h.ok.b0
  have b2 := h.ok.b1
  have hl := h.len
  unfold maxLen at hc2
  have HGL := Lib.hid hgl
  obtain ⟨A, hA⟩ : ∃ A, A = w.heap.size := ⟨_, rfl⟩
  have HSA := Lib.hid hA
  obtain ⟨b, hbb⟩ : ∃ b, b = c.base := ⟨_, rfl⟩
  have HBB := Lib.hid hbb
  rw [← hbb] at h3 hlt hi b1 b2
  generalize hn : L.length = n at *
  clear h hb h0 h1 h2 h4 h5 h6 hW hr hr' hLi hcs hgl hbb hg0
  have hg1 : b < lsn := hlt.1
  have hg2 : lsn ≤ b + n := hlt.2
  have hI : (i : Int) < n := by omega
  rw [← HBB.out] at HL
  go_enter Tryd.func38, Tryd.ntmps38
  go_upto_region 1 with fail
  rw [← HW.out, ← HSA.out]
  rw [← HSA.out] at HR
  clear hA hlt hn
  go_wp2_with fail
  refine HL.out.mono ?_
  rintro e w1 ⟨rfl, hq⟩
  have hbq : Below W.heap.size W w1 := hq.below _
  have HB := Lib.hid (HA.out.trans (hq.below w.heap.size))
  have HR1 := Lib.hid (HR.out.below hbq)
  have hfz := HR1.out.frozen
  obtain ⟨e0, e1, e2, e3, e4, e5, e6, e7, e8, e9⟩ := HR1.out.cells
  obtain ⟨_, _, _, g3, _, g5, _, _⟩ := (HLG.out.below hbq).cells
  rw [← HBB.out] at g3
  have hcw : ∀ {p v}, w.cell? p = some v → w1.cell? p = some v := fun {p v} hp => (HB.out.cell (Below.lt hp)).trans hp
  obtain ⟨c0, c1, c2, c3, c4, c5, c6, c7, c8, c9⟩ := HC.out
  have d0 := hcw c0
  have d1 := hcw c1
  have d2 := hcw c2
  have d3 := hcw c3
  have d4 := hcw c4
  have d5 := hcw c5
  have d6 := hcw c6
  have d7 := hcw c7
  have d8 := hcw c8
  have d9 := hcw c9
  clear hq h3 hcw c0 c1 c2 c3 c4 c5 c6 c7 c8 c9 hbq HLG
  go_wp2_with fail
  go_region
  go_wp2_with fail
  exact bodyPost_ret (v := .tuple #[recV r', .bool true]) (by simp [results, Tryd.results38, go_sem, recV, e0, e1, e2, e3, e4, e5, e6, e7, e8, e9]) rfl ⟨rfl, (below10 HB.out (by rw [HSA.out]; exact Nat.le_refl _) _ _ _ _ _ _ _ _ _ _).drew⟩
end Go.Proofs.YtoikdhfihkbcbaaDoor
