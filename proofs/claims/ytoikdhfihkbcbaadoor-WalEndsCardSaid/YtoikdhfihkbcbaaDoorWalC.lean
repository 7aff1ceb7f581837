/- Contract: the log's Append. -/
import Derived.Test.YtoikdhfihkbcbaaDoorWalA
import Derived.Test.YtoikdhfihkbcbaaDoorDskN
import Derived.Test.YtoikdhfihkbcbaaDoorRecC
import Derived.Deep.RegionLaw
namespace Go.Proofs.YtoikdhfihkbcbaaDoor
open Go.RowKit
set_option linter.unusedVariables false

theorem recV_laid (a0 a1 a2 a3 a4 a5 a8 a9 : Int) (a6 a7 : Bool) (w : World) : (Instr.buildSlice 28 1 #[(0, .agg #[.int .i64 a0, .int .i64 a1, .int .i64 a2, .int .i64 a3, .int .i64 a4, .int .i64 a5, .bool a6, .bool a7, .int .i64 a8, .int .i64 a9])]).run Tryd.prog w = .ok (.slice (some ⟨w.heap.size, 0, none⟩) 1 1) (w.alloc (.cells #[.int .i64 a0, .int .i64 a1, .int .i64 a2, .int .i64 a3, .int .i64 a4, .int .i64 a5, .bool a6, .bool a7, .int .i64 a8, .int .i64 a9] 31)) := by kernel_rfl

/-- the append itself: its run, and the log behind the store -/
theorem Lg.append {T : TypeId} {w : World} {X : Nat} {c : LogC} {v : Value} {L : List RecD} (h : Lg T w X c v L) (r : RecD) (hr : r.W) (hl : L.length < 10000) {W : World} (hb : Below w.heap.size w W) :
    ∃ gb cap w3, (Builtin.append_ #[28, 28] 28 #[v, .slice (some ⟨W.heap.size, 0, none⟩) 1 1]).run Tryd.prog (W.drew.alloc (.cells (recCs r) 31)) = .ok (.slice (some ⟨gb, 0, none⟩) (L.length + 1) cap) w3 ∧
      (w3.cell? ⟨X, 5, none⟩ = some v ∧ w3.frozen? ⟨X, 5, none⟩ = false) ∧
      Lg T (w3.setCell ⟨X, 5, none⟩ (.slice (some ⟨gb, 0, none⟩) (L.length + 1) cap)) X c (.slice (some ⟨gb, 0, none⟩) (L.length + 1) cap) (L ++ [r]) ∧
      Ext (LogC.F X v) w (LogC.F X (.slice (some ⟨gb, 0, none⟩) (L.length + 1) cap)) (w3.setCell ⟨X, 5, none⟩ (.slice (some ⟨gb, 0, none⟩) (L.length + 1) cap)) := by
  have hbd : Below w.heap.size w W.drew := hb.drew
  have hba : Below w.heap.size w (W.drew.alloc (.cells (recCs r) 31)) := hbd.alloc hbd.size _
  have ha := h.below hba
  obtain ⟨gb, cap, w3, hrun, ho3, hg3, hat, hlt, hc1, hc2⟩ := ha.own.append1 r hr (Nat.zero_le _) (by omega) W.drew.heap.size (RW.new W.drew (recCs r)) 1 28
  obtain ⟨⟨k1, k2, _⟩, hlg, hx⟩ := h.put hba hg3 ho3 (fun b e => by
    have e' : gb = b := by simpa [Value.ownBlock] using e
    rcases hat with h1 | h1
    · exact .inl (by rw [← e']; exact h1)
    · exact .inr (by rw [← e', h1]; exact Nat.le_refl _)) (by rw [List.length_append]; simp; omega)
  exact ⟨gb, cap, w3, hrun, ⟨k1, k2⟩, hlg, hx⟩

set_option maxRecDepth 20000 in
set_option maxHeartbeats 2000000 in
theorem walAppend {ea : Nat → Addr} {w : World} {X : Nat} {c : LogC} {v : Value} {L : List RecD} (h : Lg 97 w X c v L) (hs : Sen ea w) (r : RecD) (hr : r.W) (hok : okR r = true) (hroom : 1 ≤ roomN c L.length) (hl : L.length < 10000) :
    Calls Tryd.prog 28 #[.pointer (some ⟨X, 0, none⟩), recV r] w fun e w' => e = .returned (.tuple #[.int .i64 (c.base + L.length + 1), .nilIface]) ∧ ∃ v', Lg 97 w' X c v' (L ++ [r]) ∧ Ext (LogC.F X v) w (LogC.F X v') w' := by
  obtain ⟨W, hW⟩ : ∃ W, W = w.alloc (.cells (recCs r) 31) := ⟨_, rfl⟩
  have hbw : Below w.heap.size w W := by rw [hW]; exact (Below.refl _ _).alloc (Nat.le_refl _) _
  have HRW : Hid (RW w.heap.size (recCs r) W) := Lib.hid (by rw [hW]; exact RW.new w _)
  have hchk := recCheck r W _ ((hs.below hbw).cell 1 (by decide))
  rw [hok] at hchk
  dsimp only [errIf] at hchk
  rw [if_pos rfl] at hchk
  have HCHK := Lib.hid hchk
  have HROOM := Lib.hid (fun W' (hb : Below w.heap.size w W') => walRoom (h.below hb))
  have HAPP := Lib.hid (fun W' (hb : Below w.heap.size w W') => h.append r hr hl hb)
  have HC5 := Lib.hid (fun W' (hb : Below w.heap.size w W') => (h.below hb).cells)
  have HBW := Lib.hid hbw
  have HW := Lib.hid hW
  obtain ⟨rm, hrm⟩ : ∃ x, x = roomN c L.length := ⟨_, rfl⟩
  rw [← hrm] at HROOM hroom
  have HLL : Hid (c.base + (L ++ [r]).length = c.base + L.length + 1) := Lib.hid (by rw [List.length_append]; simp; omega)
  have hg : ¬ rm < 1 := by omega
  clear hchk hrm hbw hW h hs hr hok hl
  obtain ⟨a0, a1, a2, a3, a4, a5, a6, a7, a8, a9⟩ := r
  dsimp only [recV, recCs] at *
  obtain ⟨A, hA⟩ : ∃ A, A = w.heap.size := ⟨_, rfl⟩
  have HSA := Lib.hid hA
  rw [← hA] at HRW
  obtain ⟨c0, c1, c2, c3, c4, c5, c6, c7, c8, c9⟩ := HRW.out.cells
  clear hA
  go_enter Tryd.func28, Tryd.ntmps28
  go_upto_region 1 with fail
  rw [← HW.out, ← HSA.out]
  go_wp2_with fail
  refine HCHK.out.mono ?_
  clear HCHK
  rintro e w1 ⟨rfl, hb1⟩
  have HB1 := Lib.hid (HBW.out.trans (hb1.mono HBW.out.size))
  have HRW1 := Lib.hid (HRW.out.below hb1)
  clear hb1 c0 c1 c2 c3 c4 c5 c6 c7 c8 c9
  go_wp2_with fail
  refine (HROOM.out _ HB1.out).mono ?_
  clear HROOM
  rintro e w2 ⟨rfl, hq2⟩
  have HB2 := Lib.hid (HB1.out.trans (hq2.below _))
  have HRW2 := Lib.hid (HRW1.out.below (hq2.below _))
  obtain ⟨gb, cap, w3, hrun, ⟨k1, k2⟩, hlg, hx⟩ := HAPP.out _ HB2.out
  have HLG := Lib.hid hlg
  have HX := Lib.hid hx
  obtain ⟨c0, c1, c2, c3, c4, c5, c6, c7, c8, c9⟩ := HRW2.out.cells
  obtain ⟨_, _, _, _, _, g5, _, _⟩ := HC5.out _ HB2.out
  have hlt := Below.lt g5
  have g6 : (w2.drew.alloc (.cells #[.int .i64 a0, .int .i64 a1, .int .i64 a2, .int .i64 a3, .int .i64 a4, .int .i64 a5, .bool a6, .bool a7, .int .i64 a8, .int .i64 a9] 31)).cell? ⟨X, 5, none⟩ = some v := (World.cell?_of_block (a := ⟨X, 5, none⟩) (Below.heap_alloc w2.drew _ _ hlt)).trans g5
  have g7 : (w2.alloc (.cells #[.int .i64 a0, .int .i64 a1, .int .i64 a2, .int .i64 a3, .int .i64 a4, .int .i64 a5, .bool a6, .bool a7, .int .i64 a8, .int .i64 a9] 31)).cell? ⟨X, 5, none⟩ = some v := g6
  clear hq2 hlg hx HAPP HRW HRW1 HB1 hlt
  go_wp2_with fail
  go_region_law ((first
    | (refine step_append_run _ rfl _ _ _ _ rfl _ _ rfl rfl _ _ hrun ?_)
    | (refine step_buildSlice_run _ rfl _ _ _ rfl _ rfl _ _ (recV_laid a0 a1 a2 a3 a4 a5 a8 a9 a6 a7 _) ?_)))
  all_goals
    have hlast := walLast HLG.out
    rw [HLL.out] at hlast
    have HLAST := Lib.hid hlast
    clear hlast hrun k1 k2 g5 g6 g7 c0 c1 c2 c3 c4 c5 c6 c7 c8 c9
    go_wp2_with fail
    refine HLAST.out.mono ?_
    rintro e w5 ⟨rfl, hq5⟩
    have HLG5 := Lib.hid (HLG.out.below (hq5.below _))
    have HX5 := Lib.hid (HX.out.trans (Ext.of_below (hq5.below _)))
    clear hq5
    go_wp2_with fail
    go_ret2
    exact ⟨rfl, _, HLG5.out, HX5.out⟩
end Go.Proofs.YtoikdhfihkbcbaaDoor
