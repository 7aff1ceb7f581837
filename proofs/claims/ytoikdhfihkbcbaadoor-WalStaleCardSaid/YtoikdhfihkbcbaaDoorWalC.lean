/- Contract: the log's Append. -/
import Derived.Test.YtoikdhfihkbcbaaDoorWalA
import Derived.Test.YtoikdhfihkbcbaaDoorDskN
import Derived.Test.YtoikdhfihkbcbaaDoorRecC
import Derived.Deep.RegionLaw
import Derived.Test.YtoikdhfihkbcbaaDoorErC
namespace Go.Proofs.YtoikdhfihkbcbaaDoor
open Go.RowKit
set_option linter.unusedVariables false

theorem recV_laid (a0 a1 a2 a3 a4 a5 a8 a9 : Int) (a6 a7 : Bool) (w : World) : (Instr.buildSlice 28 1 #[(0, .agg #[.int .i64 a0, .int .i64 a1, .int .i64 a2, .int .i64 a3, .int .i64 a4, .int .i64 a5, .bool a6, .bool a7, .int .i64 a8, .int .i64 a9])]).run Tryd.prog w = .ok (.slice (some ⟨w.heap.size, 0, none⟩) 1 1) (w.alloc (.cells #[.int .i64 a0, .int .i64 a1, .int .i64 a2, .int .i64 a3, .int .i64 a4, .int .i64 a5, .bool a6, .bool a7, .int .i64 a8, .int .i64 a9] 31)) := by kernel_rfl

/-- the append itself: its run, and the log behind the store -/
theorem Lg.append {T : TypeId} {w : World} {X : Nat} {c : LogC} {v : Value} {L : List RecD} (h : Lg T w X c v L) (r : RecD) (hr : r.W) (hl : L.length < 10000) {W : World} (hb : Below w.heap.size w W) :
    ∃ gb cap w3, (Builtin.append_ #[28, 28] 28 #[v, .slice (some ⟨W.heap.size, 0, none⟩) 1 1]).run Tryd.prog (W.drew.alloc (.cells (recCs r) 31)) = .ok (.slice (some ⟨gb, 0, none⟩) (L.length + 1) cap) w3 ∧
      (w3.cell? ⟨X, 5, none⟩ = some v ∧ w3.frozen? ⟨X, 5, none⟩ = false) ∧
      Lg T (w3.setCell ⟨X, 5, none⟩ (.slice (some ⟨gb, 0, none⟩) (L.length + 1) cap)) X c (.slice (some ⟨gb, 0, none⟩) (L.length + 1) cap) (L ++ [r]) ∧
      Ext (LogC.F X v) w (LogC.F X (.slice (some ⟨gb, 0, none⟩) (L.length + 1) cap)) (w3.setCell ⟨X, 5, none⟩ (.slice (some ⟨gb, 0, none⟩) (L.length + 1) cap)) := by
  have hbd : Below w.heap.size w W.drew := hb.drew
  have hba : Below w.heap.size w (W.drew.alloc (.cells (recCs r) 31)) := hbd.alloc hbd.size _
  have ha := h.below hba
  obtain ⟨gb, cap, w3, hrun, ho3, hg3, hat, hlt, hc1, hc2⟩ := ha.own.append1 r hr (Nat.zero_le _) (by omega) W.drew.heap.size (RW.new W.drew (recCs r)) 1 28
  obtain ⟨⟨k1, k2, _⟩, hlg, hx⟩ := h.put hba hg3 ho3 (fun b e => by
    have e' : gb = b := by simpa [Value.ownBlock] using e
    rcases hat with h1 | h1
    · exact .inl (by rw [← e']; exact h1)
    · exact .inr (by rw [← e', h1]; exact Nat.le_refl _)) (by rw [List.length_append]; simp; omega)
  exact ⟨gb, cap, w3, hrun, ⟨k1, k2⟩, hlg, hx⟩

set_option maxRecDepth 20000 in
set_option maxHeartbeats 2000000 in
theorem walAppendE {ea : Nat → Addr} {w : World} {X : Nat} {c : LogC} {v : Value} {L : List RecD} (h : Lg 97 w X c v L) (hE : w.cell? ⟨0, 0, none⟩ = some (eV ea 1)) (r : RecD) (hr : r.W) (hok : okR r = true) (hroom : 1 ≤ roomN c L.length) (hl : L.length < 10000) :
    Calls Tryd.prog 28 #[.pointer (some ⟨X, 0, none⟩), recV r] w fun e w' => e = .returned (.tuple #[.int .i64 (c.base + L.length + 1), .nilIface]) ∧ ∃ v', Lg 97 w' X c v' (L ++ [r]) ∧ Ext (LogC.F X v) w (LogC.F X v') w' := by
  obtain ⟨W, hW⟩ : ∃ W, W = w.alloc (.cells (recCs r) 31) := ⟨_, rfl⟩
  have hbw : Below w.heap.size w W := by rw [hW]; exact (Below.refl _ _).alloc (Nat.le_refl _) _
  have HRW : Hid (RW w.heap.size (recCs r) W) := Lib.hid (by rw [hW]; exact RW.new w _)
  have hchk := recCheck r W _ ((hbw.cell (Below.lt hE)).trans hE)
  rw [hok] at hchk
  dsimp only [errIf] at hchk
  rw [if_pos rfl] at hchk
  have HCHK := Lib.hid hchk
  have HROOM := Lib.hid (fun W' (hb : Below w.heap.size w W') => walRoom (h.below hb))
  have HAPP := Lib.hid (fun W' (hb : Below w.heap.size w W') => h.append r hr hl hb)
  have HC5 := Lib.hid (fun W' (hb : Below w.heap.size w W') => (h.below hb).cells)
  have HBW := Lib.hid hbw
  have HW := Lib.hid hW
  obtain ⟨rm, hrm⟩ : ∃ x, x = roomN c L.length := ⟨_, rfl⟩
  rw [← hrm] at HROOM hroom
  have HLL : Hid (c.base + (L ++ [r]).length = c.base + L.length + 1) := Lib.hid (by rw [List.length_append]; simp; omega)
  have hg : ¬ rm < 1 := by omega
  clear hchk hrm hbw hW h hE hr hok hl
  obtain ⟨a0, a1, a2, a3, a4, a5, a6, a7, a8, a9⟩ := r
  dsimp only [recV, recCs] at *
  obtain ⟨A, hA⟩ : ∃ A, A = w.heap.size := ⟨_, rfl⟩
  have HSA := Lib.hid hA
  rw [← hA] at HRW
  obtain ⟨c0, c1, c2, c3, c4, c5, c6, c7, c8, c9⟩ := HRW.out.cells
  clear hA
  go_enter Tryd.func28, Tryd.ntmps28
  go_upto_region 1 with fail
  rw [← HW.out, ← HSA.out]
  go_wp2_with fail
  refine HCHK.out.mono ?_
  clear HCHK
  rintro e w1 ⟨rfl, hb1⟩
  have HB1 := Lib.hid (HBW.out.trans (hb1.mono HBW.out.size))
  have HRW1 := Lib.hid (HRW.out.below hb1)
  clear hb1 c0 c1 c2 c3 c4 c5 c6 c7 c8 c9
  go_wp2_with fail
  refine (HROOM.out _ HB1.out).mono ?_
  clear HROOM
  rintro e w2 ⟨rfl, hq2⟩
  have HB2 := Lib.hid (HB1.out.trans (hq2.below _))
  have HRW2 := Lib.hid (HRW1.out.below (hq2.below _))
  obtain ⟨gb, cap, w3, hrun, ⟨k1, k2⟩, hlg, hx⟩ := HAPP.out _ HB2.out
  have HLG := Lib.hid hlg
  have HX := Lib.hid hx
  obtain ⟨c0, c1, c2, c3, c4, c5, c6, c7, c8, c9⟩ := HRW2.out.cells
  obtain ⟨_, _, _, _, _, g5, _, _⟩ := HC5.out _ HB2.out
  have hlt := Below.lt g5
  have g6 : (w2.drew.alloc (.cells #[.int .i64 a0, .int .i64 a1, .int .i64 a2, .int .i64 a3, .int .i64 a4, .int .i64 a5, .bool a6, .bool a7, .int .i64 a8, .int .i64 a9] 31)).cell? ⟨X, 5, none⟩ = some v := (World.cell?_of_block (a := ⟨X, 5, none⟩) (Below.heap_alloc w2.drew _ _ hlt)).trans g5
  have g7 : (w2.alloc (.cells #[.int .i64 a0, .int .i64 a1, .int .i64 a2, .int .i64 a3, .int .i64 a4, .int .i64 a5, .bool a6, .bool a7, .int .i64 a8, .int .i64 a9] 31)).cell? ⟨X, 5, none⟩ = some v := g6
  clear hq2 hlg hx HAPP HRW HRW1 HB1 hlt
  go_wp2_with fail
  go_region_law ((first
    | (refine step_append_run _ rfl _ _ _ _ rfl _ _ rfl rfl _ _ hrun ?_)
    | (refine step_buildSlice_run _ rfl _ _ _ rfl _ rfl _ _ (recV_laid a0 a1 a2 a3 a4 a5 a8 a9 a6 a7 _) ?_)))
  all_goals
    have hlast := walLast HLG.out
    rw [HLL.out] at hlast
    have HLAST := Lib.hid hlast
    clear hlast hrun k1 k2 g5 g6 g7 c0 c1 c2 c3 c4 c5 c6 c7 c8 c9
    go_wp2_with fail
    refine HLAST.out.mono ?_
    rintro e w5 ⟨rfl, hq5⟩
    have HLG5 := Lib.hid (HLG.out.below (hq5.below _))
    have HX5 := Lib.hid (HX.out.trans (Ext.of_below (hq5.below _)))
    clear hq5
    go_wp2_with fail
    go_ret2
    exact ⟨rfl, _, HLG5.out, HX5.out⟩
theorem walAppend {ea : Nat → Addr} {w : World} {X : Nat} {c : LogC} {v : Value} {L : List RecD} (h : Lg 97 w X c v L) (hs : Sen ea w) (r : RecD) (hr : r.W) (hok : okR r = true) (hroom : 1 ≤ roomN c L.length) (hl : L.length < 10000) :
    Calls Tryd.prog 28 #[.pointer (some ⟨X, 0, none⟩), recV r] w fun e w' => e = .returned (.tuple #[.int .i64 (c.base + L.length + 1), .nilIface]) ∧ ∃ v', Lg 97 w' X c v' (L ++ [r]) ∧ Ext (LogC.F X v) w (LogC.F X v') w' := walAppendE h (hs.cell 1 (by decide)) r hr hok hroom hl

theorem walDone {w : World} {X : Nat} {c : LogC} {v : Value} {L : List RecD} (h : Lg 97 w X c v L) (h0 : 0 ≤ c.done) (h1 : c.done ≤ 1000000) :
    Calls Tryd.prog 31 #[.pointer (some ⟨X, 0, none⟩)] w fun e w' => e = .returned (.int .i64 (c.base + c.done)) ∧ Qw w w' := by
  obtain ⟨_, _, _, h3, _, _, h6, _⟩ := h.cells
  have b0 := h.ok.b0
  have b1 := h.ok.b1
  clear h
  generalize c.base = b at *
  generalize c.done = d at *
  go_enter Tryd.func31, Tryd.ntmps31
  go_wp2_with fail
  go_quiet (fail)
  go_wp2_with fail
  go_ret
  exact ⟨rfl, _, rfl⟩
theorem walBase {w : World} {X : Nat} {c : LogC} {v : Value} {L : List RecD} (h : Lg 97 w X c v L) :
    Calls Tryd.prog 37 #[.pointer (some ⟨X, 0, none⟩)] w fun e w' => e = .returned (.int .i64 c.base) ∧ w = w' := by
  obtain ⟨_, _, _, h3, _, _, _, _⟩ := h.cells
  clear h
  generalize c.base = b at *
  go_enter Tryd.func37, Tryd.ntmps37
  go_wp2_with fail
  go_ret
  exact ⟨rfl, rfl⟩

set_option maxRecDepth 20000 in
set_option maxHeartbeats 2000000 in
theorem walAppendFull {ea : Nat → Addr} {w : World} {X : Nat} {c : LogC} {v : Value} {L : List RecD} (h : Lg 97 w X c v L) (hs : Sen ea w) (r : RecD) (hok : okR r = true) (hroom : roomN c L.length < 1) :
    Calls Tryd.prog 28 #[.pointer (some ⟨X, 0, none⟩), recV r] w fun e w' => e = .returned (.tuple #[.int .i64 0, eC ea 109]) ∧ Below w.heap.size w w' := by
  obtain ⟨W, hW⟩ : ∃ W, W = w.alloc (.cells (recCs r) 31) := ⟨_, rfl⟩
  have hbw : Below w.heap.size w W := by rw [hW]; exact (Below.refl _ _).alloc (Nat.le_refl _) _
  have HRW : Hid (RW w.heap.size (recCs r) W) := Lib.hid (by rw [hW]; exact RW.new w _)
  have hchk := recCheck r W _ ((hs.below hbw).cell 1 (by decide))
  rw [hok] at hchk
  dsimp only [errIf] at hchk
  rw [if_pos rfl] at hchk
  have HCHK := Lib.hid hchk
  have HROOM := Lib.hid (fun W' (hb : Below w.heap.size w W') => walRoom (h.below hb))
  have HE := Lib.hid (fun W' (hb : Below w.heap.size w W') => (show W'.cell? ⟨3, 0, none⟩ = some (eV ea 8) from (hs.below hb).cell 8 (by decide)))
  have HBW := Lib.hid hbw
  have HW := Lib.hid hW
  obtain ⟨rm, hrm⟩ : ∃ x, x = roomN c L.length := ⟨_, rfl⟩
  rw [← hrm] at HROOM hroom
  rw [show eC ea 109 = eV ea 8 from rfl]
  unfold eV at *
  clear hchk hrm hbw hW h hs hok
  obtain ⟨a0, a1, a2, a3, a4, a5, a6, a7, a8, a9⟩ := r
  dsimp only [recV, recCs] at *
  obtain ⟨A, hA⟩ : ∃ A, A = w.heap.size := ⟨_, rfl⟩
  have HSA := Lib.hid hA
  rw [← hA] at HRW
  obtain ⟨c0, c1, c2, c3, c4, c5, c6, c7, c8, c9⟩ := HRW.out.cells
  clear hA
  go_enter Tryd.func28, Tryd.ntmps28
  go_upto_region 1 with fail
  rw [← HW.out, ← HSA.out]
  go_wp2_with fail
  refine HCHK.out.mono ?_
  clear HCHK
  rintro e w1 ⟨rfl, hb1⟩
  have HB1 := Lib.hid (HBW.out.trans (hb1.mono HBW.out.size))
  clear hb1 c0 c1 c2 c3 c4 c5 c6 c7 c8 c9
  go_wp2_with fail
  refine (HROOM.out _ HB1.out).mono ?_
  clear HROOM
  rintro e w2 ⟨rfl, hq2⟩
  have HB2 := Lib.hid (HB1.out.trans (hq2.below _))
  have g0 := HE.out _ HB2.out
  clear hq2 HB1
  go_wp2_with fail
  go_region
  all_goals
    go_wp2_with fail
    go_ret2
    exact ⟨rfl, HB2.out.drew⟩

set_option maxRecDepth 20000 in
theorem walAppendBad {ea : Nat → Addr} {w : World} {X : Nat} (hs : Sen ea w) (r : RecD) (hok : okR r = false) :
    Calls Tryd.prog 28 #[.pointer (some ⟨X, 0, none⟩), recV r] w fun e w' => e = .returned (.tuple #[.int .i64 0, eC ea 102]) ∧ Below w.heap.size w w' := by
  obtain ⟨W, hW⟩ : ∃ W, W = w.alloc (.cells (recCs r) 31) := ⟨_, rfl⟩
  have hbw : Below w.heap.size w W := by rw [hW]; exact (Below.refl _ _).alloc (Nat.le_refl _) _
  have HRW : Hid (RW w.heap.size (recCs r) W) := Lib.hid (by rw [hW]; exact RW.new w _)
  have hchk := recCheck r W _ ((hs.below hbw).cell 1 (by decide))
  rw [hok] at hchk
  dsimp only [errIf] at hchk
  rw [if_neg (by decide)] at hchk
  rw [show eC ea 102 = eV ea 1 from rfl]
  unfold eV at *
  have HCHK := Lib.hid hchk
  have HBW := Lib.hid hbw
  have HW := Lib.hid hW
  clear hchk hbw hW hs hok
  obtain ⟨a0, a1, a2, a3, a4, a5, a6, a7, a8, a9⟩ := r
  dsimp only [recV, recCs] at *
  obtain ⟨A, hA⟩ : ∃ A, A = w.heap.size := ⟨_, rfl⟩
  have HSA := Lib.hid hA
  rw [← hA] at HRW
  obtain ⟨c0, c1, c2, c3, c4, c5, c6, c7, c8, c9⟩ := HRW.out.cells
  clear hA
  go_enter Tryd.func28, Tryd.ntmps28
  go_upto_region 1 with fail
  rw [← HW.out, ← HSA.out]
  go_wp2_with fail
  refine HCHK.out.mono ?_
  clear HCHK
  rintro e w1 ⟨rfl, hb1⟩
  have HB1 := Lib.hid (HBW.out.trans (hb1.mono HBW.out.size))
  clear hb1 c0 c1 c2 c3 c4 c5 c6 c7 c8 c9
  go_wp2_with fail
  go_ret2
  exact ⟨rfl, HB1.out⟩

theorem walFirst (w : World) : Calls Tryd.prog 24 #[] w fun e w' => e = .returned (.bool true) ∧ Below w.heap.size w w' := by
  go_enter Tryd.func24, Tryd.ntmps24
  go_wp2_with fail
  refine (dskNew 5 w).mono ?_
  rintro e w1 ⟨⟨H, g, rfl, _, _⟩, hb1'⟩
  have HB1 := Lib.hid hb1'
  clear hb1'
  go_wp2_with fail
  refine (walNew (.pointer (some ⟨H, 0, none⟩)) 1 2 7 1 w1 _ rfl).mono ?_
  rintro e w2 ⟨rfl, rfl⟩
  have hcx : LogC.Ok ⟨.pointer (some ⟨H, 0, none⟩), 1, 2, 7, 1, 0⟩ := ⟨by simp, by simp, by simp, by simp, by simp, by simp⟩
  have hx2 := Lg.new 97 w1 ⟨.pointer (some ⟨H, 0, none⟩), 1, 2, 7, 1, 0⟩ hcx
  have hb2 : Below w.heap.size w (w1.alloc (.cells (headCs ⟨.pointer (some ⟨H, 0, none⟩), 1, 2, 7, 1, 0⟩ (.slice none 0 0)) 97)) := HB1.out.alloc HB1.out.size _
  generalize (w1.alloc (.cells (headCs ⟨.pointer (some ⟨H, 0, none⟩), 1, 2, 7, 1, 0⟩ (.slice none 0 0)) 97)) = w2 at hx2 hb2 ⊢
  generalize w1.heap.size = X at hx2 ⊢
  have HX2 := Lib.hid hx2
  have HB2 := Lib.hid hb2
  clear hx2 hb2 HB1 hcx
  go_wp2_with fail
  refine (walLast HX2.out).mono ?_
  rintro e w3 ⟨rfl, hq3⟩
  have HX3 := Lib.hid (HX2.out.below (hq3.below _))
  have HB3 := Lib.hid (HB2.out.trans (hq3.below _))
  clear hq3 HX2 HB2
  go_wp2_with fail
  refine (walDone HX3.out (by simp) (by simp)).mono ?_
  rintro e w4 ⟨rfl, hq4⟩
  have HX4 := Lib.hid (HX3.out.below (hq4.below _))
  have HB4 := Lib.hid (HB3.out.trans (hq4.below _))
  clear hq4 HX3 HB3
  go_wp2_with fail
  refine (walBase HX4.out).mono ?_
  rintro e w5 ⟨rfl, rfl⟩
  have hroom := walRoom HX4.out
  rw [show roomN ⟨.pointer (some ⟨H, 0, none⟩), 1, 2, 7, 1, 0⟩ ([] : List RecD).length = 12 from rfl] at hroom
  have HROOM := Lib.hid hroom
  clear hroom
  go_wp2_with fail
  refine HROOM.out.mono ?_
  rintro e w6 ⟨rfl, hq6⟩
  have HB6 := Lib.hid (HB4.out.trans (hq6.below _))
  clear hq6 HROOM HX4 HB4
  go_wp2_with fail
  go_ret
  exact ⟨rfl, HB6.out⟩
end Go.Proofs.YtoikdhfihkbcbaaDoor
