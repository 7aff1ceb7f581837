/- Contract: the document's log's Append. -/
import Derived.Test.YtccfiohcblecoaaDoorRefA
import Derived.Test.YtccfiohcblecoaaDoorWalC
import Derived.Test.YtccfiohcblecoaaDoorRecsR
import Derived.Test.YtccfiohcblecoaaDoorRecGD
namespace Go.Proofs.YtccfiohcblecoaaDoor
open Go.RowKit
set_option linter.unusedVariables false

/-- what the store of the new records leaves -/
def AppPost (T : TypeId) (w : World) (X : Nat) (c : LogC) (v : Value) (L : List RecD) (r : RecD) (w3 : World) (gb cap : Nat) : Prop :=
  (w3.cell? ⟨X, 5, none⟩ = some v ∧ w3.frozen? ⟨X, 5, none⟩ = false) ∧
      Lg T (w3.setCell ⟨X, 5, none⟩ (.slice (some ⟨gb, 0, none⟩) (L.length + 1) cap)) X c (.slice (some ⟨gb, 0, none⟩) (L.length + 1) cap) (L ++ [r]) ∧
      Ext (LogC.F X v) w (LogC.F X (.slice (some ⟨gb, 0, none⟩) (L.length + 1) cap)) (w3.setCell ⟨X, 5, none⟩ (.slice (some ⟨gb, 0, none⟩) (L.length + 1) cap))

theorem Lg.putNew {T : TypeId} {w w2 : World} {X : Nat} {c : LogC} {v : Value} {L : List RecD} (h : Lg T w X c v L) (hb : Below w.heap.size w w2) {gb cap : Nat} (r : RecD) (ho : Og w.heap.size w2 (.slice (some ⟨gb, 0, none⟩) (L.length + 1) cap) (L ++ [r])) (hl : L.length < 10000) :
    AppPost T w X c v L r w2 gb cap := by
  obtain ⟨⟨k1, k2, _⟩, hlg, hx⟩ := h.put (w1 := w) (w2 := w2) (v' := .slice (some ⟨gb, 0, none⟩) (L.length + 1) cap) (M := L ++ [r]) (Below.refl _ _) ⟨hb.os, hb.tape, hb.output, hb.size, fun k hk _ => hb.block k hk⟩ (ho.mono (Nat.zero_le _))
    (fun b e => .inr (ho.lt e).1) (by rw [List.length_append]; simp; omega)
  exact ⟨⟨k1, k2⟩, hlg, hx⟩

theorem Lg.appendRA {T : TypeId} {w : World} {X : Nat} {c : LogC} {v : Value} {L : List RecD} (h : Lg T w X c v L) (r : RecD) (hr : r.W) (hl : L.length < 10000) {W : World} (hb : Below w.heap.size w W) :
    Calls Tryd.prog 97 #[v] W fun e w1 => ∃ o cp gb cap w3, e = .returned (.slice o L.length cp) ∧ Below W.heap.size W w1 ∧
      (Builtin.append_ #[60, 60] 60 #[.slice o L.length cp, .slice (some ⟨w1.heap.size, 0, none⟩) 1 1]).run Tryd.prog (w1.alloc (.cells (recCs r) 33)) = .ok (.slice (some ⟨gb, 0, none⟩) (L.length + 1) cap) w3 ∧ AppPost T w X c v L r w3 gb cap := by
  refine (recsRef v L W (h.below hb).own.gs h.len).mono ?_
  rintro e w1 ⟨o, cp, rfl, hb1, ho1⟩
  have hal : Below w1.heap.size w1 (w1.alloc (.cells (recCs r) 33)) := (Below.refl _ _).alloc (Nat.le_refl _) _
  have hoa := ho1.below hal
  obtain ⟨gb, cap, w3, hrun, ho3, hg3, hat, hlt, hc1, hc2⟩ := hoa.append1 r hr (by have := hb1.size; simp; omega) (by omega) w1.heap.size (RW.new w1 (recCs r)) 1 60
  have hb3 : Below w.heap.size w w3 := hoa.grown hg3 ((hb.trans (hb1.mono hb.size)).alloc (Nat.le_trans hb.size hb1.size) _) hb.size (by have := hb.size; have := hb1.size; simp; omega)
  exact ⟨o, cp, gb, cap, w3, rfl, hb1, hrun, h.putNew hb3 r (ho3.mono hb.size) hl⟩
theorem Lg.appendRB {T : TypeId} {w : World} {X : Nat} {c : LogC} {v : Value} {L : List RecD} (h : Lg T w X c v L) (r : RecD) (hr : r.W) (hl : L.length < 10000) {W : World} (hb : Below w.heap.size w W) :
    Calls Tryd.prog 97 #[v] (W.alloc (.cells (recCs r) 33)).drew fun e w1 => ∃ o cp gb cap w3, e = .returned (.slice o L.length cp) ∧
      (Builtin.append_ #[60, 60] 60 #[.slice o L.length cp, .slice (some ⟨W.heap.size, 0, none⟩) 1 1]).run Tryd.prog w1 = .ok (.slice (some ⟨gb, 0, none⟩) (L.length + 1) cap) w3 ∧ AppPost T w X c v L r w3 gb cap := by
  have hba : Below w.heap.size w (W.alloc (.cells (recCs r) 33)).drew := (hb.alloc hb.size _).drew
  refine (recsRef v L _ (h.below hba).own.gs h.len).mono ?_
  rintro e w1 ⟨o, cp, rfl, hb1, ho1⟩
  obtain ⟨gb, cap, w3, hrun, ho3, hg3, hat, hlt, hc1, hc2⟩ := ho1.append1 r hr hb1.size (by omega) W.heap.size (((RW.new W (recCs r)).below ((Below.refl _ _).drew)).below hb1) 1 60
  have hb3 : Below w.heap.size w w3 := ho1.grown hg3 (hba.trans (hb1.mono hba.size)) hba.size (Nat.le_trans hba.size hb1.size)
  exact ⟨o, cp, gb, cap, w3, rfl, hrun, h.putNew hb3 r (ho3.mono hba.size) hl⟩

set_option maxRecDepth 20000 in
set_option maxHeartbeats 2000000 in
theorem refAppend {w : World} {X : Nat} {c : LogC} {v : Value} {L : List RecD} (h : Lg 133 w X c v L) (r : RecD) (hr : r.W) (hok : okR r = true) (hroom : 1 ≤ roomN c L.length) (hl : L.length < 10000) :
    Calls Tryd.prog 69 #[.pointer (some ⟨X, 0, none⟩), recV r] w fun e w' => e = .returned (.tuple #[.int .i64 (c.base + L.length + 1), .int .i64 0]) ∧ ∃ v', Lg 133 w' X c v' (L ++ [r]) ∧ Ext (LogC.F X v) w (LogC.F X v') w' := by
  obtain ⟨W, hW⟩ : ∃ W, W = w.alloc (.cells (recCs r) 33) := ⟨_, rfl⟩
  have hbw : Below w.heap.size w W := by rw [hW]; exact (Below.refl _ _).alloc (Nat.le_refl _) _
  have HRW : Hid (RW w.heap.size (recCs r) W) := Lib.hid (by rw [hW]; exact RW.new w _)
  have hchk := goodRec r W
  rw [hok] at hchk
  have HCHK := Lib.hid hchk
  have HROOM := Lib.hid (fun W' (hb : Below w.heap.size w W') => refRoom (h.below hb))
  have HAA := Lib.hid (fun W' (hb : Below w.heap.size w W') => h.appendRA r hr hl hb.drew)
  have HAB := Lib.hid (fun W' (hb : Below w.heap.size w W') => h.appendRB r hr hl hb)
  have HC5 := Lib.hid (fun W' (hb : Below w.heap.size w W') => (h.below hb).cells)
  have HBW := Lib.hid hbw
  have HW := Lib.hid hW
  obtain ⟨rm, hrm⟩ : ∃ x, x = roomN c L.length := ⟨_, rfl⟩
  rw [← hrm] at HROOM hroom
  have HLL : Hid (c.base + (L ++ [r]).length = c.base + L.length + 1) := Lib.hid (by rw [List.length_append]; simp; omega)
  have hg : ¬ rm < 1 := by omega
  obtain ⟨ov, cv, hv, hv1, hv2, _, _⟩ := h.own.form
  subst hv
  unfold maxLen at hv2
  clear hchk hrm hbw hW h hr hok
  obtain ⟨a0, a1, a2, a3, a4, a5, a6, a7, a8, a9⟩ := r
  dsimp only [recV, recCs] at *
  obtain ⟨A, hA⟩ : ∃ A, A = w.heap.size := ⟨_, rfl⟩
  have HSA := Lib.hid hA
  rw [← hA] at HRW
  obtain ⟨c0, c1, c2, c3, c4, c5, c6, c7, c8, c9⟩ := HRW.out.cells
  clear hA
  go_enter Tryd.func69, Tryd.ntmps69
  go_upto_region 1 with fail
  rw [← HW.out, ← HSA.out]
  go_wp2_with fail
  refine HCHK.out.mono ?_
  clear HCHK
  rintro e w1 ⟨rfl, hb1⟩
  have HB1 := Lib.hid (HBW.out.trans (hb1.mono HBW.out.size))
  have HRW1 := Lib.hid (HRW.out.below hb1)
  clear hb1 c0 c1 c2 c3 c4 c5 c6 c7 c8 c9
  go_wp2_with fail
  refine (HROOM.out _ HB1.out).mono ?_
  clear HROOM
  rintro e w2 ⟨rfl, hq2⟩
  have HB2 := Lib.hid (HB1.out.trans (hq2.below _))
  have HRW2 := Lib.hid (HRW1.out.below (hq2.below _))
  have HAA2 := Lib.hid (HAA.out _ HB2.out)
  have HAB2 := Lib.hid (HAB.out _ HB2.out)
  obtain ⟨c0, c1, c2, c3, c4, c5, c6, c7, c8, c9⟩ := HRW2.out.cells
  obtain ⟨_, _, _, _, _, g5, _, _⟩ := HC5.out _ HB2.out
  have hlt := Below.lt g5
  have g6 : (w2.drew.alloc (.cells #[.int .i64 a0, .int .i64 a1, .int .i64 a2, .int .i64 a3, .int .i64 a4, .int .i64 a5, .bool a6, .bool a7, .int .i64 a8, .int .i64 a9] 33)).cell? ⟨X, 5, none⟩ = some (.slice ov L.length cv) := (World.cell?_of_block (a := ⟨X, 5, none⟩) (Below.heap_alloc w2.drew _ _ hlt)).trans g5
  have g7 : (w2.alloc (.cells #[.int .i64 a0, .int .i64 a1, .int .i64 a2, .int .i64 a3, .int .i64 a4, .int .i64 a5, .bool a6, .bool a7, .int .i64 a8, .int .i64 a9] 33)).cell? ⟨X, 5, none⟩ = some (.slice ov L.length cv) := g6
  clear hq2 HAA HAB HRW HRW1 HB1 hlt
  go_wp2_with fail
  go_region_law ((first
    | (go_simp; go_at_call 97; (with_reducible refine HAA2.out.mono ?_); rintro e w4 ⟨o, cp, gb, cap, w3, rfl, hb4, hrun, ⟨⟨k1, k2⟩, hlg, hx⟩⟩; obtain ⟨d0, d1, d2, d3, d4, d5, d6, d7, d8, d9⟩ := (HRW2.out.below (((Below.refl _ _).drew).trans hb4)).cells)
    | (go_simp; go_at_call 97; (with_reducible refine HAB2.out.mono ?_); rintro e w4 ⟨o, cp, gb, cap, w3, rfl, hrun, ⟨⟨k1, k2⟩, hlg, hx⟩⟩)
    | (refine step_append_run _ rfl _ _ _ _ rfl _ _ rfl rfl _ _ hrun ?_)
    | (refine step_buildSlice_run _ rfl _ _ _ rfl _ rfl _ _ (recV_laid a0 a1 a2 a3 a4 a5 a8 a9 a6 a7 _) ?_)))
  all_goals
    have HLG := Lib.hid hlg
    have HX := Lib.hid hx
    have hlast := refLast HLG.out
    rw [HLL.out] at hlast
    have HLAST := Lib.hid hlast
    clear hlast hrun k1 k2 g5 g6 g7 c0 c1 c2 c3 c4 c5 c6 c7 c8 c9 hlg hx
    go_wp2_with fail
    refine HLAST.out.mono ?_
    rintro e w5 ⟨rfl, hq5⟩
    have HLG5 := Lib.hid (HLG.out.below (hq5.below _))
    have HX5 := Lib.hid (HX.out.trans (Ext.of_below (hq5.below _)))
    clear hq5
    go_wp2_with fail
    go_ret2
    exact ⟨rfl, _, HLG5.out, HX5.out⟩
end Go.Proofs.YtccfiohcblecoaaDoor
