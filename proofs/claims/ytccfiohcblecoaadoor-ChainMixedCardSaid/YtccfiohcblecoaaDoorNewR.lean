/- Contract of the document's NewDisk, as far as what it leaves alone. -/
import Derived.Test.YtccfiohcblecoaaDoorDskN
namespace Go.Proofs.YtccfiohcblecoaaDoor
open Go.RowKit
set_option linter.unusedVariables false

/-- the document's disk in the making -/
def NewRAt (base H k : Nat) (wr : World) : Prop :=
  ∃ (v : Value) (xs : List Value), wr.heap[H]? = some (.cells #[v, .int .i64 (-1), .bool false] 136 (0, 0)) ∧ wr.ownsRow base 45 1 v k xs ∧ v.ownBlock ≠ some H

theorem versInfo : (Tryd.prog.info? 45).map (fun i => (i.zero, i.size, i.bytes)) = some (some (.slice none 0 0), 1, 24) := by kernel_rfl
theorem vers_laid (w : World) (g : Nat) : (Instr.buildSlice 45 1 #[(0, .slice (some ⟨g, 0, none⟩) 256 256)]).run Tryd.prog w = .ok (.slice (some ⟨w.heap.size, 0, none⟩) 1 1) (w.alloc (.cells #[.slice (some ⟨g, 0, none⟩) 256 256] 46)) := by kernel_rfl

theorem newR_step {base H k : Nat} {wr : World} (h : NewRAt base H k wr) (hbH : H < wr.heap.size) (hbase : base ≤ wr.heap.size) (hk : k ≤ 200) :
    ∃ v cur gb cap w3, wr.heap[H]? = some (.cells #[v, .int .i64 (-1), .bool false] 136 (0, 0)) ∧
      (Instr.makeSlice 46 (.int .i64 256) (.int .i64 256)).run Tryd.prog wr.drew = .ok (.slice (some ⟨wr.heap.size, 0, none⟩) 256 256) (wr.drew.alloc (.cells cur 5)) ∧
      (Builtin.append_ #[134, 134] 134 #[v, .slice (some ⟨wr.heap.size + 2, 0, none⟩) 1 1]).run Tryd.prog (((wr.drew.alloc (.cells cur 5)).alloc (.cells #[.slice (some ⟨wr.heap.size, 0, none⟩) 256 256] 46)).alloc (.cells #[.slice (some ⟨wr.heap.size + 1, 0, none⟩) 1 1] 45)) = .ok (.slice (some ⟨gb, 0, none⟩) (k + 1) cap) w3 ∧
      (w3.cell? ⟨H, 0, none⟩ = some v ∧ w3.frozen? ⟨H, 0, none⟩ = false) ∧ NewRAt base H (k + 1) (w3.setCell ⟨H, 0, none⟩ (.slice (some ⟨gb, 0, none⟩) (k + 1) cap)) ∧ Below (min base H) wr (w3.setCell ⟨H, 0, none⟩ (.slice (some ⟨gb, 0, none⟩) (k + 1) cap)) := by
  obtain ⟨v, xs, hH, hrow, hvH⟩ := h
  obtain ⟨cur, hmk, hob⟩ := byteT.make wr.drew base .i64 .i64 256 256 (by omega) (by omega) (by omega) hbase
  have e256 : (256 : Int).toNat = 256 := rfl
  rw [e256] at hmk hob
  obtain ⟨i0, hi0, hz0, hz1, hz2⟩ := info_parts versInfo
  obtain ⟨w1, hw1⟩ : ∃ w1, w1 = (wr.drew.alloc (.cells cur 5)).alloc (.cells #[.slice (some ⟨wr.heap.size, 0, none⟩) 256 256] 46) := ⟨_, rfl⟩
  have hsz1 : w1.heap.size = wr.heap.size + 2 := by rw [hw1, allocSize, allocSize]; rfl
  have hb1 : Below wr.heap.size wr w1 := by rw [hw1]; exact (((Below.refl _ _).drew).alloc (Nat.le_refl _) _).alloc (by rw [allocSize]; exact Nat.le_succ _) _
  obtain ⟨w2, hw2⟩ : ∃ w2, w2 = w1.alloc (.cells #[.slice (some ⟨wr.heap.size + 1, 0, none⟩) 1 1] 45) := ⟨_, rfl⟩
  have hsz2 : w2.heap.size = wr.heap.size + 3 := by rw [hw2, allocSize, hsz1]
  have hb2 : Below wr.heap.size wr w2 := by rw [hw2]; exact hb1.alloc (by omega) _
  have hnew : w2.heap[wr.heap.size + 2]? = some (.cells #[.slice (some ⟨wr.heap.size + 1, 0, none⟩) 1 1] 45 (0, 0)) := by
    have h := heap_alloc_new w1 (.cells #[.slice (some ⟨wr.heap.size + 1, 0, none⟩) 1 1] 45)
    rw [← hw2, hsz1] at h; exact h
  have hvlt : ∀ b, v.ownBlock = some b → b < wr.heap.size := fun b e => (hrow.lt b e).2
  have hrow2 : w2.ownsRow base 45 1 v k xs := ownsRow_same hrow fun b e => hb2.block b (hvlt b e)
  obtain ⟨gb, cap, w3, hrun, hown3, hgrow, hat, hlt⟩ := run_append_lies (P := Tryd.prog) w2 134 134 base 45 i0 _ 1 24 Tryd.underlying134 hi0 hz0 hz1 hz2 rfl (by omega)
    v k xs hrow2 ⟨wr.heap.size + 2, 0, none⟩ 1 1 [.slice (some ⟨wr.heap.size + 1, 0, none⟩) 1 1] rfl (World.news_of_block (cs := #[.slice (some ⟨wr.heap.size + 1, 0, none⟩) 1 1]) (t := 45) (fr := (0, 0)) hnew) (by simp [Value.oneCell']) (by omega) (by simp [maxLen]; omega) (by omega) (by omega) _ rfl
  have hgsz := hgrow.size
  have hgb : v.ownBlock = some gb ∨ wr.heap.size + 3 ≤ gb := hat.imp id fun e => by omega
  have hgbH : gb ≠ H := fun e => by
    rcases hgb with e1 | e1
    · exact hvH (by rw [← e]; exact e1)
    · omega
  have hkeep : ∀ c, c < wr.heap.size + 3 → v.ownBlock ≠ some c → w3.heap[c]? = w2.heap[c]? := fun c hc hne => hgrow.block c (by omega) fun e => hne e.symm
  have hne : ∀ c, c ≠ H → (w3.setCell ⟨H, 0, none⟩ (.slice (some ⟨gb, 0, none⟩) (k + 1) cap)).heap[c]? = w3.heap[c]? := fun c hc => setCell_otherD w3 _ _ hc
  have hH3 : w3.heap[H]? = some (.cells #[v, .int .i64 (-1), .bool false] 136 (0, 0)) := (hkeep H (by omega) hvH).trans ((hb2.block H hbH).trans hH)
  rw [hw2, hw1] at hrun
  refine ⟨v, cur, gb, cap, w3, hH, hmk, hrun, ⟨?_, rowFrozen hH3 0⟩, ⟨.slice (some ⟨gb, 0, none⟩) (k + 1) cap, xs ++ [.slice (some ⟨wr.heap.size + 1, 0, none⟩) 1 1], ?_, ?_, ?_⟩, ?_⟩
  · rw [cell_of_row w3 H _ _ _ (0, 0) hH3]; rfl
  · rw [setCell_rowD hH3]; rfl
  · exact ownsRow_same hown3 fun b e => hne b fun e2 => hgbH (by have : gb = b := by simpa [Value.ownBlock] using e
                                                                 rw [this, e2])
  · intro e; exact hgbH (by simpa [Value.ownBlock] using e)
  · refine (Below.grown (B := min base H) (hb2.mono (by omega)) hgrow (by omega) (fun b e => ?_)).setCell (by simp; omega) _
    have := (hrow.lt b e).1
    omega

set_option maxRecDepth 20000 in
set_option maxHeartbeats 2000000 in
theorem refNewDisk (w : World) :
    Calls Tryd.prog 68 #[.int .i64 30] w fun e w' => (∃ H, e = .returned (.pointer (some ⟨H, 0, none⟩))) ∧ Below w.heap.size w w' := by
  have h0 : NewRAt w.heap.size w.heap.size 0 (w.alloc (.cells #[.slice none 0 0, .int .i64 (-1), .bool false] 136)) :=
    ⟨.slice none 0 0, [], heap_alloc_new w _, World.ownsRow_nil _ _ _ _, by simp [Value.ownBlock]⟩
  have H0 := Lib.hid h0
  have HB0 : Hid (Below w.heap.size w (w.alloc (.cells #[.slice none 0 0, .int .i64 (-1), .bool false] 136))) := Lib.hid ((Below.refl _ _).alloc (Nat.le_refl _) _)
  have HS0 : Hid (w.heap.size < (w.alloc (.cells #[.slice none 0 0, .int .i64 (-1), .bool false] 136)).heap.size) := Lib.hid (by simp)
  clear h0
  go_enter Tryd.func68, Tryd.ntmps68
  go_wp2_with fail
  generalize (w.alloc (.cells #[.slice none 0 0, .int .i64 (-1), .bool false] 136)) = w1 at H0 HB0 HS0 ⊢
  go_loopw [4] (fun i wr => ∃ k : Nat, i = .int .i64 k ∧ (k : Int) ≤ 30 ∧ Hid (Below w.heap.size w wr) ∧ Hid (NewRAt w.heap.size w.heap.size k wr) ∧ Hid (w.heap.size < wr.heap.size)) (fun i _ => 30 - (intOf i).toNat)
  case atStart => exact ⟨0, rfl, by omega, HB0, H0, HS0⟩
  case round =>
    obtain ⟨k, rfl, hk, HBR, HNR, HSR⟩ := hrel
    by_cases hk2 : (k : Int) < 30
    · obtain ⟨v, cur, gb, cap, w3, hH, hmk, hrun, hcf, hnx, hbx⟩ := newR_step HNR.out HSR.out (by have := HSR.out; omega) (by omega)
      have hlt := HSR.out
      have c0 : wr.cell? ⟨w.heap.size, 0, none⟩ = some v := by rw [cell_of_row wr _ _ _ _ (0, 0) hH]; rfl
      have c1 : (wr.drew.alloc (.cells cur 5)).cell? ⟨w.heap.size, 0, none⟩ = some v := (World.cell?_of_block (a := ⟨w.heap.size, 0, none⟩) (Below.heap_alloc wr.drew (.cells cur 5) _ hlt)).trans c0
      have c2 : ((wr.drew.alloc (.cells cur 5)).alloc (.cells #[.slice (some ⟨wr.heap.size, 0, none⟩) 256 256] 46)).cell? ⟨w.heap.size, 0, none⟩ = some v := (World.cell?_of_block (a := ⟨w.heap.size, 0, none⟩) (Below.heap_alloc (wr.drew.alloc (.cells cur 5)) (.cells #[.slice (some ⟨wr.heap.size, 0, none⟩) 256 256] 46) _ (by rw [allocSize]; exact Nat.lt_succ_of_lt hlt))).trans c1
      have c2b : (((wr.drew.alloc (.cells cur 5)).alloc (.cells #[.slice (some ⟨wr.heap.size, 0, none⟩) 256 256] 46)).alloc (.cells #[.slice (some ⟨wr.heap.size + 1, 0, none⟩) 1 1] 45)).cell? ⟨w.heap.size, 0, none⟩ = some v := (World.cell?_of_block (a := ⟨w.heap.size, 0, none⟩) (Below.heap_alloc ((wr.drew.alloc (.cells cur 5)).alloc (.cells #[.slice (some ⟨wr.heap.size, 0, none⟩) 256 256] 46)) (.cells #[.slice (some ⟨wr.heap.size + 1, 0, none⟩) 1 1] 45) _ (by rw [allocSize, allocSize]; exact Nat.lt_succ_of_lt (Nat.lt_succ_of_lt hlt)))).trans c2
      have d1 : (wr.alloc (.cells cur 5)).cell? ⟨w.heap.size, 0, none⟩ = some v := c1
      have d2 : ((wr.alloc (.cells cur 5)).alloc (.cells #[.slice (some ⟨wr.heap.size, 0, none⟩) 256 256] 46)).cell? ⟨w.heap.size, 0, none⟩ = some v := c2
      have d2b : (((wr.alloc (.cells cur 5)).alloc (.cells #[.slice (some ⟨wr.heap.size, 0, none⟩) 256 256] 46)).alloc (.cells #[.slice (some ⟨wr.heap.size + 1, 0, none⟩) 1 1] 45)).cell? ⟨w.heap.size, 0, none⟩ = some v := c2b
      have c3 := hcf.1
      have c4 := hcf.2
      have HNX := Lib.hid hnx
      have HBX : Hid (Below w.heap.size w (w3.setCell ⟨w.heap.size, 0, none⟩ (.slice (some ⟨gb, 0, none⟩) (k + 1) cap))) := Lib.hid (HBR.out.trans (by simpa using hbx))
      have HSX : Hid (w.heap.size < (w3.setCell ⟨w.heap.size, 0, none⟩ (.slice (some ⟨gb, 0, none⟩) (k + 1) cap)).heap.size) := Lib.hid (Nat.lt_of_lt_of_le hlt hbx.size)
      clear hH hnx hbx hcf HBR HNR HSR hlt
      go_wp2_with fail
      go_region_law ((first
        | (refine step_append_run _ rfl _ _ _ _ rfl _ _ rfl rfl _ _ hrun ?_)
        | (refine step_buildSlice_run _ rfl _ _ _ rfl _ rfl _ _ (vers_laid _ _) ?_)))
      all_goals
        go_wp2_with fail
        go_roundw
        case rel => exact ⟨k + 1, by go_num, by omega, HBX, HNX, HSX⟩
        case measure => simp [intOf]; omega
    · go_wp2_with fail
      go_ret
      first | exact ⟨⟨_, rfl⟩, HBR.out⟩ | exact ⟨_, HBR.out⟩ | exact HBR.out
end Go.Proofs.YtccfiohcblecoaaDoor
