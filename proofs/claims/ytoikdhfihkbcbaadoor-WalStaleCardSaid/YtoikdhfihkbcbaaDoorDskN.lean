/- Contract of disk.New. -/
import Derived.Test.YtoikdhfihkbcbaaDoorDskW
import Derived.Deep.Cut
namespace Go.Proofs.YtoikdhfihkbcbaaDoor
open Go.RowKit
set_option linter.unusedVariables false

theorem wp_buildSlice_run {P : Program} {o : Oper} {a : Act} {w : World} {K : Act → World → Prop} {Q : Exit → Act → World → Prop} (t : TypeId) (n : Nat) (ps : Array (Nat × Operand)) (ho : o.op = .buildSlice t n ps) (vs : Array (Nat × Value)) (hv : (ps.map fun (i, x) => (i, a.eval x)) = vs) (v' : Value) (w' : World)
    (hr : (Instr.buildSlice t n vs).run P w = .ok v' w') (h : K (a.put o.dst v') w') : o.wp P a w K Q := by
  unfold Oper.wp execOp
  simp only [ho, hv, Sem.run_bind, Sem.run_pure, Result.andThen_ok, hr]
  exact h
theorem step_buildSlice_run {P : Program} (w : World) {ops : Array Oper} {o : Oper} {a : Act} {K : Act → World → Prop} {Q : Exit → Act → World → Prop} {E : Prop} (hgd : o.guard = none) (t : TypeId) (n : Nat) (ps : Array (Nat × Operand)) (ho : o.op = .buildSlice t n ps) (vs : Array (Nat × Value)) (hv : (ps.map fun (i, x) => (i, a.eval x)) = vs) (v' : Value) (w' : World)
    (hr : (Instr.buildSlice t n vs).run P w = .ok v' w') (h : K (a.put o.dst v') w') : if Region.wanted o (yielded ops a.tmps) = true then Oper.wp P o a w K Q else E := by
  have hw : Region.wanted o (yielded ops a.tmps) = true := by simp [Region.wanted, hgd]
  rw [if_pos hw]
  exact wp_buildSlice_run t n ps ho vs hv v' w' hr h

theorem allocSize (w : World) (o : Obj) : (w.alloc o).heap.size = w.heap.size + 1 := by simp
/-- a disk in the making: k sectors -/
def NewAt (base H k : Nat) (wr : World) : Prop :=
  ∃ (v : Value) (us : Nat → Nat) (xs : List Value), wr.heap[H]? = some (.cells #[v, .bool false, .int .i64 (-1)] 93 (0, 0)) ∧ wr.ownsRow base 95 2 v k xs ∧ v.ownBlock ≠ some H ∧
    ∀ i, i < k → xs[i * 2]? = some (.slice (some ⟨us i, 0, none⟩) 256 256) ∧ xs[i * 2 + 1]? = some (.slice none 0 0) ∧ base ≤ us i ∧ us i < wr.heap.size ∧ us i ≠ H ∧ v.ownBlock ≠ some (us i) ∧ Ob 5 base wr (.slice (some ⟨us i, 0, none⟩) 256 256) (List.replicate 256 0)

theorem sectorInfo : (Tryd.prog.info? 95).map (fun i => (i.zero, i.size, i.bytes)) = some (some (.agg #[.slice none 0 0, .slice none 0 0]), 2, 48) := by kernel_rfl
theorem sector_laid (w : World) (g : Nat) : (Instr.buildSlice 91 1 #[(0, .agg #[.slice (some ⟨g, 0, none⟩) 256 256, .slice none 0 0])]).run Tryd.prog w = .ok (.slice (some ⟨w.heap.size, 0, none⟩) 1 1) (w.alloc (.cells #[.slice (some ⟨g, 0, none⟩) 256 256, .slice none 0 0] 95)) := by kernel_rfl

theorem new_step {base H k : Nat} {wr : World} (h : NewAt base H k wr) (hbH : H < wr.heap.size) (hbase : base ≤ wr.heap.size) (hk : k ≤ 200) :
    ∃ v cur gb cap w3, wr.heap[H]? = some (.cells #[v, .bool false, .int .i64 (-1)] 93 (0, 0)) ∧
      (Instr.makeSlice 33 (.int .i64 256) (.int .i64 256)).run Tryd.prog wr.drew = .ok (.slice (some ⟨wr.heap.size, 0, none⟩) 256 256) (wr.drew.alloc (.cells cur 5)) ∧
      (Builtin.append_ #[91, 91] 91 #[v, .slice (some ⟨wr.heap.size + 1, 0, none⟩) 1 1]).run Tryd.prog ((wr.drew.alloc (.cells cur 5)).alloc (.cells #[.slice (some ⟨wr.heap.size, 0, none⟩) 256 256, .slice none 0 0] 95)) = .ok (.slice (some ⟨gb, 0, none⟩) (k + 1) cap) w3 ∧
      (w3.cell? ⟨H, 0, none⟩ = some v ∧ w3.frozen? ⟨H, 0, none⟩ = false) ∧ NewAt base H (k + 1) (w3.setCell ⟨H, 0, none⟩ (.slice (some ⟨gb, 0, none⟩) (k + 1) cap)) ∧ Below (min base H) wr (w3.setCell ⟨H, 0, none⟩ (.slice (some ⟨gb, 0, none⟩) (k + 1) cap)) := by
  obtain ⟨v, us, xs, hH, hrow, hvH, hx⟩ := h
  obtain ⟨cur, hmk, hob⟩ := byteT.make wr.drew base .i64 .i64 256 256 (by omega) (by omega) (by omega) hbase
  have e256 : (256 : Int).toNat = 256 := rfl
  rw [e256] at hmk hob
  obtain ⟨i0, hi0, hz0, hz1, hz2⟩ := info_parts sectorInfo
  obtain ⟨w2, hw2⟩ : ∃ w2, w2 = (wr.drew.alloc (.cells cur 5)).alloc (.cells #[.slice (some ⟨wr.heap.size, 0, none⟩) 256 256, .slice none 0 0] 95) := ⟨_, rfl⟩
  have hsz2 : w2.heap.size = wr.heap.size + 2 := by rw [hw2, allocSize, allocSize]; rfl
  have hb2 : Below wr.heap.size wr w2 := by rw [hw2]; exact (((Below.refl _ _).drew).alloc (Nat.le_refl _) _).alloc (by rw [allocSize]; exact Nat.le_succ _) _
  have hnew : w2.heap[wr.heap.size + 1]? = some (.cells #[.slice (some ⟨wr.heap.size, 0, none⟩) 256 256, .slice none 0 0] 95 (0, 0)) := by
    have h := heap_alloc_new (wr.drew.alloc (.cells cur 5)) (.cells #[.slice (some ⟨wr.heap.size, 0, none⟩) 256 256, .slice none 0 0] 95)
    rw [← hw2] at h
    have e : (wr.drew.alloc (.cells cur 5)).heap.size = wr.heap.size + 1 := by rw [allocSize]; rfl
    rw [e] at h; exact h
  have hvlt : ∀ b, v.ownBlock = some b → b < wr.heap.size := fun b e => (hrow.lt b e).2
  have hrow2 : w2.ownsRow base 95 2 v k xs := ownsRow_same hrow fun b e => hb2.block b (hvlt b e)
  have hob2 : Ob 5 base w2 (.slice (some ⟨wr.heap.size, 0, none⟩) 256 256) (List.replicate 256 0) := by rw [hw2]; exact hob.below ((Below.refl _ _).alloc (Nat.le_refl _) _)
  obtain ⟨gb, cap, w3, hrun, hown3, hgrow, hat, hlt⟩ := run_append_lies (P := Tryd.prog) w2 91 91 base 95 i0 _ 2 48 Tryd.underlying91 hi0 hz0 hz1 hz2 rfl (by omega)
    v k xs hrow2 ⟨wr.heap.size + 1, 0, none⟩ 1 1 [.slice (some ⟨wr.heap.size, 0, none⟩) 256 256, .slice none 0 0] rfl (World.news_of_block (cs := #[.slice (some ⟨wr.heap.size, 0, none⟩) 256 256, .slice none 0 0]) (t := 95) (fr := (0, 0)) hnew) (by simp [Value.oneCell']) (by omega) (by simp [maxLen]; omega) (by omega) (by omega) _ rfl
  have hgsz := hgrow.size
  have hgb : v.ownBlock = some gb ∨ wr.heap.size + 2 ≤ gb := hat.imp id fun e => by omega
  have hgbH : gb ≠ H := fun e => by
    rcases hgb with e1 | e1
    · exact hvH (by rw [← e]; exact e1)
    · omega
  have hkeep : ∀ c, c < wr.heap.size + 2 → v.ownBlock ≠ some c → w3.heap[c]? = w2.heap[c]? := fun c hc hne => hgrow.block c (by omega) fun e => hne e.symm
  have hne : ∀ c, c ≠ H → (w3.setCell ⟨H, 0, none⟩ (.slice (some ⟨gb, 0, none⟩) (k + 1) cap)).heap[c]? = w3.heap[c]? := fun c hc => setCell_otherD w3 _ _ hc
  have hH3 : w3.heap[H]? = some (.cells #[v, .bool false, .int .i64 (-1)] 93 (0, 0)) := (hkeep H (by omega) hvH).trans ((hb2.block H hbH).trans hH)
  have hgbR : ∀ b, b < wr.heap.size + 2 → v.ownBlock ≠ some b → b ≠ gb := fun b hb hv e => by
    rcases hgb with e1 | e1
    · exact hv (by rw [e]; exact e1)
    · omega
  rw [hw2] at hrun
  refine ⟨v, cur, gb, cap, w3, hH, hmk, hrun, ⟨?_, rowFrozen hH3 0⟩, ⟨.slice (some ⟨gb, 0, none⟩) (k + 1) cap, upd us k wr.heap.size, xs ++ [.slice (some ⟨wr.heap.size, 0, none⟩) 256 256, .slice none 0 0], ?_, ?_, ?_, ?_⟩, ?_⟩
  · rw [cell_of_row w3 H _ _ _ (0, 0) hH3]; rfl
  · rw [setCell_rowD hH3]; rfl
  · exact ownsRow_same hown3 fun b e => hne b fun e2 => hgbH (by have : gb = b := by simpa [Value.ownBlock] using e
                                                                 rw [this, e2])
  · intro e; exact hgbH (by simpa [Value.ownBlock] using e)
  · intro i hi
    have hxl : xs.length = k * 2 := hrow.1
    by_cases hik : i = k
    · subst hik
      rw [upd_at]
      have hvn : v.ownBlock ≠ some wr.heap.size := fun e => by have := hvlt _ e; omega
      refine ⟨?_, ?_, hbase, ?_, by omega, ?_, ?_⟩
      · rw [List.getElem?_append_right (by omega), hxl]; simp
      · rw [List.getElem?_append_right (by omega), hxl]; simp
      · rw [setCell_sizeD]; omega
      · intro e
        have e' : gb = wr.heap.size := by simpa [Value.ownBlock] using e
        exact hgbR _ (by omega) hvn e'.symm
      · refine ⟨hob2.1, ownsRow_same hob2.2 fun b e => ?_⟩
        have e' : wr.heap.size = b := by simpa [Value.ownBlock] using e
        subst e'
        rw [hne _ (by omega), hkeep _ (by omega) hvn]
    · obtain ⟨h1, h2, h3, h4, h5, h6, h7⟩ := hx i (by omega)
      rw [upd_ne _ _ hik]
      refine ⟨?_, ?_, h3, ?_, h5, ?_, ?_⟩
      · rw [List.getElem?_append_left (by omega)]; exact h1
      · rw [List.getElem?_append_left (by omega)]; exact h2
      · rw [setCell_sizeD]; omega
      · intro e
        have e' : gb = us i := by simpa [Value.ownBlock] using e
        exact hgbR _ (by omega) h6 e'.symm
      · refine ⟨h7.1, ownsRow_same h7.2 fun b e => ?_⟩
        have e' : us i = b := by simpa [Value.ownBlock] using e
        subst e'
        rw [hne _ h5, hkeep _ (by omega) h6, hb2.block _ h4]
  · refine (Below.grown (B := min base H) (hb2.mono (by omega)) hgrow (by omega) (fun b e => ?_)).setCell (by simp; omega) _
    have := (hrow.lt b e).1
    omega

theorem new_done {base H k : Nat} {w : World} (h : NewAt base H k w) (h1 : 1 ≤ k) (h2 : k ≤ 200) (hH : base ≤ H) :
    ∃ g, Dk w H ⟨List.replicate k sec0, false, -1⟩ g ∧ ∀ b, g.F H k b → base ≤ b := by
  obtain ⟨v, us, xs, hrowH, hrow, hvH, hx⟩ := h
  rcases hrow.2 with ⟨_, h0⟩ | ⟨G, cap, cur, rfl, hbG, hG, hcap, hcm, hcs, htake⟩
  · omega
  have hxl : xs.length = k * 2 := hrow.1
  have hsec : ∀ i, i < k → DiskD.sec ⟨List.replicate k sec0, false, -1⟩ i = sec0 := fun i hi => by simp [DiskD.sec, List.getD_eq_getElem?_getD, hi]
  have hcur : ∀ j, j < k * 2 → cur[j]? = xs[j]? := fun j hj => by
    rw [← htake, List.getElem?_take, if_pos hj]; simp
  refine ⟨⟨G, cap, fun i => .slice (some ⟨us i, 0, none⟩) 256 256, fun _ => .slice none 0 0, fun b => ∃ i, i < k ∧ us i = b⟩, ?_, ?_⟩
  · constructor
    · simpa using hrowH
    · exact ⟨cur, hG, hcs, fun i hi => by
        have hi' : i < k := by simpa using hi
        obtain ⟨e1, e2, _⟩ := hx i hi'
        exact ⟨(hcur _ (by omega)).trans e1, (hcur _ (by omega)).trans e2⟩⟩
    · simpa using hcap
    · exact hcm
    · simpa using h1
    · simpa using h2
    · show (-1 : Int) ≤ -1; omega
    · show (-1 : Int) ≤ _; omega
    · intro i hi
      have hi' : i < k := by simpa using hi
      rw [hsec i hi']
      obtain ⟨_, _, h3, h4, h5, h6, h7⟩ := hx i hi'
      exact ⟨⟨h7.bs, fun b e => ⟨i, hi', by simpa [Value.ownBlock] using e⟩⟩, List.length_replicate, LooseAt.nil _ _, fun b hb => absurd hb (List.not_mem_nil), Nat.zero_le _⟩
    · rintro b ⟨i, hi, rfl⟩
      obtain ⟨_, _, h3, h4, h5, h6, h7⟩ := hx i hi
      exact ⟨h4, h5, fun e => h6 (by simp [Value.ownBlock, e]), fun j _ e => by simp [Value.ownBlock] at e⟩
    · intro e; exact hvH (by simp [Value.ownBlock]; exact e)
    · intro i hi; exact ⟨fun e => by simp [Value.ownBlock] at e, fun e => by simp [Value.ownBlock] at e⟩
    · intro i j hi hj hij b e; simp [Value.ownBlock] at e
  · rintro b (rfl | rfl | ⟨i, hi, e⟩ | ⟨i, hi, rfl⟩)
    · exact hH
    · exact hbG
    · simp [Value.ownBlock] at e
    · exact (hx i hi).2.2.1

set_option maxRecDepth 20000 in
set_option maxHeartbeats 2000000 in
theorem dskNew (n : Int) (w : World) :
    Calls Tryd.prog 25 #[.int .i64 n] w fun e w' => (∃ H g, e = .returned (.pointer (some ⟨H, 0, none⟩)) ∧ Dk w' H (newD n) g ∧ (∀ b, g.F H (newD n).l.length b → w.heap.size ≤ b)) ∧ Below w.heap.size w w' := by
  have hN := newN_bounds n
  obtain ⟨N, hn⟩ : ∃ N, N = newN n := ⟨_, rfl⟩
  have HD : Hid (newD n = ⟨List.replicate N sec0, false, -1⟩) := Lib.hid (by rw [hn]; rfl)
  have HL : Hid ((newD n).l.length = N) := Lib.hid (by rw [hn]; exact newD_len n)
  have HNN : Hid ((N : Int) = min (max n 1) 200) := Lib.hid (by rw [hn]; unfold newN; omega)
  rw [← hn] at hN
  clear hn
  obtain ⟨hN1, hN2⟩ := hN
  have h0 : NewAt w.heap.size w.heap.size 0 (w.alloc (.cells #[.slice none 0 0, .bool false, .int .i64 (-1)] 93)) :=
    ⟨.slice none 0 0, fun _ => 0, [], heap_alloc_new w _, World.ownsRow_nil _ _ _ _, by simp [Value.ownBlock], fun i hi => absurd hi (by omega)⟩
  have H0 := Lib.hid h0
  have HB0 : Hid (Below w.heap.size w (w.alloc (.cells #[.slice none 0 0, .bool false, .int .i64 (-1)] 93))) := Lib.hid ((Below.refl _ _).alloc (Nat.le_refl _) _)
  have HS0 : Hid (w.heap.size < (w.alloc (.cells #[.slice none 0 0, .bool false, .int .i64 (-1)] 93)).heap.size) := Lib.hid (by simp)
  clear h0
  go_enter Tryd.func25, Tryd.ntmps25
  go_upto_region 2 with fail
  generalize (w.alloc (.cells #[.slice none 0 0, .bool false, .int .i64 (-1)] 93)) = w1 at H0 HB0 HS0 ⊢
  go_cut [8, 9] from 10 (fun s8 s9 wx => s8 = .int .i64 N ∧ s9 = .int .i64 0 ∧ wx = w1)
  case first =>
    have e1 := HNN.out
    by_cases ha : n ≤ 1
    · go_wp2_with fail
      all_goals
        go_meet
        exact ⟨by congr 1; omega, rfl, rfl⟩
    · by_cases hb : n ≤ 200
      · go_wp2_with fail
        all_goals
          go_meet
          exact ⟨by congr 1; omega, rfl, rfl⟩
      · go_wp2_with fail
        all_goals
          go_meet
          exact ⟨by congr 1; omega, rfl, rfl⟩
  obtain ⟨rfl, rfl, rfl⟩ := hcut
  go_wp2_with fail
  go_loopw [9] (fun i wr => ∃ k : Nat, i = .int .i64 k ∧ (k : Int) ≤ N ∧ Hid (Below w.heap.size w wr) ∧ Hid (NewAt w.heap.size w.heap.size k wr) ∧ Hid (w.heap.size < wr.heap.size)) (fun i _ => N - (intOf i).toNat)
  case atStart => exact ⟨0, rfl, by omega, HB0, H0, HS0⟩
  case round =>
    obtain ⟨k, rfl, hk, HBR, HNR, HSR⟩ := hrel
    by_cases hk2 : (k : Int) < N
    · obtain ⟨v, cur, gb, cap, w3, hH, hmk, hrun, hcf, hnx, hbx⟩ := new_step HNR.out HSR.out (by have := HSR.out; omega) (by omega)
      have hlt := HSR.out
      have c0 : wr.cell? ⟨w.heap.size, 0, none⟩ = some v := by rw [cell_of_row wr _ _ _ _ (0, 0) hH]; rfl
      have c1 : (wr.drew.alloc (.cells cur 5)).cell? ⟨w.heap.size, 0, none⟩ = some v := (World.cell?_of_block (a := ⟨w.heap.size, 0, none⟩) (Below.heap_alloc wr.drew (.cells cur 5) _ hlt)).trans c0
      have c2 : ((wr.drew.alloc (.cells cur 5)).alloc (.cells #[.slice (some ⟨wr.heap.size, 0, none⟩) 256 256, .slice none 0 0] 95)).cell? ⟨w.heap.size, 0, none⟩ = some v := (World.cell?_of_block (a := ⟨w.heap.size, 0, none⟩) (Below.heap_alloc (wr.drew.alloc (.cells cur 5)) (.cells #[.slice (some ⟨wr.heap.size, 0, none⟩) 256 256, .slice none 0 0] 95) _ (by rw [allocSize]; exact Nat.lt_succ_of_lt hlt))).trans c1
      have d1 : (wr.alloc (.cells cur 5)).cell? ⟨w.heap.size, 0, none⟩ = some v := c1
      have d2 : ((wr.alloc (.cells cur 5)).alloc (.cells #[.slice (some ⟨wr.heap.size, 0, none⟩) 256 256, .slice none 0 0] 95)).cell? ⟨w.heap.size, 0, none⟩ = some v := c2
      have c3 := hcf.1
      have c4 := hcf.2
      have HNX := Lib.hid hnx
      have HBX : Hid (Below w.heap.size w (w3.setCell ⟨w.heap.size, 0, none⟩ (.slice (some ⟨gb, 0, none⟩) (k + 1) cap))) := Lib.hid (HBR.out.trans (by simpa using hbx))
      have HSX : Hid (w.heap.size < (w3.setCell ⟨w.heap.size, 0, none⟩ (.slice (some ⟨gb, 0, none⟩) (k + 1) cap)).heap.size) := Lib.hid (Nat.lt_of_lt_of_le hlt hbx.size)
      clear hH hnx hbx hcf HBR HNR HSR hlt
      go_wp2_with fail
      go_region_law ((first
        | (refine step_append_run _ rfl _ _ _ _ rfl _ _ rfl rfl _ _ hrun ?_)
        | (refine step_buildSlice_run _ rfl _ _ _ rfl _ rfl _ _ (sector_laid _ _) ?_)))
      all_goals
        go_wp2_with fail
        go_roundw
        case rel => exact ⟨k + 1, by go_num, by omega, HBX, HNX, HSX⟩
        case measure => simp [intOf]; omega
    · obtain rfl : k = N := by omega
      obtain ⟨g, hd, hlow⟩ := new_done HNR.out hN1 hN2 (Nat.le_refl _)
      rw [← HD.out] at hd
      rw [← HL.out] at hlow
      have HDK := Lib.hid hd
      have HLW := Lib.hid hlow
      clear hd hlow
      go_wp2_with fail
      go_ret
      first | exact ⟨⟨_, g, rfl, HDK.out, HLW.out⟩, HBR.out⟩ | exact ⟨⟨_, rfl, g, HDK.out, HLW.out⟩, HBR.out⟩
end Go.Proofs.YtoikdhfihkbcbaaDoor
