/- Two appends onto each other: a list of lists of bytes with one of them nil. -/
import Derived.Test.YtccfiohcblecoaaDoorDskO
import Derived.Test.YtccfiohcblecoaaDoorDskX
import Derived.Deep.RegionLaw
namespace Go.Proofs.YtccfiohcblecoaaDoor
open Go.RowKit
set_option linter.unusedVariables false

/-- an append whose run is known, at a guarded step of a region that draws -/
theorem step_append_run_g {P : Program} (w : World) {ops : Array Oper} {o : Oper} {a : Act} {K : Act → World → Prop} {Q : Exit → Act → World → Prop} {E : Prop} (hw : Region.wanted o (yielded ops a.tmps) = true) (s x : Operand) (t tn : TypeId)
    (ho : o.op = .call { callee := .builtin .append, args := #[s, x], argTypes := #[t, tn] }) (vs vx : Value) (hs : a.eval s = vs) (hx : a.eval x = vx)
    (v' : Value) (w' : World) (hr : (Builtin.append_ #[t, tn] o.type #[vs, vx]).run P w = .ok v' w') (h : K (a.put o.dst v') w') : if Region.wanted o (yielded ops a.tmps) = true then Oper.wp P o a w K Q else E := by
  rw [if_pos hw]
  exact Lib.wp_append_run w s x t tn ho vs vx hs hx v' w' hr h

theorem secsUnder : Tryd.prog.underlying 45 = some (.slice (Tryd.prog.elem 45)) := by kernel_rfl
theorem slice_hm (gb j cm k : Nat) (h : k ≤ cm) (w : World) : (Instr.sliceAt 45 (.slice (some ⟨gb, 0, none⟩) j cm) none (some (.int .i64 k)) (some (.int .i64 k))).run Tryd.prog w = .ok (.slice (some ⟨gb, 0, none⟩) k k) w := by
  rw [run_sliceAt_slice w 45 _ _ _ _ secsUnder, run_slice_hm w 45 _ _ _ secsUnder .i64 .i64 k k (by omega) (by omega) (by omega)]
  have hsz : (sizeOf (Tryd.prog.elem 45)).run Tryd.prog w = .ok 1 w := by kernel_rfl
  rw [hsz]
  simp [Result.andThen, sliced, Addr.add]
def cutAddr (gb cm k : Nat) : Addr := if cm = k + 1 then ⟨gb, 0, none⟩ else ⟨gb, k + 1, none⟩
theorem slice_l (gb j cm k : Nat) (h : k + 1 ≤ j) (w : World) : (Instr.sliceAt 45 (.slice (some ⟨gb, 0, none⟩) j cm) (some (.int .i64 ((k : Int) + 1))) none none).run Tryd.prog w = .ok (.slice (some (cutAddr gb cm k)) (j - (k + 1)) (cm - (k + 1))) w := by
  rw [run_sliceAt_slice w 45 _ _ _ _ secsUnder, run_slice_l w 45 _ _ _ secsUnder .i64 ((k : Int) + 1) (by omega) (by omega)]
  have hsz : (sizeOf (Tryd.prog.elem 45)).run Tryd.prog w = .ok 1 w := by kernel_rfl
  have e : ((k : Int) + 1).toNat = k + 1 := by omega
  rw [hsz]
  simp only [Result.andThen, sliced, e]
  unfold cutAddr
  by_cases hc : cm = k + 1
  · rw [if_pos hc, if_pos hc]
  · rw [if_neg hc, if_neg hc]; simp [Addr.add]
theorem cutAddr_at (gb cm k j : Nat) (h : j ≤ cm) (i : Nat) (hi : i < j - (k + 1)) : (cutAddr gb cm k).add i = ⟨gb, k + 1 + i, none⟩ := by
  unfold cutAddr
  rw [if_neg (by omega)]
  unfold Addr.add; split <;> simp_all

theorem load_spliced {base : Nat} {W : World} {gb j cm : Nat} {L2 : List (List Int)} (h : ImgAt base W (.slice (some ⟨gb, 0, none⟩) j cm) L2) (hl : L2.length = j) (hj : j ≤ 6) (k : Nat) (hk : k < j) (a1 a2 : Addr) (c2 : Nat)
    (h1 : ∀ i, i < k → a1.add i = ⟨gb, i, none⟩) (h2 : ∀ i, i < j - (k + 1) → a2.add i = ⟨gb, k + 1 + i, none⟩) :
    ∃ o6 c6 W2 v7 W3, (Builtin.append_ #[45, 45] 45 #[.slice (some ⟨W.heap.size, 0, none⟩) 1 1, .slice (some a2) (j - (k + 1)) c2]).run Tryd.prog (W.alloc (.cells #[.slice none 0 0] 46)) = .ok (.slice o6 (j - k) c6) W2 ∧
      (Builtin.append_ #[45, 45] 45 #[.slice (some a1) k k, .slice o6 (j - k) c6]).run Tryd.prog W2 = .ok v7 W3 ∧ Below W.heap.size W W3 ∧ Rs W3 v7 (L2.take k ++ [] :: L2.drop (k + 1)) := by
  obtain ⟨i0, hi0, hz0, hz1, hz2⟩ := info_parts secInfo
  obtain ⟨xs, hown, hel⟩ := h
  rw [hl] at hown hel
  have hxl : xs.length = j := by have := hown.1; omega
  have hgl : gb < W.heap.size := (hown.lt gb (by simp [Value.ownBlock])).2
  have hcell : ∀ i u, xs[i]? = some u → W.cell? ⟨gb, i, none⟩ = some u := fun i u hu => by
    have h0 := hown.cells (g := gb) rfl i u hu
    have hadd : (⟨gb, 0, none⟩ : Addr).add i = ⟨gb, i, none⟩ := by clear h0 hu hel hown h1 h2; unfold Addr.add; split <;> simp_all
    rw [hadd] at h0
    exact h0
  have hone : ∀ u ∈ xs, u.oneCell' = true := fun u hu => by
    obtain ⟨i, hi, rfl⟩ := List.getElem_of_mem hu
    obtain ⟨ho, _⟩ := hel i (by omega)
    obtain ⟨_, o, c, hv, _⟩ := ho.bs
    rw [getD_lt (by omega)] at hv
    rw [hv]; rfl
  obtain ⟨W1, hW1⟩ : ∃ W1, W1 = W.alloc (.cells #[.slice none 0 0] 46) := ⟨_, rfl⟩
  have hs1 : W1.heap.size = W.heap.size + 1 := by rw [hW1, allocSize]
  have hb1 : Below W.heap.size W W1 := by rw [hW1]; exact (Below.refl _ _).alloc (Nat.le_refl _) _
  have hlit : W1.ownsRow W.heap.size 46 1 (.slice (some ⟨W.heap.size, 0, none⟩) 1 1) 1 [.slice none 0 0] := by
    rw [hW1]
    exact World.ownsRow_lit (e := 46) (size := 1) W #[.slice none 0 0] 1 (Nat.le_refl _) (by simp [maxLen]) (by simp)
  obtain ⟨v6, W2, hr6, hown6, hg6, _⟩ := run_append_own (P := Tryd.prog) W1 W.heap.size 45 45 46 i0 _ 1 24 Tryd.underlying45 hi0 hz0 hz1 hz2 rfl (by omega)
    (.slice (some ⟨W.heap.size, 0, none⟩) 1 1) 1 [.slice none 0 0] hlit a2 (j - (k + 1)) c2 (xs.drop (k + 1)) (by rw [List.length_drop]; omega)
    (fun i u hu => by
      have hi : i < j - (k + 1) := by have := (List.getElem?_eq_some_iff.1 hu).1; rw [List.length_drop] at this; omega
      rw [h2 i hi, hb1.cell hgl]
      rw [List.getElem?_drop] at hu
      exact hcell _ _ hu)
    (fun u hu => hone u (List.mem_of_mem_drop hu)) (by simp [maxLen]; omega) (by omega) (by omega)
  have hn6 : 1 + (j - (k + 1)) = j - k := by omega
  rw [hn6] at hown6
  have hb2 : Below W.heap.size W W2 := hb1.grown hg6 (by omega) fun b e => (hlit.lt b e).1
  obtain ⟨g6, c6, rfl, hg6b, hg6l⟩ := hown6.form (by omega)
  have hcell6 : ∀ i u, ([Value.slice none 0 0] ++ xs.drop (k + 1))[i]? = some u → W2.cell? ((⟨g6, 0, none⟩ : Addr).add i) = some u := fun i u hu => hown6.cells (g := g6) rfl i u hu
  obtain ⟨v7, W3, hr7, hown7, hg7⟩ := run_append_arg_grows (P := Tryd.prog) W2 45 45 46 i0 _ 1 24 Tryd.underlying45 hi0 hz0 hz1 hz2 rfl (by omega)
    a1 k k (xs.take k) (by rw [List.length_take]; omega)
    (fun i u hu => by
      have hi : i < k := by have := (List.getElem?_eq_some_iff.1 hu).1; rw [List.length_take] at this; omega
      rw [h1 i hi, hb2.cell hgl]
      rw [List.getElem?_take, if_pos hi] at hu
      exact hcell _ _ hu)
    ⟨g6, 0, none⟩ (j - k) c6 ([Value.slice none 0 0] ++ xs.drop (k + 1)) (by simp; omega) hcell6 (by omega) (by simp [maxLen]; omega) (by omega)
  have hb3 : Below W.heap.size W W3 := hb2.grown hg7 hb2.size fun b e => by simp at e
  have hn7 : k + (j - k) = j := by omega
  rw [hn7] at hown7
  obtain ⟨g7, c7, rfl, hg7b, hg7l⟩ := hown7.form (by omega)
  rw [hW1] at hr6
  refine ⟨_, _, _, _, _, hr6, hr7, hb3, ?_⟩
  have hL3 : (L2.take k ++ [] :: L2.drop (k + 1)).length = j := by simp; omega
  have hc7 := hown7.2
  rcases hc7 with ⟨h, _⟩ | ⟨g, cap, cur, h, _, hg, hcc, hcm, _, _⟩
  · simp at h
  simp only [Value.slice.injEq] at h
  obtain ⟨_, _, rfl⟩ := h
  refine ⟨some ⟨g7, 0, none⟩, c7, by rw [hL3], by rw [hL3]; exact hcc, hcm, (fun e => by cases e), fun _ => ⟨_, rfl, fun i hi => ?_⟩⟩
  rw [hL3] at hi
  have hcl : ∀ u, (xs.take k ++ ([Value.slice none 0 0] ++ xs.drop (k + 1)))[i]? = some u → W3.cell? ((⟨g7, 0, none⟩ : Addr).add i) = some u := fun u hu => hown7.cells (g := g7) rfl i u hu
  have htk : (xs.take k).length = k := by rw [List.length_take]; omega
  have hLk : (L2.take k).length = k := by rw [List.length_take]; omega
  rcases Nat.lt_trichotomy i k with hik | hik | hik
  · refine ⟨xs.getD i undef, hcl _ ?_, ?_⟩
    · rw [List.getElem?_append_left (by omega), List.getElem?_take, if_pos hik, getD_lt (by omega), List.getElem?_eq_getElem]
    · have e : (L2.take k ++ [] :: L2.drop (k + 1)).getD i [] = L2.getD i [] := by
        rw [List.getD_eq_getElem?_getD, List.getElem?_append_left (by omega), List.getElem?_take, if_pos hik, List.getD_eq_getElem?_getD]
      rw [e]
      exact (hel i hi).1.bs.below hb3
  · subst hik
    refine ⟨.slice none 0 0, hcl _ ?_, ?_⟩
    · rw [List.getElem?_append_right (by omega), htk]; simp
    · have e : (L2.take i ++ [] :: L2.drop (i + 1)).getD i [] = [] := by
        rw [List.getD_eq_getElem?_getD, List.getElem?_append_right (by omega), hLk]; simp
      rw [e]
      exact Bs.nil _
  · obtain ⟨q, rfl⟩ : ∃ q, i = k + 1 + q := ⟨i - (k + 1), by omega⟩
    refine ⟨xs.getD (k + 1 + q) undef, hcl _ ?_, ?_⟩
    · rw [List.getElem?_append_right (by omega), htk, show k + 1 + q - k = q + 1 by omega]
      simp only [List.singleton_append, List.getElem?_cons_succ, List.getElem?_drop]
      rw [getD_lt (by omega), List.getElem?_eq_getElem]
    · have e : (L2.take k ++ [] :: L2.drop (k + 1)).getD (k + 1 + q) [] = L2.getD (k + 1 + q) [] := by
        rw [List.getD_eq_getElem?_getD, List.getElem?_append_right (by omega), hLk, show k + 1 + q - k = q + 1 by omega]
        simp only [List.getElem?_cons_succ, List.getElem?_drop]
        rw [List.getD_eq_getElem?_getD]
      rw [e]
      exact (hel _ hi).1.bs.below hb3

set_option maxRecDepth 20000 in
set_option maxHeartbeats 4000000 in
/-- the disk's Load where it tells an error: of what is loaded only that it can be read is asked -/
theorem dskLoadNo {ea : Nat → Addr} {w : World} {H : Nat} {d : DiskD} {g : DG} (h : Dk w H d g) (hs : D3 ea w) (v : Value) (L : List (List Int)) (hv : Rs w v L) (hno : loadC d L ≠ 0) :
    Calls Tryd.prog 30 #[.pointer (some ⟨H, 0, none⟩), v] w fun e w' => e = .returned (eC ea (loadC d L)) ∧ w = w' := by
  obtain ⟨c0, _, _, _, _, _⟩ := h.headCells
  have hn2 := h.n2
  have hcp := h.capn
  have hcm := h.capm
  unfold maxLen at hcm
  have e1 := hs.r
  have e2 := hs.s
  have HCT := Lib.hid (containsLoad v L w hv)
  obtain ⟨o, cv, rfl, hv1, hv2, _, _⟩ := hv
  unfold maxLen at hv2
  clear hs h
  by_cases hl : L.length = d.l.length
  · cases hany : L.any bad256 with
    | true =>
      have hc : loadC d L = 103 := by unfold loadC; rw [if_pos hl, hany]; rfl
      rw [hc]
      rw [hany] at HCT
      rw [← hl] at c0 hn2 hcp
      clear hc hany hl hno
      generalize L.length = n at *
      go_enter Tryd.func30, Tryd.ntmps30
      go_wp2_with fail
      refine HCT.out.mono ?_
      rintro e w1 ⟨rfl, rfl⟩
      go_wp2_with fail
      go_ret
      exact ⟨rfl, rfl⟩
    | false =>
      exact absurd (by unfold loadC; rw [if_pos hl, hany]; rfl) hno
  · have hc : loadC d L = 102 := by unfold loadC; rw [if_neg hl]
    rw [hc]
    clear hc HCT hno
    generalize L.length = n at *
    generalize hm : d.l.length = m at *
    have HM := Lib.hid hm
    clear hm
    have hne : ((n : Int) != (m : Int)) = true := by simp; omega
    go_enter Tryd.func30, Tryd.ntmps30
    go_wp2_with fail
    go_ret
    exact ⟨rfl, rfl⟩

/-- what the last statement of the law does to the disk: no image, one with a sector that is none; each is told -/
theorem load_tells {ea : Nat → Addr} {w0 wr : World} {H : Nat} {D : DiskD} {g : DG} (HD : HDk w0 H wr D g) (hs : Sen ea w0) {gb j cm : Nat}
    (hM : ∃ L2, ImgAt w0.heap.size wr (.slice (some ⟨gb, 0, none⟩) j cm) L2 ∧ L2.length = j ∧ ∀ i, i < L2.length → (L2.getD i []).length = 256) (hDl : D.l.length = j) (hoff : D.off = false) (hj : j ≤ 6) (k : Nat) (hk : k < j) (a1 a2 : Addr) (c2 : Nat)
    (h1 : ∀ i, i < k → a1.add i = ⟨gb, i, none⟩) (h2 : ∀ i, i < j - (k + 1) → a2.add i = ⟨gb, k + 1 + i, none⟩) :
    Calls Tryd.prog 30 #[.pointer (some ⟨H, 0, none⟩), .slice none 0 0] wr (fun e w' => e = .returned (.iface 151 (.pointer (some (ea 1)))) ∧ wr = w') ∧
    Calls Tryd.prog 26 #[.iface 151 (.pointer (some (ea 1))), .int .i64 102] wr (fun e w20 => ∃ o6 c6 W2 v7 W3, e = .returned (.bool true) ∧
      (Builtin.append_ #[45, 45] 45 #[.slice (some ⟨w20.heap.size, 0, none⟩) 1 1, .slice (some a2) (j - (k + 1)) c2]).run Tryd.prog (w20.alloc (.cells #[.slice none 0 0] 46)) = .ok (.slice o6 (j - k) c6) W2 ∧
      (Builtin.append_ #[45, 45] 45 #[.slice (some a1) k k, .slice o6 (j - k) c6]).run Tryd.prog W2 = .ok v7 W3 ∧
      Calls Tryd.prog 30 #[.pointer (some ⟨H, 0, none⟩), v7] W3 (fun e w' => e = .returned (.iface 151 (.pointer (some (ea 2)))) ∧ W3 = w') ∧
      Calls Tryd.prog 26 #[.iface 151 (.pointer (some (ea 2))), .int .i64 103] W3 (fun e w' => e = .returned (.bool true) ∧ Below w0.heap.size w0 w' ∧
        Calls Tryd.prog 35 #[.pointer (some ⟨H, 0, none⟩)] w' fun e w'' => e = .returned (.bool false) ∧ w' = w'')) := by
  obtain ⟨L2, hM, hL, _⟩ := hM
  constructor
  · have h := dskLoad HD.dk (hs.below HD.bel).d3 (.slice none 0 0) [] (fun _ _ _ => Rs.nil _)
    have e : loadC D [] = 102 := by unfold loadC; rw [if_neg]; simp; omega
    rw [e] at h
    refine h.mono ?_
    rintro e w' ⟨rfl, h, _⟩
    exact ⟨rfl, (h (by omega)).symm⟩
  · refine (isC wr (hs.below HD.bel) 102 (by unfold OkC; omega) 102).mono ?_
    rintro e w20 ⟨rfl, hb20⟩
    have HD20 := HD.below hb20
    obtain ⟨o6, c6, W2, v7, W3, r6, r7, hb3, hrs⟩ := load_spliced (hM.below hb20) hL hj k hk a1 a2 c2 h1 h2
    have HD3 := HD20.below hb3
    refine ⟨o6, c6, W2, v7, W3, rfl, r6, r7, ?_, ?_⟩
    · have e : loadC D (L2.take k ++ [] :: L2.drop (k + 1)) = 103 := by
        unfold loadC
        rw [if_pos (by simp; omega), if_pos]
        rw [List.any_eq_true]
        exact ⟨[], by simp, by simp [bad256]⟩
      have h := dskLoadNo HD3.dk (hs.below HD3.bel).d3 v7 _ hrs (by rw [e]; omega)
      rw [e] at h
      exact h
    · refine (isC W3 (hs.below HD3.bel) 103 (by unfold OkC; omega) 103).mono ?_
      rintro e w' ⟨rfl, hb'⟩
      have HD4 := HD3.below hb'
      have ho := dskOff HD4.dk
      rw [hoff] at ho
      exact ⟨rfl, HD4.bel, ho⟩
end Go.Proofs.YtccfiohcblecoaaDoor
