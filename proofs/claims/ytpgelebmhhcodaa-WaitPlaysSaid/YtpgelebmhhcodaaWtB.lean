/- Contract: slices.DeleteFunc over ints, with the closure of Wait. -/
import Derived.Test.YtpgelebmhhcodaaWtA
import Derived.Test.YtpgelebmhhcodaaLkG
namespace Go.Proofs.Ytpgelebmhhcodaa
open Go.RowKit
set_option linter.unusedVariables false

/-- in the midst of DeleteFunc: i kept, j looked at -/
structure DI (w0 w : World) (g cap : Nat) (l : List Int) (s : Int) (i j : Nat) : Prop where
  row : ∃ cur : Array Value, w.heap[g]? = some (.cells cur 3 (0, 0)) ∧ cur.size = cap ∧ cur.toList.take i = (delI (l.take j) s).map (Value.int .i64) ∧ ∀ x, j ≤ x → x < l.length → cur[x]? = (l.map (Value.int .i64))[x]?
  len : i = (delI (l.take j) s).length
  grown : w0.grownBy w (some g)
  lt : i < j
theorem DI.cell {w0 w : World} {g cap : Nat} {l : List Int} {s : Int} {i j : Nat} (h : DI w0 w g cap l s i j) {x : Int} (hx : l[j]? = some x) : w.cell? ⟨g, j, none⟩ = some (.int .i64 x) := by
  obtain ⟨cur, h1, h2, h3, h4⟩ := h.row
  have hj : j < l.length := (List.getElem?_eq_some_iff.1 hx).1
  rw [cell_of_row w g _ _ _ _ h1, h4 _ (Nat.le_refl _) hj, List.getElem?_map, hx]
  rfl
theorem DI.skip {w0 w : World} {g cap : Nat} {l : List Int} {s : Int} {i j : Nat} (h : DI w0 w g cap l s i j) {x : Int} (hx : l[j]? = some x) (hs : (x == s) = true) : DI w0 w g cap l s i (j + 1) := by
  obtain ⟨cur, h1, h2, h3, h4⟩ := h.row
  have e := delI_step l s j x hx
  rw [if_pos hs, List.append_nil] at e
  exact ⟨⟨cur, h1, h2, by rw [e]; exact h3, fun y hy => h4 y (by omega)⟩, by rw [e]; exact h.len, h.grown, by have := h.lt; omega⟩
theorem take_set1 (l : List Value) (i : Nat) (a : Value) (h : i < l.length) : (l.set i a).take (i + 1) = l.take i ++ [a] := by
  rw [List.take_add_one, List.getElem?_set, if_pos rfl, if_pos h, List.take_set, List.set_eq_of_length_le (by rw [List.length_take]; omega)]
  rfl
theorem DI.keep {w0 w : World} {g cap : Nat} {l : List Int} {s : Int} {i j : Nat} (h : DI w0 w g cap l s i j) (hcap : l.length ≤ cap) {x : Int} (hx : l[j]? = some x) (hs : (x == s) = false) :
    DI w0 (w.setCell ⟨g, i, none⟩ (.int .i64 x)) g cap l s (i + 1) (j + 1) := by
  obtain ⟨cur, h1, h2, h3, h4⟩ := h.row
  have e := delI_step l s j x hx
  rw [if_neg (by rw [hs]; simp)] at e
  have hj : j < l.length := (List.getElem?_eq_some_iff.1 hx).1
  have hlt := h.lt
  have k1 := setCell_rowL h1 i (.int .i64 x)
  refine ⟨⟨_, k1, by simp [h2], ?_, fun y hy1 hy2 => ?_⟩, by rw [e, List.length_append, ← h.len]; rfl, grownBy_trans h.grown (grownBy_set _ _), by omega⟩
  · rw [Array.toList_setIfInBounds, take_set1 _ _ _ (by rw [Array.length_toList, h2]; omega), h3, e, List.map_append]
    rfl
  · rw [Array.getElem?_setIfInBounds, if_neg (by omega)]
    exact h4 y (by omega) hy2
theorem DI.frozen {w0 w : World} {g cap : Nat} {l : List Int} {s : Int} {i j : Nat} (h : DI w0 w g cap l s i j) (x : Nat) : w.frozen? ⟨g, x, none⟩ = false := by
  obtain ⟨cur, h1, _⟩ := h.row
  exact rowFrozen h1 x
theorem DI.some_ {w0 w : World} {g cap : Nat} {l : List Int} {s : Int} {i j : Nat} (h : DI w0 w g cap l s i j) {x : Nat} (hx : x < cap) : ∃ u, w.cell? ⟨g, x, none⟩ = some u := by
  obtain ⟨cur, h1, h2, _⟩ := h.row
  rw [cell_of_row w g _ _ _ _ h1]
  exact ⟨_, Array.getElem?_eq_getElem (by rw [h2]; exact hx)⟩
theorem intZero (w : World) : (zeroValue 3).run Try.prog w = .ok (.int .i64 0) w := by kernel_rfl
/-- at the end: what is left over is cleared -/
theorem DI.clear {base : Nat} {w0 w : World} {g cap : Nat} {l : List Int} {s : Int} {i : Nat} (h : DI w0 w g cap l s i l.length) (hcap : l.length ≤ cap) (hcm : cap ≤ maxLen) (hbg : base ≤ g) (hW : ∀ r ∈ l, (Lit.int .i64 r).wf = true) (c : Nat) :
    ∃ w', (∀ ty, (Builtin.clear_ #[34] ty #[.slice (some ⟨g, i, none⟩) (l.length - i) c]).run Try.prog w = .ok (.tuple #[]) w') ∧ Oi base w' (.slice (some ⟨g, 0, none⟩) i cap) (delI l s) ∧ w0.grownBy w' (some g) := by
  obtain ⟨cur, h1, h2, h3, h4⟩ := h.row
  have hlt := h.lt
  have hrun := fun ty => Lib.run_clear_slice (P := Try.prog) w 34 3 ty (.int .i64 0) Try.underlying34 intZero rfl rfl g i (l.length - i) c (by omega) (fun j hj => by
    rw [cell_of_row w g _ _ _ _ h1, Array.getElem?_eq_getElem (by rw [h2]; omega)]; rfl) (fun j hj => rowFrozen h1 _)
  obtain ⟨cs', s1, s2, s3, s4⟩ := setCells_row (List.replicate (l.length - i) (Value.int .i64 0)) i w cur h1
  have hi : i = (delI l s).length := by have := h.len; rw [List.take_length] at this; exact this
  rw [List.take_length] at h3
  refine ⟨_, hrun, ⟨fun r hr => hW r ((delI_mem _ _ _).1 hr).1, by rw [List.length_map, ← hi, Nat.mul_one], .inr ⟨g, cap, cs', by rw [hi], hbg, s1, by omega, hcm, by rw [s2, h2, Nat.mul_one], ?_⟩⟩, grownBy_trans h.grown s4⟩
  rw [Nat.mul_one, ← hi, ← h3]
  apply List.ext_getElem?
  intro x
  rw [List.getElem?_take, List.getElem?_take]
  split
  · rename_i hx
    rw [Array.getElem?_toList, Array.getElem?_toList, s3 x hx]
  · rfl
theorem intsl_from (g n cap i : Nat) (hi : i < n) (hc : n ≤ cap) (W : World) : (Instr.sliceAt 34 (.slice (some ⟨g, 0, none⟩) n cap) (some (.int .i64 (i : Int))) none none).run Try.prog W = .ok (.slice (some ⟨g, i, none⟩) (n - i) (cap - i)) W := by
  have hsz : (sizeOf (Try.prog.elem 34)).run Try.prog W = .ok 1 W := by kernel_rfl
  rw [run_sliceAt_slice W 34 _ _ _ _ intsUnder, run_slice_l W 34 _ _ _ intsUnder .i64 (i : Int) (by omega) (by omega), hsz]
  have hci : cap ≠ i := by omega
  simp only [Result.andThen, sliced, Int.toNat_natCast, if_neg hci]
  simp [Addr.add]
  intro h
  omega
theorem intsl_upto (g n cap i : Nat) (hi : i ≤ n) (hc : n ≤ cap) (hcp : 0 < cap) (W : World) : (Instr.sliceAt 34 (.slice (some ⟨g, 0, none⟩) n cap) none (some (.int .i64 (i : Int))) none).run Try.prog W = .ok (.slice (some ⟨g, 0, none⟩) i cap) W := by
  have hsz : (sizeOf (Try.prog.elem 34)).run Try.prog W = .ok 1 W := by kernel_rfl
  rw [run_sliceAt_slice W 34 _ _ _ _ intsUnder, run_slice_h W 34 _ _ _ intsUnder .i64 (i : Int) (by omega) (by omega), hsz]
  have hci : cap ≠ 0 := by omega
  simp [Result.andThen, sliced, Addr.add, hci]

set_option maxRecDepth 20000 in
set_option maxHeartbeats 4000000 in
theorem deleteWait {base : Nat} {w : World} {v : Value} {l : List Int} (h : Oi base w v l) (hl : l.length ≤ 10000) (s : Int) (p3 : Addr) (c3 : w.cell? p3 = some (.int .i64 s)) (hp : v.ownBlock ≠ some p3.block) :
    Calls Try.prog 70 #[v, .func (.func 72) #[] #[.pointer (some p3)]] w fun e w' => ∃ v', e = .returned v' ∧ v'.ownBlock = v.ownBlock ∧ Oi base w' v' (delI l s) ∧ w.grownBy w' v.ownBlock := by
  have hidx := indexWait h.ns s p3 c3
  have HH := Lib.hid h
  have HIDX := Lib.hid hidx
  have HC3 := Lib.hid c3
  obtain ⟨o, cap, rfl, h1, h2, h3, h4⟩ := h.form
  rcases idxI_spec s l 0 with ⟨e, f⟩ | ⟨k, hk, e, f1, f2⟩
  · rw [e] at HIDX
    have HF := Lib.hid f
    unfold maxLen at h2
    clear hidx h c3 e f h3 h4
    go_enter Try.func70, Try.ntmps70
    go_wp2_with fail
    refine HIDX.out.mono ?_
    rintro e w2 ⟨rfl, rfl⟩
    go_wp2_with fail
    go_ret
    exact ⟨_, rfl, rfl, by rw [HF.out]; exact HH.out, World.grownBy.refl _ _⟩
  · rw [e, Nat.zero_add] at HIDX
    rcases HH.out.2.2 with ⟨hv, hn0⟩ | ⟨g, cap', cur, hv, hbg, hg, hn, hcm, hcs, ht⟩
    · simp only [Value.slice.injEq] at hv
      omega
    · simp only [Value.slice.injEq] at hv
      obtain ⟨rfl, _, rfl⟩ := hv
      rw [Nat.mul_one] at hcs ht
      have HG := Lib.hid hg
      have hgp : p3.block ≠ g := fun e => hp (by rw [e]; rfl)
      have HGP := Lib.hid hgp
      have hD0 : DI w w g cap l s k (k + 1) := ⟨⟨cur, hg, hcs, by
          rw [f2, List.map_take, ← ht, List.take_take, Nat.min_eq_left (by omega)], fun x hx1 hx2 => by
          rw [← Array.getElem?_toList, ← ht, List.getElem?_take, if_pos hx2]⟩, by rw [f2, List.length_take]; omega, World.grownBy.refl _ _, by omega⟩
      have HD0 := Lib.hid hD0
      have HBG := Lib.hid hbg
      unfold maxLen at h2
      have HCM := Lib.hid hcm
      have hkm : ((k : Int) == -1) = false := by simp
      clear hidx h c3 e f1 f2 h3 h4 hg hgp hD0 hn hcs ht hbg hcm hp
      go_enter Try.func70, Try.ntmps70
      go_wp2_with fail
      refine HIDX.out.mono ?_
      clear HIDX
      rintro e w2 ⟨rfl, rfl⟩
      go_wp2_with fail
      clear hkm
      go_loopw [5, 6] (fun s5 s6 wr => ∃ i j : Nat, s5 = .int .i64 i ∧ s6 = .int .i64 j ∧ i < j ∧ j ≤ l.length ∧ Hid (DI w wr g cap l s i j)) (fun _ s6 _ => l.length - (intOf s6).toNat)
      case atStart => exact ⟨k, k + 1, rfl, by go_num, by omega, by omega, HD0⟩
      case round =>
        obtain ⟨i, j, rfl, rfl, hij, hj, HD⟩ := hrel
        clear HD0
        by_cases hjn : (j : Int) < l.length
        · have hr : l[j]? = some l[j] := List.getElem?_eq_getElem (by omega)
          have q0 := HD.out.cell hr
          generalize l[j] = x at hr q0
          have HRR := Lib.hid hr
          have hc3 : wr.cell? p3 = some (.int .i64 s) := (World.cell?_of_block (a := p3) (HD.out.grown.block _ (Below.lt HC3.out) fun e => HGP.out (by simpa using e))).trans HC3.out
          have HCL := Lib.hid (waitHere x s p3 wr hc3)
          clear hr hc3
          go_wp2_with fail
          refine HCL.out.mono ?_
          clear HCL
          rintro e w3 ⟨rfl, rfl⟩
          cases hs : (x == s) with
          | true =>
            have HDN := Lib.hid (HD.out.skip HRR.out hs)
            clear hs
            go_wp2_with fail
            go_roundw
            case rel => exact ⟨i, j + 1, rfl, by go_num, by omega, by omega, HDN⟩
            case measure => simp [intOf]; omega
          | false =>
            have HDN := Lib.hid (HD.out.keep h1 HRR.out hs)
            obtain ⟨u0, t0⟩ := HD.out.some_ (x := i) (by omega)
            have z0 := HD.out.frozen i
            have hiT : (i : Int) < l.length := by omega
            clear hs
            go_wp2_with fail
            go_roundw
            case rel => exact ⟨i + 1, j + 1, by go_num, by go_num, by omega, by omega, HDN⟩
            case measure => simp [intOf]; omega
        · obtain rfl : j = l.length := by omega
          obtain ⟨w4, hrun, ho4, hg4⟩ := HD.out.clear h1 HCM.out HBG.out HH.out.1 (cap - i)
          have sl1 := intsl_from g l.length cap i hij h1
          have sl2 := intsl_upto g l.length cap i (by omega) h1 (by omega)
          have HO4 := Lib.hid ho4
          have HG4 := Lib.hid hg4
          have hiT : (i : Int) ≤ l.length := by omega
          have hiL : (i : Int) < l.length := by omega
          clear ho4 hg4
          go_wp2_with fail
          go_ret
          exact ⟨_, rfl, rfl, HO4.out, HG4.out⟩
end Go.Proofs.Ytpgelebmhhcodaa
