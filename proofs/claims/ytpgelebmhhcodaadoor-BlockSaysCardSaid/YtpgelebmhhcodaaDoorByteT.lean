/- The types []byte and byte. -/
import Derived.Test.YtpgelebmhhcodaaDoorProg
import Derived.Test.YtpgelebmhhcodaaDoorPlain
import Derived.Deep.Light
namespace Go.Proofs.YtpgelebmhhcodaaDoor
open Go.RowKit
set_option linter.unusedVariables false
set_option linter.unusedSimpArgs false

theorem byteT : ByteT Tryd.prog 25 5 := ⟨Tryd.underlying25, Tryd.t5, by kernel_rfl, by kernel_rfl, by kernel_rfl, by kernel_rfl⟩

theorem places (o : Option Addr) (n c : Nat) (hn : n ≤ 1000000000000) (at_ size : Int) (w : World) (h1 : -8 ≤ at_) (h2 : at_ < n) (h3 : -9223372036854775808 ≤ size) (h4 : size ≤ 9223372036854775807) :
    Calls Tryd.prog 37 #[.slice o n c, .int .i64 at_, .int .i64 size] w fun e w' => e = .returned (.tuple #[.int .i64 (max at_ 0), .int .i64 (min (at_ + sz size) n)]) ∧ w = w' := by
  unfold sz
  go_enter Tryd.func37, Tryd.ntmps37
  go_wp2
  all_goals
    go_ret2
    refine ⟨?_, rfl⟩
    simp only [Array.getD_eq_getD_getElem?]
    simp
    omega

theorem sizedRef (n : Int) (w : World) (h3 : -9223372036854775808 ≤ n) (h4 : n ≤ 9223372036854775807) :
    Calls Tryd.prog 40 #[.int .i64 n] w fun e w' => e = .returned (.int .i64 (sz n)) ∧ w = w' := by
  unfold sz
  go_enter Tryd.func40, Tryd.ntmps40
  go_wp2
  all_goals
    go_ret
    refine ⟨?_, rfl⟩
    simp only [Array.getD_eq_getD_getElem?]
    simp
    omega

theorem number (n b : Int) (w : World) (hb : 0 < b) (hb2 : b ≤ 4611686018427387904) (h1 : -9223372036854775808 ≤ n) (h2 : n ≤ 9223372036854775807) :
    Calls Tryd.prog 12 #[.int .i64 n, .int .i64 b] w fun e w' => e = .returned (.int .i64 (n % b)) ∧ w = w' := by
  have hlt := Int.emod_lt_of_pos n hb
  have hge := Int.emod_nonneg n (show b ≠ 0 by omega)
  have X := Lib.hid (@tmod_neg n b hb)
  have Y := Lib.hid (@tmod_pos n b hb)
  go_enter Tryd.func12, Tryd.ntmps12
  go_wp2
  · rename_i hneg
    go_ret
    refine ⟨?_, rfl⟩
    have e := X.out hneg
    have : wrap64 (n.tmod b + b) = n % b := by rw [e]; unfold wrap64; omega
    simp [this]
  · rename_i hpos
    go_ret
    exact ⟨by simp [Y.out hpos], rfl⟩

theorem sameBytes (v u : Value) (l m : List Int) (w : World) (hv : Bs w v l) (hu : Bs w u m) :
    Calls Tryd.prog 9 #[v, u] w fun e w' => e = .returned (.bool (sameB l m)) ∧ ∃ n, w' = w.drewN n := by
  obtain ⟨hl1, o, c, rfl, hlc, hcm, hon, hcell⟩ := hv
  obtain ⟨hm1, o', c', rfl, hlc', hcm', hon', hcell'⟩ := hu
  unfold maxLen at hcm hcm'
  by_cases hl : l.length = m.length
  · have h1 : ((l.length : Int) != (m.length : Int)) = false := by simp [hl]
    have HL := Lib.hid hl
    have hl2 : l.length ≤ m.length := by omega
    clear hl
    go_enter Tryd.func9, Tryd.ntmps9
    go_wp2
    go_loopw [5] (fun i wr => ∃ k : Nat, k ≤ l.length ∧ i = .int .i64 k ∧ l.take k = m.take k ∧ ∃ n, wr = w.drewN n) (fun i _ => l.length - (intOf i).toNat)
    case atStart => exact ⟨0, Nat.zero_le _, rfl, by simp, 0, rfl⟩
    case round =>
      obtain ⟨k, hk, rfl, ht, nd, rfl⟩ := hrel
      have HT := Lib.hid ht
      clear ht
      by_cases hlt : k < l.length
      · obtain ⟨a, x, rfl, g, hx, hx0, hx1⟩ := Bs.at_ hl1 hcell hlt
        obtain ⟨a', y, rfl, g', hy, hy0, hy1⟩ := Bs.at_ hm1 hcell' (k := k) (by omega)
        clear hcell hcell'
        go_wp2
        go_quiet (fail)
        by_cases hxy : x = y
        · have e1 : (x == y) = true := by simp [hxy]
          have HXY := Lib.hid hxy
          clear hxy
          go_wp2
          go_roundw
          case rel =>
            refine ⟨k + 1, by omega, by go_num, ?_, _, rfl⟩
            have hk2 : k < m.length := by omega
            rw [List.take_succ_eq_append_getElem hlt, List.take_succ_eq_append_getElem hk2, HT.out, ← getD_lt (d := 0) hlt, ← getD_lt (d := 0) hk2, hx.out, hy.out, HXY.out]
          case measure => simp [intOf]; omega
        · have e1 : (x == y) = false := by simp [hxy]
          have HXY := Lib.hid hxy
          clear hxy
          go_wp2
          go_ret
          refine ⟨?_, _, rfl⟩
          have : sameB l m = false := by
            unfold sameB
            have : l ≠ m := by rintro rfl; exact HXY.out (hx.out.symm.trans hy.out)
            simp [this]
          rw [this]; rfl
      · go_wp2
        go_ret
        refine ⟨?_, _, rfl⟩
        have hx : sameB l m = true := by
          have e := HT.out
          have e2 := HL.out
          rw [List.take_of_length_le (by omega), List.take_of_length_le (by omega)] at e
          simp [sameB, e]
        rw [hx]; rfl
  · have h1 : ((l.length : Int) != (m.length : Int)) = true := by simp; omega
    have h2 : sameB l m = false := by unfold sameB; simp; intro h; exact hl (by rw [h])
    rw [h2]
    go_enter Tryd.func9, Tryd.ntmps9
    go_wp2
    go_ret
    exact ⟨rfl, 0, rfl⟩

/-- the same, the draws under one word -/
theorem same_calls (v u : Value) (l m : List Int) (w : World) (hv : Bs w v l) (hu : Bs w u m) :
    Calls Tryd.prog 9 #[v, u] w fun e w' => e = .returned (.bool (sameB l m)) ∧ Qw w w' := sameBytes v u l m w hv hu

theorem zeroRef (v : Value) (l : List Int) (w : World) (hv : Bs w v l) :
    Calls Tryd.prog 32 #[v] w fun e w' => e = .returned (.bool (allZ l)) ∧ w = w' := by
  obtain ⟨hl1, o, c, rfl, hlc, hcm, hon, hcell⟩ := hv
  unfold maxLen at hcm
  go_enter Tryd.func32, Tryd.ntmps32
  go_wp2_with fail
  go_loop [3] (fun i => ∃ k : Nat, i = .int .i64 k ∧ k ≤ l.length ∧ ∀ j, j < k → l.getD j 0 = 0) (fun i => l.length - (intOf i).toNat)
  case atStart => exact ⟨0, rfl, by omega, fun j hj => by omega⟩
  case round =>
    obtain ⟨k, rfl, hk, hz⟩ := hrel
    have HZ := Lib.hid hz
    clear hz
    by_cases hlt : k < l.length
    · obtain ⟨a, x, rfl, g, hx, hx0, hx1⟩ := Bs.at_ hl1 hcell hlt
      clear hcell
      by_cases hxz : x = 0
      · have e1 : (x != 0) = false := by simp [hxz]
        have HX := Lib.hid hxz
        clear hxz
        go_wp2
        go_round
        case rel =>
          refine ⟨k + 1, by go_num, by omega, fun j hj => ?_⟩
          by_cases e : j = k
          · rw [e, hx.out, HX.out]
          · exact HZ.out j (by omega)
        case measure => simp [intOf]; omega
      · have e1 : (x != 0) = true := by simp [hxz]
        have HX := Lib.hid hxz
        clear hxz
        go_wp2
        go_ret
        have : allZ l = false := by
          rw [Bool.eq_false_iff]; intro h
          exact HX.out (by rw [← hx.out, getD_lt hlt]; exact allZ_iff.1 h _ (List.getElem_mem hlt))
        exact ⟨by simp [this], rfl⟩
    · go_wp2
      go_ret
      have : allZ l = true := by
        rw [allZ_iff]; intro x hx
        obtain ⟨j, hj, rfl⟩ := List.getElem_of_mem hx
        rw [← getD_lt (d := 0) hj]; exact HZ.out j (by omega)
      exact ⟨by simp [this], rfl⟩

theorem bytesEqual (v u : Value) (l m : List Int) (w : World) (hv : Bs w v l) (hu : Bs w u m) :
    Calls Tryd.prog 31 #[v, u] w fun e w' => e = .returned (.bool (sameB l m)) ∧ w = w' := by
  have h1 := hv.str (P := Tryd.prog) 25 5 9 Tryd.underlying25 Tryd.underlying5 Tryd.underlying9
  have h2 := hu.str (P := Tryd.prog) 25 5 9 Tryd.underlying25 Tryd.underlying5 Tryd.underlying9
  have he : ((strOfNums l).toList == (strOfNums m).toList) = sameB l m := by
    rw [ByteArray.toList_eq, ByteArray.toList_eq, strOfNums_data, strOfNums_data]
    by_cases e : l = m
    · subst e; simp [sameB]
    · have hne : l.map (fun n => UInt8.ofNat n.toNat) ≠ m.map (fun n => UInt8.ofNat n.toNat) := by
        intro h
        refine e (strOfNums_inj hv.1 hu.1 ?_)
        unfold strOfNums; rw [h]
      simp [sameB, e, hne]
  have HE := Lib.hid he
  clear he
  obtain ⟨_, o, c, rfl, _, _, _, _⟩ := hv
  obtain ⟨_, o', c', rfl, _, _, _, _⟩ := hu
  generalize strOfNums l = s1 at *
  generalize strOfNums m = s2 at *
  go_enter Tryd.func31, Tryd.ntmps31
  go_wp2_with fail
  go_ret
  exact ⟨by rw [← HE.out]; rfl, rfl⟩

theorem indexZero (v : Value) (l : List Int) (w : World) (hv : Bs w v l) :
    Calls Tryd.prog 55 #[v, .func (.func 44) #[] #[]] w fun e w' => (∃ r : Int, e = .returned (.int .i64 r) ∧ decide (0 ≤ r) = !allZ l ∧ -1 ≤ r ∧ r ≤ 9223372036854775807) ∧ w = w' := by
  obtain ⟨hl1, o, c, rfl, hlc, hcm, hon, hcell⟩ := hv
  unfold maxLen at hcm
  go_enter Tryd.func55, Tryd.ntmps55
  go_wp2_with fail
  go_loop [8] (fun i => ∃ k : Nat, i = .int .i64 k ∧ k ≤ l.length ∧ ∀ j, j < k → l.getD j 0 = 0) (fun i => l.length - (intOf i).toNat)
  case atStart => exact ⟨0, rfl, by omega, fun j hj => by omega⟩
  case round =>
    obtain ⟨k, rfl, hk, hz⟩ := hrel
    have HZ := Lib.hid hz
    clear hz
    by_cases hlt : k < l.length
    · obtain ⟨a, x, rfl, g, hx, hx0, hx1⟩ := Bs.at_ hl1 hcell hlt
      clear hcell
      by_cases hxz : x = 0
      · have e1 : (x != 0) = false := by simp [hxz]
        have HX := Lib.hid hxz
        clear hxz
        go_wp2
        go_round
        case rel =>
          refine ⟨k + 1, by go_num, by omega, fun j hj => ?_⟩
          by_cases e : j = k
          · rw [e, hx.out, HX.out]
          · exact HZ.out j (by omega)
        case measure => simp [intOf]; omega
      · have e1 : (x != 0) = true := by simp [hxz]
        have HX := Lib.hid hxz
        clear hxz
        go_wp2
        go_ret
        refine ⟨⟨k, rfl, ?_, by omega, by omega⟩, rfl⟩
        have : allZ l = false := by
          rw [Bool.eq_false_iff]; intro h
          exact HX.out (by rw [← hx.out, getD_lt hlt]; exact allZ_iff.1 h _ (List.getElem_mem hlt))
        simp [this]
    · go_wp2
      go_ret
      refine ⟨⟨-1, rfl, ?_, by omega, by omega⟩, rfl⟩
      have : allZ l = true := by
        rw [allZ_iff]; intro x hx
        obtain ⟨j, hj, rfl⟩ := List.getElem_of_mem hx
        rw [← getD_lt (d := 0) hj]; exact HZ.out j (by omega)
      simp [this]

theorem zero (v : Value) (l : List Int) (w : World) (hv : Bs w v l) :
    Calls Tryd.prog 28 #[v] w fun e w' => e = .returned (.bool (allZ l)) ∧ w = w' := by
  go_enter Tryd.func28, Tryd.ntmps28
  go_wp2_with (first | (go_at_call 55; (with_reducible refine (indexZero v l w hv).mono ?_); rintro e w' ⟨⟨r, rfl, hr, hr1, hr2⟩, rfl⟩; have HR := Lib.hid hr; clear hr) | go_in)
  go_ret
  exact ⟨by simp [HR.out], rfl⟩

theorem fromRefB (n lo hi : Int) (w : World) : Calls Tryd.prog 21 #[.int .i64 n, .int .i64 lo, .int .i64 hi] w fun e w' => e = .returned (.bool (inB n lo hi)) ∧ w = w' := by
  unfold inB
  by_cases h : lo ≤ n
  · have d : decide (lo ≤ n) = true := by simpa using h
    go_enter Tryd.func21, Tryd.ntmps21
    go_wp2_with fail
    go_ret
    exact ⟨by simp [h], rfl⟩
  · have d : decide (lo ≤ n) = false := by simpa using h
    go_enter Tryd.func21, Tryd.ntmps21
    go_wp2_with fail
    go_ret
    exact ⟨by simp [h], rfl⟩
theorem inB_zero (n : Int) : inB n 0 0 = (n == 0) := by
  unfold inB; by_cases h : n = 0
  · subst h; rfl
  · have : (n == 0) = false := by simpa using h
    rw [this]; simp; omega
theorem inB_t (n : Int) : inB n (min 60000 1) 60000 = inB n 1 60000 := rfl
theorem inB_p (n : Int) : inB n (min 32 1) 32 = inB n 1 32 := rfl
theorem inB_one (n : Int) : inB n (min 0 1) 0 = (n == 0) := inB_zero n

theorem clone (v : Value) (l : List Int) (w : World) (hv : Bs w v l) (hl : l.length ≤ 1000000000000) :
    Calls Tryd.prog 36 #[v] w fun e w' => ∃ v', e = .returned v' ∧ Below w.heap.size w w' ∧ Ob 5 w.heap.size w' v' l := by
  have hv' := hv
  obtain ⟨hl1, o, c, rfl, hlc, hcm, hon, hcell⟩ := hv
  unfold maxLen at hcm
  cases o with
  | none =>
    have hm : l = [] := Classical.byContradiction fun hne => by obtain ⟨a, ha, _⟩ := hcell hne; cases ha
    subst hm
    have hc0 := hon rfl
    subst hc0
    have h0 := fun w => @Lib.run_eql_slice_nil Tryd.prog w 25 5 none 0 0 0 0 Tryd.underlying25
    simp only [List.length_nil]
    go_enter Tryd.func36, Tryd.ntmps36
    go_wp2
    go_ret
    exact ⟨_, rfl, Below.refl _ _, Ob.nil⟩
  | some a =>
    have h0 := fun w => @Lib.run_eql_slice_nil Tryd.prog w 25 5 (some a) l.length c 0 0 Tryd.underlying25
    have hb1 : Below w.heap.size w (w.alloc (.cells #[] 5)) := (Below.refl _ _).alloc (Nat.le_refl _) _
    obtain ⟨v', w', hr, h1, h2, h3⟩ := byteT.append 25 (w.alloc (.cells #[] 5)) w.heap.size _ [] (Ob.made #[] 0 (Nat.le_refl _) (by simp [maxLen]) rfl) _ l (hv'.below hb1) (by simpa using hl) (by simp)
    have hb2 : Below w.heap.size w w' := (Ob.made (e := 5) #[] 0 (Nat.le_refl _) (by simp [maxLen]) rfl).grown h2 hb1 (Nat.le_refl _) (by simp)
    clear hv' hcell hon h3
    go_enter Tryd.func36, Tryd.ntmps36
    go_wp2_with (at_builtin; refine Lib.wpList_append_run _ rfl _ _ _ _ rfl _ _ rfl rfl _ _ hr ?_)
    go_ret
    exact ⟨_, rfl, hb2, h1⟩

theorem bytesRef (v : Value) (l : List Int) (w : World) (hv : Bs w v l) (hl : l.length ≤ 1000000000000) :
    Calls Tryd.prog 27 #[v] w fun e w' => ∃ v', e = .returned v' ∧ Below w.heap.size w w' ∧ Ob 5 w.heap.size w' v' l := by
  have hv' := hv
  obtain ⟨hl1, o, c, rfl, hlc, hcm, hon, hcell⟩ := hv
  unfold maxLen at hcm
  go_enter Tryd.func27, Tryd.ntmps27
  obtain ⟨cur, hmk, hob⟩ := byteT.make w w.heap.size .i64 .i64 0 l.length (by omega) (by omega) (by omega) (Nat.le_refl _)
  go_wp2_with fail
  have hb0 : Below w.heap.size w (w.alloc (.cells cur 5)) := (Below.refl _ _).alloc (Nat.le_refl _) _
  go_loopw [3, 4] (fun s i wr => ∃ k : Nat, i = .int .i64 k ∧ k ≤ l.length ∧ Below w.heap.size w wr ∧ Ob 5 w.heap.size wr s (l.take k)) (fun _ i _ => l.length - (intOf i).toNat)
  case atStart => exact ⟨0, rfl, by omega, hb0, by simpa using hob⟩
  case round =>
    obtain ⟨k, rfl, hk, hbr, hobr⟩ := hrel
    by_cases hlt : k < l.length
    · obtain ⟨a, x, rfl, g0, hx, hx0, hx1⟩ := Bs.at_ hl1 hcell hlt
      clear hcell
      have hblk := Below.lt g0
      have g : wr.cell? (a.add k) = some (.int .u8 x) := by rw [hbr.cell hblk]; exact g0
      clear g0
      have hsz := hbr.size
      obtain ⟨v', w', hr, h1, h2, h3⟩ := byteT.append 25 (wr.alloc (.cells #[.int .u8 x] 5)) w.heap.size _ (l.take k) (hobr.below ((Below.refl _ _).alloc (Nat.le_refl _) _)) _ [x] (Ob.one (base := 0) hx0 hx1 (Nat.zero_le _)).bs (by simp; omega) (by simp; omega)
      have hb1 : Below w.heap.size w (wr.alloc (.cells #[.int .u8 x] 5)) := hbr.alloc hsz _
      have hb2 : Below w.heap.size w w' := (hobr.below ((Below.refl _ _).alloc (Nat.le_refl _) _)).grown h2 hb1 (Nat.le_refl _) (by simp; omega)
      have ht : l.take k ++ [x] = l.take (k + 1) := by rw [List.take_succ_eq_append_getElem hlt, ← getD_lt (d := 0) hlt, hx.out]
      rw [ht] at h1
      clear h2 h3 ht hob hobr
      go_wp2_with (at_builtin; refine Lib.wpList_append_run _ rfl _ _ _ _ rfl _ _ rfl rfl _ _ hr ?_)
      go_roundw
      case rel => exact ⟨k + 1, by go_num, by omega, hb2, h1⟩
      case measure => simp [intOf]; omega
    · have hfin : l.take k = l := List.take_of_length_le (by omega)
      rw [hfin] at hobr
      go_wp2
      go_ret
      exact ⟨_, rfl, hbr, hobr⟩

set_option maxRecDepth 20000 in
theorem grow (n : Int) (w : World) (h0 : 0 ≤ n) (h1 : n ≤ 500000000000) :
    Calls Tryd.prog 51 #[.slice none 0 0, .int .i64 n] w fun e w' => ∃ v', e = .returned v' ∧ Below w.heap.size w w' ∧ Ob 5 w.heap.size w' v' [] := by
  by_cases hz : n = 0
  · subst hz
    go_enter Tryd.func51, Tryd.ntmps51
    go_wp2_with fail
    go_ret
    exact ⟨_, rfl, Below.refl _ _, Ob.nil⟩
  · obtain ⟨k, rfl⟩ := Int.eq_ofNat_of_zero_le h0
    have hk : 0 < k := by omega
    obtain ⟨v2, w2, hr, h2, h3⟩ := byteT.appendZ 3 .i64 Tryd.underlying3 25 w w.heap.size _ [] Ob.nil k hk (by simp; omega) (Nat.le_refl _)
    have hb2 : Below w.heap.size w w2 := (Ob.nil (e := 5) (base := w.heap.size)).grown h3 (Below.refl _ _) (Nat.le_refl _) (Nat.le_refl _)
    rw [List.nil_append] at h2
    obtain ⟨g, cap, rfl, hg1, hg2, hg3, hg4⟩ := h2.row (by simp; omega)
    have h5 := ob_cut h2 0 (by simp)
    rw [List.take_zero] at h5
    rw [List.length_replicate] at *
    unfold maxLen at hg4
    clear hz h3
    go_enter Tryd.func51, Tryd.ntmps51
    go_wp2_with (at_builtin; refine Lib.wpList_append_run _ rfl _ _ _ _ rfl _ _ rfl rfl _ _ hr ?_)
    go_ret
    exact ⟨_, rfl, hb2, h5⟩

theorem concat (v : Value) (L : List (List Int)) (w : World) (hv : Rs w v L) (hl : L.flatten.length ≤ 500000000000) :
    Calls Tryd.prog 39 #[v] w fun e w' => ∃ v', e = .returned v' ∧ Below w.heap.size w w' ∧ Ob 5 w.heap.size w' v' L.flatten := by
  obtain ⟨o, c, rfl, hlc, hcm, hon, hcell⟩ := hv
  unfold maxLen at hcm
  go_enter Tryd.func39, Tryd.ntmps39
  go_wp2_with fail
  have hsum : ∀ k, ((L.take k).flatten).length ≤ L.flatten.length := by
    intro k
    have : L.flatten = (L.take k).flatten ++ (L.drop k).flatten := by rw [← List.flatten_append, List.take_append_drop]
    rw [this]; simp
  have hstep : ∀ k, k < L.length → (L.take (k + 1)).flatten = (L.take k).flatten ++ L.getD k [] := by
    intro k hk
    rw [List.take_succ_eq_append_getElem hk, List.flatten_append, getD_lt hk]; simp
  have HSTEP := Lib.hid hstep
  clear hstep
  go_loop [3, 5, 11] (fun n _ i => ∃ k : Nat, k ≤ L.length ∧ i = .int .i64 k ∧ n = .int .i64 ((L.take k).flatten).length) (fun _ _ i => L.length - (intOf i).toNat)
  case atStart => exact ⟨0, by omega, rfl, by simp⟩
  case round =>
    obtain ⟨k, hk, rfl, rfl⟩ := hrel
    have hs := hsum k
    by_cases hlt : k < L.length
    · obtain ⟨a, u, rfl, g, hu⟩ := Rs.at_ hcell hlt
      clear hcell
      have hst : ((L.take (k + 1)).flatten).length = ((L.take k).flatten).length + (L.getD k []).length := by rw [HSTEP.out k hlt, List.length_append]
      have hs2 := hsum (k + 1)
      have HST := Lib.hid hst
      have hle : ((L.take k).flatten).length + (L.getD k []).length ≤ 500000000000 := by omega
      clear hst hs2 hsum
      generalize L.getD k [] = ek at hu HST hle
      obtain ⟨_, o2, c2, rfl, _, hc2, _, _⟩ := hu
      unfold maxLen at hc2
      generalize ((L.take k).flatten).length = n at hs HST hle
      go_wp2_with fail
      go_round
      case rel => exact ⟨k + 1, by omega, by go_num, by rw [HST.out]; go_num⟩
      case measure => simp [intOf]; omega
    · have hfull : (L.take k).flatten = L.flatten := by rw [List.take_of_length_le (by omega)]
      rw [hfull]
      clear hfull hs
      obtain ⟨N, hN⟩ : ∃ N, N = L.flatten.length := ⟨_, rfl⟩
      rw [← hN] at hl ⊢
      have HN := Lib.hid hN
      clear hN
      go_wp2_with fail
      refine (grow N w (by omega) (by omega)).mono ?_
      rintro e w1 ⟨v', rfl, hb, hob⟩
      go_wp2_with fail
      go_loopw [6, 8, 27] (fun s _ i wr => ∃ k : Nat, k ≤ L.length ∧ i = .int .i64 k ∧ Below w.heap.size w wr ∧ Ob 5 w.heap.size wr s ((L.take k).flatten)) (fun _ _ i _ => L.length - (intOf i).toNat)
      case atStart => exact ⟨0, by omega, rfl, hb, by simpa using hob⟩
      case round =>
        obtain ⟨k, hk, rfl, hbr, hobr⟩ := hrel
        have hs := hsum k
        by_cases hlt : k < L.length
        · obtain ⟨a, u, rfl, g0, hu⟩ := Rs.at_ hcell hlt
          clear hcell
          have g : wr.cell? (a.add k) = some u := by rw [hbr.cell (Below.lt g0)]; exact g0
          have hur : Bs wr u (L.getD k []) := hu.below hbr
          have hst := HSTEP.out k hlt
          have hs2 := hsum (k + 1)
          rw [hst, List.length_append, ← HN.out] at hs2
          obtain ⟨v2, w2, hr, h1, h2, h3⟩ := byteT.append 25 wr w.heap.size _ _ hobr u _ hur (by omega) hbr.size
          have hb2 : Below w.heap.size w w2 := hobr.grown h2 hbr (Nat.le_refl _) hbr.size
          rw [← hst] at h1
          clear hst h2 h3 g0
          go_wp2_with (at_builtin; refine Lib.wpList_append_run _ rfl _ _ _ _ rfl _ _ rfl rfl _ _ hr ?_)
          go_roundw
          case rel => exact ⟨k + 1, by omega, by go_num, hb2, h1⟩
          case measure => simp [intOf]; omega
        · have hfull : (L.take k).flatten = L.flatten := by rw [List.take_of_length_le (by omega)]
          rw [hfull] at hobr
          clear hfull hs
          go_wp2_with fail
          go_ret
          exact ⟨_, rfl, hbr, hobr⟩

theorem join (v : Value) (L : List (List Int)) (w : World) (hv : Rs w v L) (hl : L.flatten.length ≤ 500000000000) :
    Calls Tryd.prog 20 #[v] w fun e w' => ∃ v', e = .returned v' ∧ Below w.heap.size w w' ∧ Ob 5 w.heap.size w' v' L.flatten := by
  go_enter Tryd.func20, Tryd.ntmps20
  go_wp2_with fail
  refine (concat v L w hv hl).mono ?_
  rintro e w1 ⟨v', rfl, hb, hob⟩
  go_wp2_with fail
  go_ret
  exact ⟨_, rfl, hb, hob⟩

theorem fill (v : Value) (l : List Int) (size : Int) (w : World) (hv : Bs w v l) (hl : l.length ≤ 500000000000) (h3 : -9223372036854775808 ≤ size) (h4 : size ≤ 500000000000) :
    Calls Tryd.prog 17 #[v, .int .i64 size] w fun e w' => ∃ v', e = .returned v' ∧ Below w.heap.size w w' ∧ Ob 5 w.heap.size w' v' (fillL l size) := by
  have hv' := hv
  obtain ⟨hl1, o, c, rfl, hlc, hcm, hon, hcell⟩ := hv
  unfold maxLen at hcm
  by_cases hsz : size ≤ l.length
  · have e : fillL l size = l := by unfold fillL; rw [show (size - l.length).toNat = 0 from by omega]; simp
    rw [e]
    go_enter Tryd.func17, Tryd.ntmps17
    go_wp2_with fail
    refine (clone _ l _ hv' (by omega)).mono ?_
    rintro e w1 ⟨v', rfl, hb, hob⟩
    go_wp2_with fail
    go_ret
    exact ⟨_, rfl, hb, hob⟩
  · have hsz2 : (l.length : Int) < size := by omega
    go_enter Tryd.func17, Tryd.ntmps17
    go_wp2_with fail
    refine (clone _ l _ hv' (by omega)).mono ?_
    rintro e w1 ⟨v', rfl, hb, hob⟩
    obtain ⟨n, rfl⟩ : ∃ n : Nat, size = l.length + n := ⟨(size - l.length).toNat, by omega⟩
    obtain ⟨v2, w2, hr, h1, h2⟩ := byteT.appendZ 3 .i64 Tryd.underlying3 25 w1 w.heap.size v' l hob n (by omega) (by omega) hb.size
    have hb2 : Below w.heap.size w w2 := hob.grown h2 hb (Nat.le_refl _) hb.size
    have e2 : fillL l (l.length + n) = l ++ List.replicate n 0 := by unfold fillL; rw [show ((l.length : Int) + n - l.length).toNat = n from by omega]
    rw [← e2] at h1
    have e3 : (l.length : Int) + n - l.length = (n : Int) := by omega
    have E3 := Lib.hid e3
    clear e3 e2 h2
    rw [← E3.out] at hr
    go_wp2_with (at_builtin; refine Lib.wpList_append_run _ rfl _ _ _ _ rfl _ _ rfl rfl _ _ hr ?_)
    go_ret
    exact ⟨_, rfl, hb2, h1⟩

theorem fillRef (v : Value) (l : List Int) (size : Int) (w : World) (hv : Bs w v l) (hl : l.length ≤ 500000000000) (h3 : -9223372036854775808 ≤ size) (h4 : size ≤ 500000000000) :
    Calls Tryd.prog 11 #[v, .int .i64 size] w fun e w' => ∃ v', e = .returned v' ∧ Below w.heap.size w w' ∧ Ob 5 w.heap.size w' v' (fillL l size) := by
  go_enter Tryd.func11, Tryd.ntmps11
  go_wp2_with fail
  refine (bytesRef _ l _ hv (by omega)).mono ?_
  rintro e w1 ⟨v', rfl, hb, hob⟩
  go_wp2_with fail
  go_loopw [5] (fun s wr => ∃ k : Nat, (k : Int) ≤ max 0 (size - l.length) ∧ Below w.heap.size w wr ∧ Ob 5 w.heap.size wr s (l ++ List.replicate k 0)) (fun s _ => match s with | .slice _ n _ => (size - n).toNat | _ => 0)
  case atStart => exact ⟨0, by omega, hb, by simpa using hob⟩
  case round =>
    obtain ⟨k, hk, hbr, hobr⟩ := hrel
    have hln : (l ++ List.replicate k (0 : Int)).length = l.length + k := by simp
    have hobr' := hobr
    obtain ⟨_, o, cap, rfl, _, hcm, _, _⟩ := hobr.bs
    rw [hln] at *
    unfold maxLen at hcm
    by_cases hlt : (l.length : Int) + k < size
    · have hsz := hbr.size
      obtain ⟨v2, w2, hr, h1, h2, h3⟩ := byteT.append 25 (wr.alloc (.cells #[.int .u8 0] 5)) w.heap.size _ _ (hobr.below ((Below.refl _ _).alloc (Nat.le_refl _) _)) _ [0] (Ob.one (base := 0) (by omega) (by omega) (Nat.zero_le _)).bs (by simp; omega) (by simp; omega)
      have hb1 : Below w.heap.size w (wr.alloc (.cells #[.int .u8 0] 5)) := hbr.alloc hsz _
      have hb2 : Below w.heap.size w w2 := (hobr.below ((Below.refl _ _).alloc (Nat.le_refl _) _)).grown h2 hb1 (Nat.le_refl _) (by simp; omega)
      have hlen2 : (l ++ List.replicate (k + 1) (0 : Int)).length = l.length + (k + 1) := by simp
      rw [List.append_assoc, show List.replicate k (0 : Int) ++ [0] = List.replicate (k + 1) 0 from (List.replicate_succ' ..).symm] at h1
      obtain ⟨_, o2, cap2, rfl, _, _, _, _⟩ := h1.bs
      rw [hlen2] at *
      clear h2 h3
      go_wp2_with (at_builtin; refine Lib.wpList_append_run _ rfl _ _ _ _ rfl _ _ rfl rfl _ _ hr ?_)
      go_roundw
      case rel => exact ⟨k + 1, by omega, hb2, h1⟩
      case measure => simp; omega
    · have e : l ++ List.replicate k 0 = fillL l size := by unfold fillL; rw [show (size - l.length).toNat = k from by omega]
      rw [e] at hobr
      go_wp2_with fail
      go_ret
      exact ⟨_, rfl, hbr, hobr⟩

theorem get (v : Value) (l : List Int) (at_ size : Int) (w : World) (hv : Bs w v l) (hl : l.length ≤ 1000000000000) (ha : -9223372036854775808 ≤ at_) (ha' : at_ ≤ 9223372036854775807) (h3 : -9223372036854775808 ≤ size) (h4 : size ≤ 9223372036854775807) :
    Calls Tryd.prog 29 #[v, .int .i64 at_, .int .i64 size] w fun e w' => e = .returned (.int .u64 (getL l at_ size)) ∧ w = w' := by
  have hv' := hv
  obtain ⟨hl1, o, c, rfl, hlc, hcm, hon, hcell⟩ := hv
  unfold maxLen at hcm
  by_cases ht : at_ < l.length
  · by_cases ht' : -8 ≤ at_
    · go_enter Tryd.func29, Tryd.ntmps29
      go_wp2_with fail
      refine (places _ _ _ hl at_ size _ ht' ht h3 h4).mono ?_
      rintro e w2 ⟨rfl, rfl⟩
      go_wp2_with fail
      have hsz := sz_le size
      generalize hz : sz size = z at hsz
      have HZ := Lib.hid hz
      clear hz
      go_loop [7, 10] (fun n i => ∃ k : Nat, i = .int .i64 k ∧ max at_ 0 ≤ k ∧ (k : Int) ≤ max (max at_ 0) (min (at_ + z) l.length) ∧ n = .int .u64 (getTo l at_ (k - at_).toNat)) (fun _ i => (l.length : Int).toNat - (intOf i).toNat)
      case atStart =>
        refine ⟨(max at_ 0).toNat, by congr 1; omega, by omega, by omega, ?_⟩
        rw [getTo_zero _ _ _ (by omega)]
      case round =>
        obtain ⟨k, rfl, hk0, hk, rfl⟩ := hrel
        by_cases hlt : (k : Int) < min (at_ + z) l.length
        · obtain ⟨a, x, rfl, g, hx, hx0, hx1⟩ := Bs.at_ hl1 hcell (k := k) (by omega)
          clear hcell
          have hg := getTo_bounds hl1 at_ (k - at_).toNat
          have hst : getTo l at_ ((k : Int) + 1 - at_).toNat = getTo l at_ (k - at_).toNat + x * 2 ^ (8 * (k - at_)).toNat := by
            rw [show ((k : Int) + 1 - at_).toNat = (k - at_).toNat + 1 from by omega, getTo, if_pos (by omega), show (at_ + ((k - at_).toNat : Int)).toNat = k from by omega, hx.out,
              show (8 * (↑k - at_)).toNat = 8 * (↑k - at_).toNat from by omega]
          have HST := Lib.hid hst
          clear hst
          generalize getTo l at_ (k - at_).toNat = y at hg HST
          go_wp2
          go_round
          case rel =>
            refine ⟨k + 1, by go_num, by omega, by omega, ?_⟩
            rw [show ((k + 1 : Nat) : Int) = (k : Int) + 1 from by omega, HST.out, or_shift _ _ _ (by omega) hg.1 (by rw [show (8 * (↑k - at_)).toNat = 8 * (↑k - at_).toNat from by omega]; exact hg.2) hx0 hx1]
          case measure => simp [intOf]; omega
        · have hfin : getTo l at_ (k - at_).toNat = getL l at_ size := by
            unfold getL
            rw [HZ.out]
            exact getTo_all _ _ _ _ (by omega) hk0 hk ht (by omega)
          go_wp2
          go_ret
          exact ⟨by rw [← hfin]; rfl, rfl⟩
    · have hfin : getL l at_ size = 0 := getL_none _ _ _ (by omega)
      go_enter Tryd.func29, Tryd.ntmps29
      go_wp2
      go_ret
      exact ⟨rfl, rfl⟩
  · have hfin : getL l at_ size = 0 := getL_none _ _ _ (by omega)
    go_enter Tryd.func29, Tryd.ntmps29
    go_wp2
    go_ret
    exact ⟨rfl, rfl⟩

theorem getRef (v : Value) (l : List Int) (at_ size : Int) (w : World) (hv : Bs w v l) (hl : l.length ≤ 1000000000000) (ha : -9223372036854775808 ≤ at_) (ha' : at_ ≤ 9223372036854775807) (h3 : -9223372036854775808 ≤ size) (h4 : size ≤ 9223372036854775807) :
    Calls Tryd.prog 33 #[v, .int .i64 at_, .int .i64 size] w fun e w' => e = .returned (.int .u64 (getL l at_ size)) ∧ w = w' := by
  have hv' := hv
  obtain ⟨hl1, o, c, rfl, hlc, hcm, hon, hcell⟩ := hv
  unfold maxLen at hcm
  have hz := sz_le size
  have hfin : hi l at_ (sz size).toNat (sz size).toNat = getL l at_ size := by
    have := hi_getTo l at_ (sz size).toNat (sz size).toNat (Nat.le_refl _)
    simp [getTo] at this
    unfold getL; omega
  have HFIN := Lib.hid hfin
  clear hfin
  have hsz := fun w => sizedRef size w h3 h4
  generalize sz size = z at hz HFIN hsz
  go_enter Tryd.func33, Tryd.ntmps33
  go_wp2_with fail
  refine (hsz w).mono ?_
  rintro e w' ⟨rfl, rfl⟩
  go_wp2_with fail
  go_loop [7, 8] (fun n i => ∃ m : Nat, (m : Int) ≤ z ∧ i = .int .i64 (z - 1 - m) ∧ n = .int .u64 (hi l at_ z.toNat m)) (fun _ i => (intOf i + 1).toNat)
  case atStart => exact ⟨0, by omega, by congr 1; omega, rfl⟩
  case round =>
    obtain ⟨m, hm, rfl, rfl⟩ := hrel
    by_cases hlt : (m : Int) < z
    · have hb := hi_bounds hl1 at_ z.toNat m (by omega)
      obtain ⟨j, hj⟩ : ∃ j : Nat, z.toNat - 1 - m = j := ⟨_, rfl⟩
      have hst : hi l at_ z.toNat (m + 1) = hi l at_ z.toNat m * 256 + dig l at_ j := by rw [hi, hj]
      have hz2 : z - 1 - (m : Int) = j := by omega
      rw [hz2]
      have HJ := Lib.hid hz2
      have hjz : (j : Int) ≤ 7 := by omega
      have hj2 : (j : Int) - 1 = z - 1 - ((m + 1 : Nat) : Int) := by omega
      have HJ2 := Lib.hid hj2
      have HST := Lib.hid hst
      clear hst hz2 hj hj2
      generalize hi l at_ z.toNat m = q at hb HST
      have hsh : IntKind.u64.wrap (q * 256) = q * 256 := by rw [IntKind.wrap_u64]; omega
      by_cases hin : 0 ≤ at_ + j ∧ at_ + j < l.length
      · obtain ⟨a, x, rfl, g, hx, hx0, hx1⟩ := Bs.at_ hl1 hcell (k := (at_ + j).toNat) (by omega)
        have hd : dig l at_ j = x := by unfold dig; rw [if_pos hin]; exact hx.out
        have HD := Lib.hid hd
        have hor := or_low q x hb.1 hb.2 hx0 hx1
        have d1 : decide (-(j : Int) ≤ at_) = true := by simp; omega
        have d2 : decide (at_ < (l.length : Int) - j) = true := by simp; omega
        have i0 : 0 ≤ at_ + (j : Int) := hin.1
        have i1 : at_ + (j : Int) < l.length := hin.2
        clear hin hcell hd
        go_wp2_with fail
        go_round
        case rel => exact ⟨m + 1, by omega, by rw [← HJ2.out], by rw [HST.out, HD.out]⟩
        case measure => simp [intOf]
      · have hd : dig l at_ j = 0 := by unfold dig; rw [if_neg hin]
        have HD := Lib.hid hd
        clear hd hcell
        by_cases h1 : -(j : Int) ≤ at_
        · have d1 : decide (-(j : Int) ≤ at_) = true := by simp; omega
          have d2 : decide (at_ < (l.length : Int) - j) = false := by simp; omega
          clear hin
          go_wp2_with fail
          go_round
          case rel => exact ⟨m + 1, by omega, by rw [← HJ2.out], by rw [HST.out, HD.out]; simp⟩
          case measure => simp [intOf]
        · have d1 : decide (-(j : Int) ≤ at_) = false := by simp; omega
          clear hin
          go_wp2_with fail
          go_round
          case rel => exact ⟨m + 1, by omega, by rw [← HJ2.out], by rw [HST.out, HD.out]; simp⟩
          case measure => simp [intOf]
    · have hm2 : z.toNat = m := by omega
      have hx := HFIN.out
      have HX : Hid (hi l at_ z.toNat m = getL l at_ size) := by rw [← hx, hm2]; rfl
      clear hx hm2
      go_wp2_with fail
      go_ret
      exact ⟨by rw [← HX.out]; rfl, rfl⟩

theorem put (v : Value) (l : List Int) (at_ size n : Int) (w : World) (hv : Bs w v l) (hl : l.length ≤ 1000000000000) (ha : -9223372036854775808 ≤ at_) (ha' : at_ ≤ 9223372036854775807) (h3 : -9223372036854775808 ≤ size) (h4 : size ≤ 9223372036854775807)
    (hn : 0 ≤ n) (hn' : n ≤ 18446744073709551615) :
    Calls Tryd.prog 18 #[v, .int .i64 at_, .int .i64 size, .int .u64 n] w fun e w' => ∃ v', e = .returned v' ∧ Below w.heap.size w w' ∧ Ob 5 w.heap.size w' v' (putL l at_ size n) := by
  have hv' := hv
  obtain ⟨hl1, o, c, rfl, hlc, hcm, hon, hcell⟩ := hv
  clear hcell
  unfold maxLen at hcm
  by_cases ht : at_ < l.length
  · by_cases ht' : -8 ≤ at_
    · go_enter Tryd.func18, Tryd.ntmps18
      go_wp2_with fail
      refine (clone _ l _ hv' hl).mono ?_
      rintro e w' ⟨v', rfl, hb, hob⟩
      go_wp2_with fail
      refine (places _ _ _ hl at_ size _ ht' ht h3 h4).mono ?_
      rintro e w2 ⟨rfl, rfl⟩
      go_wp2_with fail
      have hsz := sz_le size
      generalize hz : sz size = z at hsz
      have HZ := Lib.hid hz
      clear hz
      go_loopw [12] (fun i wr => ∃ k : Nat, i = .int .i64 k ∧ max at_ 0 ≤ k ∧ (k : Int) ≤ max (max at_ 0) (min (at_ + z) l.length) ∧ Below w.heap.size w wr ∧ Ob 5 w.heap.size wr v' (putTo l at_ size n k)) (fun i _ => (l.length : Int).toNat - (intOf i).toNat)
      case atStart =>
        refine ⟨(max at_ 0).toNat, by congr 1; omega, by omega, by omega, hb, ?_⟩
        rw [putTo_zero _ _ _ _ _ (by omega)]; exact hob
      case round =>
        obtain ⟨k, rfl, hk0, hk, hbr, hobr⟩ := hrel
        by_cases hlt : (k : Int) < min (at_ + z) l.length
        · have hkl : k < (putTo l at_ size n k).length := by rw [putTo_length]; omega
          obtain ⟨g, cap, rfl, hg1, hg2, _, _⟩ := hobr.row (ne_nil_of_lt hkl)
          have hc := hobr.cell hkl
          have hf := hobr.frozen k
          generalize (putTo l at_ size n k).getD k 0 = x0 at hc
          rw [putTo_length] at *
          have hs := fun i x h0 h1 => hobr.set i (x := x) h0 h1
          go_wp2
          go_roundw
          case rel =>
            have hx : (n / 2 ^ (8 * (↑k - at_)).toNat % 256) = n / 2 ^ (8 * (↑k - at_).toNat) % 256 := by
              rw [show (8 * (↑k - at_)).toNat = 8 * (↑k - at_).toNat from by omega]
            refine ⟨k + 1, by go_num, by omega, by omega, hbr.setCell hg1 _, ?_⟩
            rw [← putTo_succ _ _ _ _ _ (by omega) (by have := HZ.out; omega), hx]
            exact hs k _ (by omega) (by omega)
          case measure => simp [intOf]; omega
        · have hfin : putTo l at_ size n k = putL l at_ size n := putTo_all _ _ _ _ _ (by have := HZ.out; omega)
          rw [hfin] at hobr
          go_wp2
          go_ret
          exact ⟨_, rfl, hbr, hobr⟩
    · go_enter Tryd.func18, Tryd.ntmps18
      go_wp2_with fail
      refine (clone _ l _ hv' hl).mono ?_
      rintro e w' ⟨v', rfl, hb, hob⟩
      rw [← putL_none l at_ size n (by omega)] at hob
      go_wp2_with fail
      go_ret
      exact ⟨_, rfl, hb, hob⟩
  · go_enter Tryd.func18, Tryd.ntmps18
    go_wp2_with fail
    refine (clone _ l _ hv' hl).mono ?_
    rintro e w' ⟨v', rfl, hb, hob⟩
    rw [← putL_none l at_ size n (by omega)] at hob
    go_wp2_with fail
    go_ret
    exact ⟨_, rfl, hb, hob⟩

theorem putRef (v : Value) (l : List Int) (at_ size n : Int) (w : World) (hv : Bs w v l) (hl : l.length ≤ 1000000000000) (ha : -9223372036854775808 ≤ at_) (ha' : at_ ≤ 9223372036854775807) (h3 : -9223372036854775808 ≤ size) (h4 : size ≤ 9223372036854775807)
    (hn : 0 ≤ n) (hn' : n ≤ 18446744073709551615) :
    Calls Tryd.prog 22 #[v, .int .i64 at_, .int .i64 size, .int .u64 n] w fun e w' => ∃ v', e = .returned v' ∧ Below w.heap.size w w' ∧ Ob 5 w.heap.size w' v' (putL l at_ size n) := by
  have hz := sz_le size
  go_enter Tryd.func22, Tryd.ntmps22
  go_wp2_with fail
  refine (bytesRef _ l _ hv hl).mono ?_
  rintro e w1 ⟨v', rfl, hb, hob⟩
  go_wp2_with fail
  go_loopw [3, 10] (fun q i wr => ∃ k : Nat, i = .int .i64 k ∧ (k : Int) ≤ sz size ∧ q = .int .u64 (n / 2 ^ (8 * k)) ∧ Below w.heap.size w wr ∧ Ob 5 w.heap.size wr v' (putN l at_ n k)) (fun _ i _ => (8 - intOf i).toNat)
  case atStart => exact ⟨0, rfl, by omega, by simp, hb, by rw [putN_zero]; exact hob⟩
  case round =>
    obtain ⟨k, rfl, hk, rfl, hbr, hobr⟩ := hrel
    by_cases hlt : (k : Int) < sz size
    · have hds := div_step n k
      have hdb := div_bounds hn hn' k
      by_cases hin : 0 ≤ at_ + k ∧ at_ + k < l.length
      · have hst := putN_in l at_ n k hin.1 hin.2
        have HST := Lib.hid hst
        have HDS := Lib.hid hds
        clear hst hds
        have hne : putN l at_ n k ≠ [] := by intro e; have := putN_length l at_ n k; rw [e] at this; simp at this; omega
        obtain ⟨g, cap, rfl, hg1, hg2, _, _⟩ := hobr.row hne
        have hc := hobr.cell (i := (at_ + k).toNat) (by rw [putN_length]; omega)
        have hf := hobr.frozen (at_ + k).toNat
        have hs := hobr.set (at_ + k).toNat (x := n / 2 ^ (8 * k) % 256) (by omega) (by omega)
        rw [HST.out] at hs
        rw [putN_length] at *
        generalize (putN l at_ n k).getD (at_ + k).toNat 0 = x0 at hc
        generalize n / 2 ^ (8 * k) = q at hdb HST HDS hs
        have d1 : decide (-(k : Int) ≤ at_) = true := by simp; omega
        have d2 : decide (at_ < (l.length : Int) - k) = true := by simp; omega
        have i0 : 0 ≤ at_ + (k : Int) := hin.1
        have i1 : at_ + (k : Int) < l.length := hin.2
        clear hin
        go_wp2_with (first | (go_at_call 40; (with_reducible refine (sizedRef size _ h3 h4).mono ?_); rintro e w' ⟨rfl, rfl⟩))
        go_roundw
        case rel => exact ⟨k + 1, by go_num, by omega, by rw [HDS.out], hbr.setCell hg1 _, hs⟩
        case measure => simp [intOf]; omega
      · have hst := putN_out l at_ n k hin
        rw [hst] at hobr
        have HDS := Lib.hid hds
        clear hst hds
        generalize n / 2 ^ (8 * k) = q at hdb HDS
        have hob2 := hobr
        obtain ⟨_, o', c', rfl, hlc', hcm', _, _⟩ := hobr.bs
        rw [putN_length] at *
        unfold maxLen at hcm'
        by_cases h1 : -(k : Int) ≤ at_
        · have d1 : decide (-(k : Int) ≤ at_) = true := by simp; omega
          have d2 : decide (at_ < (l.length : Int) - k) = false := by simp; omega
          clear hin
          go_wp2_with (first | (go_at_call 40; (with_reducible refine (sizedRef size _ h3 h4).mono ?_); rintro e w' ⟨rfl, rfl⟩))
          go_roundw
          case rel => exact ⟨k + 1, by go_num, by omega, by rw [HDS.out], hbr, hob2⟩
          case measure => simp [intOf]; omega
        · have d1 : decide (-(k : Int) ≤ at_) = false := by simp; omega
          clear hin
          go_wp2_with (first | (go_at_call 40; (with_reducible refine (sizedRef size _ h3 h4).mono ?_); rintro e w' ⟨rfl, rfl⟩))
          go_roundw
          case rel => exact ⟨k + 1, by go_num, by omega, by rw [HDS.out], hbr, hob2⟩
          case measure => simp [intOf]; omega
    · have hfin : putN l at_ n k = putL l at_ size n := by rw [← putN_all, show (sz size).toNat = k from by omega]
      rw [hfin] at hobr
      go_wp2_with (first | (go_at_call 40; (with_reducible refine (sizedRef size _ h3 h4).mono ?_); rintro e w' ⟨rfl, rfl⟩))
      go_ret
      exact ⟨_, rfl, hbr, hobr⟩
end Go.Proofs.YtpgelebmhhcodaaDoor
