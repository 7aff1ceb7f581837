/- The walk of the law DiskLoads. -/
import Derived.Test.YtccfiohcblecoaaDoorDskO
import Derived.Test.YtccfiohcblecoaaDoorDskQ
import Derived.Deep.Light
import Derived.Deep.RegionHeld3
import Derived.Test.YtccfiohcblecoaaDoorFilled
import Derived.Test.YtccfiohcblecoaaDoorNum
import Derived.Test.YtccfiohcblecoaaDoorSame
import Derived.Test.YtccfiohcblecoaaDoorDskK
namespace Go.Proofs.YtccfiohcblecoaaDoor
open Go.RowKit
set_option linter.unusedVariables false

theorem diskLoads_idle {ea : Nat → Addr} (v : Value) (l : List Int) (turn : Int) (w : World) (hs : D3 ea w) (hv : Ns .i64 w v l) (hbig : l.length = 0 ∨ 6 < l.length) :
    Calls Tryd.prog 4 #[v, .int .i64 turn] w fun e w' => e = .returned (.bool true) ∧ Below w.heap.size w w' := by
  obtain ⟨_, o, cap, rfl, hc1, hc2, hc3, _⟩ := hv
  unfold maxLen at hc2
  have HF := Lib.hid (dskFirst w hs)
  clear hs
  generalize l.length = n at *
  by_cases h0 : n = 0
  · subst h0
    go_enter Tryd.func4, Tryd.ntmps4
    go_wp2_with fail
    refine HF.out.mono ?_
    rintro e w1 ⟨rfl, hb1⟩
    have HB1 := Lib.hid hb1
    clear hb1
    go_wp2_with fail
    go_ret
    exact ⟨rfl, HB1.out⟩
  · have h6 : (6 : Int) < n := by omega
    have h1 : ((n : Int) == 0) = false := by simp; omega
    go_enter Tryd.func4, Tryd.ntmps4
    go_wp2_with fail
    refine HF.out.mono ?_
    rintro e w1 ⟨rfl, hb1⟩
    have HB1 := Lib.hid hb1
    clear hb1
    go_wp2_with fail
    go_ret
    exact ⟨rfl, HB1.out⟩

/-- a list of lists of bytes can be read -/
theorem ImgAt.rs {base : Nat} {w : World} {v : Value} {L : List (List Int)} (h : ImgAt base w v L) : Rs w v L := by
  obtain ⟨xs, h1, h2⟩ := h
  rcases h1.2 with ⟨rfl, hn⟩ | ⟨gb, cap, cur, rfl, _, hg, hc, hm, hcs, ht⟩
  · rw [List.length_eq_zero_iff.1 hn]; exact Rs.nil _
  · refine ⟨some ⟨gb, 0, none⟩, cap, rfl, hc, hm, (fun e => by cases e), fun _ => ⟨_, rfl, fun i hi => ⟨xs.getD i undef, ?_, (h2 i hi).1.bs⟩⟩⟩
    have hadd : (⟨gb, 0, none⟩ : Addr).add i = ⟨gb, i, none⟩ := by unfold Addr.add; split <;> simp_all
    rw [hadd, cell_of_row w gb _ _ _ (0, 0) hg]
    have hxl : xs.length = L.length := by have := h1.1; omega
    have e : cur[i]? = (cur.toList.take (L.length * 1))[i]? := by rw [List.getElem?_take, if_pos (by omega)]; simp
    rw [e, ht, getD_lt (by omega), List.getElem?_eq_getElem]
/-- .. and stays so where its blocks are left alone -/
theorem ImgAt.same {base : Nat} {w w' : World} {v : Value} {L : List (List Int)} (h : ImgAt base w v L) (hb : ∀ b, base ≤ b → b < w.heap.size → w'.heap[b]? = w.heap[b]?) : ImgAt base w' v L := by
  obtain ⟨xs, h1, h2⟩ := h
  exact ⟨xs, ownsRow_same h1 fun b e => hb b (h1.lt b e).1 (h1.lt b e).2, fun i hi => ⟨(h2 i hi).1.same fun b e => hb b ((h2 i hi).1.lt e).1 ((h2 i hi).1.lt e).2, (h2 i hi).2⟩⟩
/-- one element: where it lies -/
theorem ImgAt.at_ {base : Nat} {w : World} {v : Value} {L : List (List Int)} (h : ImgAt base w v L) (hl : ∀ i, i < L.length → (L.getD i []).length = 256) {i : Nat} (hi : i < L.length) :
    ∃ gb c gx cx, v = .slice (some ⟨gb, 0, none⟩) L.length c ∧ base ≤ gb ∧ gb < w.heap.size ∧ w.cell? ⟨gb, i, none⟩ = some (.slice (some ⟨gx, 0, none⟩) 256 cx) ∧ base ≤ gx ∧ gx < w.heap.size ∧ 256 ≤ cx ∧ cx ≤ maxLen ∧ gx ≠ gb ∧ Ob 5 base w (.slice (some ⟨gx, 0, none⟩) 256 cx) (L.getD i []) := by
  obtain ⟨xs, h1, h2⟩ := h
  rcases h1.2 with ⟨_, hn⟩ | ⟨gb, cap, cur, rfl, hbg, hg, hc, hm, hcs, ht⟩
  · omega
  · obtain ⟨ho, hs⟩ := h2 i hi
    have hli := hl i hi
    obtain ⟨gx, cx, hxv, hx1, hx2, hx3, hx4⟩ := ho.row (ne_nil_of_lt (k := 0) (by omega))
    rw [hli] at hxv hx3
    have hxl : xs.length = L.length := by have := h1.1; omega
    refine ⟨gb, cap, gx, cx, rfl, hbg, (Array.getElem?_eq_some_iff.1 hg).1, ?_, hx1, hx2, hx3, hx4, ?_, by rw [← hxv]; exact ho⟩
    · rw [cell_of_row w gb _ _ _ (0, 0) hg]
      have e : cur[i]? = (cur.toList.take (L.length * 1))[i]? := by rw [List.getElem?_take, if_pos (by omega)]; simp
      rw [e, ht, ← hxv, getD_lt (by omega), List.getElem?_eq_getElem]
    · intro e
      exact hs gx (by rw [hxv]; rfl) (by rw [e]; rfl)
/-- a byte of one of them put anew: what is left has the same lengths -/
theorem ImgAt.poke {base : Nat} {w : World} {v : Value} {L : List (List Int)} (h : ImgAt base w v L) (hl : ∀ i, i < L.length → (L.getD i []).length = 256) (gx j : Nat) (y : Int) (y0 : 0 ≤ y) (y1 : y ≤ 255) (hne : v.ownBlock ≠ some gx) :
    ∃ L', ImgAt base (w.setCell ⟨gx, j, none⟩ (.int .u8 y)) v L' ∧ L'.length = L.length ∧ ∀ i, i < L'.length → (L'.getD i []).length = 256 := by
  obtain ⟨xs, h1, h2⟩ := h
  refine ⟨(List.range L.length).map fun i => if (xs.getD i undef).ownBlock = some gx then (L.getD i []).set j y else L.getD i [], ⟨xs, ?_, fun i hi => ?_⟩, by simp, fun i hi => ?_⟩
  · have e : ((List.range L.length).map fun i => if (xs.getD i undef).ownBlock = some gx then (L.getD i []).set j y else L.getD i []).length = L.length := by simp
    rw [e]
    exact ownsRow_same h1 fun b e => setCell_otherD w _ _ fun e2 => hne (by rw [← e2]; exact e)
  · have hi' : i < L.length := by simpa using hi
    have e : ((List.range L.length).map fun i => if (xs.getD i undef).ownBlock = some gx then (L.getD i []).set j y else L.getD i []).getD i [] = if (xs.getD i undef).ownBlock = some gx then (L.getD i []).set j y else L.getD i [] := by
      rw [List.getD_eq_getElem?_getD, List.getElem?_map, List.getElem?_range hi']; rfl
    rw [e]
    obtain ⟨ho, hs⟩ := h2 i hi'
    refine ⟨?_, hs⟩
    by_cases hx : (xs.getD i undef).ownBlock = some gx
    · rw [if_pos hx]
      obtain ⟨g2, c2, hv2, _⟩ := ho.row (ne_nil_of_lt (k := 0) (by rw [hl i hi']; omega))
      rw [hv2] at hx ho ⊢
      have : g2 = gx := by simpa [Value.ownBlock] using hx
      subst this
      exact ho.set j y0 y1
    · rw [if_neg hx]
      exact ho.same fun b e2 => setCell_otherD w _ _ fun e3 => hx (by rw [← e3]; exact e2)
  · have hi' : i < L.length := by simpa using hi
    rw [List.getD_eq_getElem?_getD, List.getElem?_map, List.getElem?_range hi']
    simp only [Option.map_some, Option.getD_some]
    split
    · rw [List.length_set]; exact hl i hi'
    · exact hl i hi'

theorem loadD_facts (d : DiskD) (L : List (List Int)) : (loadD d L).off = false ∧ (loadD d L).fuse = -1 ∧ (loadD d L).l.length = L.length ∧ imageD (loadD d L) = L ∧ looseD (loadD d L) = [] ∧ ∀ i : Nat, i < L.length → readC (loadD d L) (i : Int) = 0 ∧ readL (loadD d L) (i : Int) = L.getD i [] := by
  have hlen : (loadD d L).l.length = L.length := by simp [loadD]
  have hsec : ∀ i, ((loadD d L).sec i).loose = [] := fun i => by
    unfold loadD DiskD.sec
    simp only [List.getD_eq_getElem?_getD, List.getElem?_map]
    cases L[i]? <;> rfl
  refine ⟨rfl, rfl, hlen, by simp [imageD, loadD, Function.comp_def], ?_, fun i hi => ?_⟩
  · have : ∀ n, looseTo (loadD d L) n = [] := fun n => by
      induction n with
      | zero => rfl
      | succ n ih => rw [looseTo_succ, ih, hsec]; rfl
    exact this _
  · obtain ⟨q1, q2⟩ := read_on (C := loadD d L) (n := i) rfl (by rw [hlen]; exact hi)
    refine ⟨q1, ?_⟩
    rw [q2]
    unfold topS
    rw [hsec]
    unfold loadD DiskD.sec
    simp [List.getD_eq_getElem?_getD, List.getElem?_map, hi]

set_option maxRecDepth 20000 in
set_option maxHeartbeats 4000000 in
theorem diskLoads_walk0 {ea : Nat → Addr} (v : Value) (l : List Int) (turn : Int) (t1 : -9223372036854775808 ≤ turn) (t2 : turn ≤ 9223372036854775807) (w : World) (hs : Sen ea w) (hv : Ns .i64 w v l) (hl1 : 1 ≤ l.length) (hl6 : l.length ≤ 6) :
    Calls Tryd.prog 4 #[v, .int .i64 turn] w fun e w' => e = .returned (.bool true) ∧ Below w.heap.size w w' := by
  have HV := Lib.hid hv
  obtain ⟨hwf, o, cap, rfl, hc1, hc2, hc3, hcell⟩ := hv
  unfold maxLen at hc2
  have HF := Lib.hid (dskFirst w hs.d3)
  have HS := Lib.hid hs.d3
  have HSEN := Lib.hid hs
  have HCELL := Lib.hid (fun i (hi : i < l.length) => Ns.at_ hwf hcell hi)
  have hi2 : ∀ W, Below w.heap.size w W → Calls Tryd.prog 26 #[.iface 151 (.pointer (some (ea 1))), .int .i64 102] W fun e w' => e = .returned (.bool true) ∧ Below W.heap.size W w' :=
    fun W hb => isC W (hs.below hb) 102 (by unfold OkC; omega) 102
  have hi3 : ∀ W, Below w.heap.size w W → Calls Tryd.prog 26 #[.iface 151 (.pointer (some (ea 2))), .int .i64 103] W fun e w' => e = .returned (.bool true) ∧ Below W.heap.size W w' :=
    fun W hb => isC W (hs.below hb) 103 (by unfold OkC; omega) 103
  have HI2 := Lib.hid hi2
  have HI3 := Lib.hid hi3
  obtain ⟨n, hn⟩ : ∃ n, n = l.length := ⟨_, rfl⟩
  rw [← hn] at hc1 hl1 hl6 ⊢
  have HN := Lib.hid hn
  have hny := fun W => number turn (n : Int) W (by omega) (by omega) t1 t2
  obtain ⟨k, hk⟩ := Int.eq_ofNat_of_zero_le (Int.emod_nonneg turn (show (n : Int) ≠ 0 by omega))
  have hk1 := Int.emod_lt_of_pos turn (show (0 : Int) < (n : Int) by omega)
  rw [hk] at hny hk1
  have HNY := Lib.hid hny
  have HNEW := Lib.hid (fun W => dskNew (n : Int) W)
  have HD0 : Hid ((newD (n : Int)).l.length = n ∧ (newD (n : Int)).off = false ∧ (newD (n : Int)).fuse = -1 ∧ ((newD (n : Int)).sec 0).loose.length = 0) := Lib.hid ⟨by rw [newD_len]; unfold newN; omega, rfl, rfl, by rw [newD_sec0]; rfl⟩
  generalize newD (n : Int) = d0 at HNEW HD0
  have hnI0 : ((n : Int) == 0) = false := by simp; omega
  have hnI6 : ¬ ((6 : Int) < (n : Int)) := by omega
  clear hn hny hk hs hwf hcell hi2 hi3 t1 t2
  go_enter Tryd.func4, Tryd.ntmps4
  go_wp2_with fail
  refine HF.out.mono ?_
  clear HF
  rintro e w1 ⟨rfl, hb1⟩
  have HB1 := Lib.hid hb1
  clear hb1
  go_wp2_with fail
  go_loopw [6, 7] (fun mv i wr => ∃ j : Nat, i = .int .i64 j ∧ (j : Int) ≤ n ∧ Hid (Below w.heap.size w wr) ∧ Hid (ImgAt w.heap.size wr mv ((l.take j).map fillB))) (fun _ i _ => n - (intOf i).toNat)
  case atStart => exact ⟨0, rfl, by omega, HB1, Lib.hid (ImgAt.nil _ _)⟩
  case round =>
    obtain ⟨j, rfl, hj, HBR, HMR⟩ := hrel
    have hlj : ((l.take j).map fillB).length = j := by rw [List.length_map, List.length_take, ← HN.out]; omega
    obtain ⟨om, cm, hmv, hm1, hm2⟩ := HMR.out.form
    rw [hlj] at hmv hm1
    unfold maxLen at hm2
    subst hmv
    by_cases hjn : (j : Int) < n
    · obtain ⟨a, x, ha, hxc, hxe, hxw⟩ := HCELL.out j (by rw [← HN.out]; omega)
      subst ha
      have hxr : wr.cell? (a.add j) = some (.int .i64 x) := (HBR.out.cell (Below.lt hxc)).trans hxc
      have HLJ := Lib.hid hlj
      have HTK : Hid ((l.take (j + 1)).map fillB = (l.take j).map fillB ++ [fillB x]) := Lib.hid (by
        rw [List.take_succ_eq_append_getElem (by rw [← HN.out]; omega), List.map_append]
        rw [← hxe.out, getD_lt]; rfl)
      clear hxc hxe hxw hlj
      go_wp2_with fail
      refine (filled x _).mono ?_
      rintro e w4 ⟨⟨f, rfl, hf⟩, hb4⟩
      have hff : Ob 5 wr.heap.size w4 f (fillB x) := hf
      obtain ⟨_, of_, cf, rfl, _, hf2, _, _⟩ := hff.bs
      unfold maxLen at hf2
      obtain ⟨gb, cap2, w5, hrun, hm5, hb5⟩ := HMR.out.step hb4 HBR.out.size _ _ hff (by rw [HLJ.out]; omega) _ _ _ rfl
      rw [HLJ.out] at hrun hm5
      rw [← HTK.out] at hm5
      have HM5 := Lib.hid hm5
      have HB5 := Lib.hid (HBR.out.trans hb5)
      rw [fillB_len] at hrun ⊢
      clear hf hff hb4 hm5 hb5 hxr HMR HBR HTK
      go_wp2_with (at_builtin; refine Lib.wpList_append_run _ rfl _ _ _ _ rfl _ _ rfl rfl _ _ hrun ?_)
      go_roundw
      case rel => exact ⟨j + 1, by go_num, by omega, HB5, HM5⟩
      case measure => simp [intOf]; omega
    · obtain rfl : j = n := by omega
      obtain ⟨LL, hLL⟩ : ∃ LL, LL = (l.take j).map fillB := ⟨_, rfl⟩
      rw [← hLL] at HMR hlj
      have HLQ : Hid (∀ i, i < j → LL.getD i [] = fillB (l.getD i 0)) := Lib.hid (fun i hi => by
        rw [hLL, List.getD_eq_getElem?_getD, List.getElem?_map, List.getElem?_take, if_pos hi, List.getElem?_eq_getElem (by rw [← HN.out]; exact hi), getD_lt (by rw [← HN.out]; exact hi)]
        rfl)
      have HLL : Hid (LL.length = j) := Lib.hid hlj
      have HL256 : Hid (∀ i, i < LL.length → (LL.getD i []).length = 256) := Lib.hid (fun i hi => by rw [HLQ.out i (by rw [← hlj]; exact hi)]; exact fillB_len _)
      have HSR : Hid (D3 ea wr) := Lib.hid (HS.out.below HBR.out)
      clear hLL hlj HB1
      go_wp2_with fail
      refine (HNEW.out _).mono ?_
      clear HNEW
      rintro e w5 ⟨⟨H, g, rfl, hd5, hlow⟩, hb5⟩
      have HD5 : Hid (HDk wr H w5 d0 g) := Lib.hid ⟨hd5, hb5, hlow⟩
      clear hd5 hlow hb5
      go_wp2_with fail
      refine (filled 99 _).mono ?_
      rintro e w6 ⟨⟨f, rfl, hf⟩, hb6⟩
      have HD6 := Lib.hid (HD5.out.below hb6)
      have hff : Bs w6 f (fillB 99) := hf.bs
      obtain ⟨q1, q2⟩ := writeK HD0.out.2.1 HD0.out.2.2.1 0 (by rw [HD0.out.1]; omega) (fillB 99) (fillB_len _)
      have hwr := dskWrite HD6.out.dk (HSR.out.below HD6.out.bel) (HD6.out.noOff HSR.out) ((0 : Nat) : Int) (by omega) (by omega) f _ hff (by rw [Int.toNat_natCast, HD0.out.2.2.2]; omega)
      rw [q1, q2, eC_zero] at hwr
      have HWR := Lib.hid hwr
      clear hf hff hb6 hwr q1 q2 HD5
      go_wp2_with fail
      refine HWR.out.mono ?_
      clear HWR
      rintro e w7 ⟨rfl, g7, hd7, hx7⟩
      have HD7 := Lib.hid (HD6.out.turn hd7 hx7)
      have h1len : (addL d0 0 (fillB 99)).l.length = j := by rw [addL_len]; exact HD0.out.1
      generalize addL d0 0 (fillB 99) = d1 at HD7 h1len
      have hlc : loadC d1 LL = 0 := by
        unfold loadC
        rw [if_pos (by rw [HLL.out, h1len]), if_neg]
        rw [Bool.not_eq_true, List.any_eq_false]
        intro b hb
        obtain ⟨i, hi, rfl⟩ := List.getElem_of_mem hb
        have := HL256.out i hi
        rw [getD_lt hi] at this
        simp [bad256, this]
      have hld := dskLoad HD7.out.dk (HSR.out.below HD7.out.bel) _ LL (fun F' W hx => (HMR.out.below (HD7.out.bel.trans (hx.below HD7.out.low HD7.out.bel.size))).rs)
      rw [hlc, if_pos rfl, eC_zero] at hld
      have hfacts := loadD_facts d1 LL
      generalize loadD d1 LL = D at hld hfacts
      have HFC := Lib.hid hfacts
      have HLD := Lib.hid hld
      clear hd7 hx7 HD6 h1len hlc hld hfacts HD0
      go_wp2_with fail
      refine HLD.out.mono ?_
      clear HLD
      rintro e w8 ⟨rfl, _, g8, hd8, hx8⟩
      have HD8 := Lib.hid (HD7.out.turn hd8 hx8)
      clear hd8 hx8 HD7
      go_wp2_with fail
      refine (dskLoose HD8.out.dk).mono ?_
      rintro e w9 ⟨⟨vp, rfl, hp⟩, hb9⟩
      rw [HFC.out.2.2.2.2.1] at hp
      obtain ⟨op, kp, hvp, hp1, hp2⟩ := hp.form
      rw [List.length_nil] at hvp hp1
      subst hvp
      unfold maxLen at hp2
      have HD9 := Lib.hid (HD8.out.below hb9)
      have HM9 := Lib.hid (HMR.out.below HD9.out.bel)
      clear hp hb9 HD8
      go_wp2_with fail
      refine (HNY.out _).mono ?_
      clear HNY
      rintro e w10 ⟨rfl, rfl⟩
      obtain ⟨gb, cb, gx, cx, hvb, hb0, hb1, hcm, hx0, hx1, hx2, hx3, hxb, hxo⟩ := HMR.out.at_ HL256.out (i := k) (by rw [HLL.out]; omega)
      rw [HLL.out] at hvb
      simp only [Value.slice.injEq] at hvb
      obtain ⟨rfl, _, rfl⟩ := hvb
      unfold maxLen at hx3
      have hfar : ∀ b, g8.F H D.l.length b → b ≠ gx := fun b hf e => by have := HD9.out.low b hf; omega
      have HD9w : Hid (HDk w H w9 D g8) := Lib.hid ⟨HD9.out.dk, HBR.out.trans (HD9.out.bel.mono HBR.out.size), fun b hb => Nat.le_trans HBR.out.size (HD9.out.low b hb)⟩
      have HFAR := Lib.hid hfar
      have HGX : Hid (w.heap.size ≤ gx) := Lib.hid hx0
      have HGL : Hid (gb < wr.heap.size) := Lib.hid hb1
      have HWS : Hid (wr.heap.size ≤ w9.heap.size) := Lib.hid HD9.out.bel.size
      have c1 := (HD9.out.bel.cell (p := ⟨gb, k, none⟩) hb1).trans hcm
      have hxo9 := hxo.below HD9.out.bel
      have hyb := hxo9.1.get 7
      have c2 := hxo9.cell (i := 7) (by rw [HL256.out k (by rw [HLL.out]; omega)]; omega)
      have c3 := hxo9.frozen 7
      obtain ⟨y, hy⟩ : ∃ y, y = (LL.getD k []).getD 7 0 := ⟨_, rfl⟩
      rw [← hy] at hyb c2
      obtain ⟨z, hz⟩ : ∃ z, IntKind.u8.wrap (y + 1) = z := ⟨_, rfl⟩
      have hz2 : (y + 1) % 256 = z := by rw [← hz, IntKind.wrap_u8]
      have hz0 : 0 ≤ z := by omega
      have hz1 : z ≤ 255 := by omega
      have HPK := Lib.hid (HM9.out.poke HL256.out gx 7 z hz0 hz1 (by simp [Value.ownBlock]; exact fun e => hxb e.symm))
      clear hcm hxo hxo9 hy hfar hb0 hb1 hx0 hx1 hxb HM9 HD9
      go_upto_region 15 with fail
      go_cut [] from 15 (fun wx => Hid (HDk w H wx D g8) ∧ Hid (∃ L2, ImgAt w.heap.size wx (.slice (some ⟨gb, 0, none⟩) j cm) L2 ∧ L2.length = j ∧ ∀ i, i < L2.length → (L2.getD i []).length = 256) ∧ Hid (wr.heap.size ≤ wx.heap.size))
      case first =>
        have HDN : Hid (HDk w H (w9.setCell ⟨gx, 7, none⟩ (.int .u8 z)) D g8) := Lib.hid
          ⟨HD9w.out.dk.same (by rw [setCell_sizeD]; exact Nat.le_refl _) fun b hb => setCell_otherD w9 _ _ (HFAR.out b hb), HD9w.out.bel.setCell (p := ⟨gx, 7, none⟩) HGX.out _, HD9w.out.low⟩
        have HPN : Hid (∃ L2, ImgAt w.heap.size (w9.setCell ⟨gx, 7, none⟩ (.int .u8 z)) (.slice (some ⟨gb, 0, none⟩) j cm) L2 ∧ L2.length = j ∧ ∀ i, i < L2.length → (L2.getD i []).length = 256) := Lib.hid (by
          obtain ⟨L2, h1, h2, h3⟩ := HPK.out
          exact ⟨L2, h1, by rw [h2, HLL.out], h3⟩)
        have HSN : Hid (wr.heap.size ≤ (w9.setCell ⟨gx, 7, none⟩ (.int .u8 z)).heap.size) := Lib.hid (by rw [setCell_sizeD]; exact HWS.out)
        go_wp2_with fail
        go_region_law (fail)
        all_goals
          go_wp2_with fail
          go_meet
          refine ⟨Lib.hid ⟨HDN.out.dk.same (Nat.le_refl _) (fun _ _ => rfl), ⟨HDN.out.bel.os, HDN.out.bel.tape, HDN.out.bel.output, HDN.out.bel.size, HDN.out.bel.block⟩, HDN.out.low⟩, Lib.hid ?_, Lib.hid HSN.out⟩
          obtain ⟨L2, h1, h2, h3⟩ := HPN.out
          exact ⟨L2, h1.below ⟨rfl, rfl, rfl, Nat.le_refl _, fun _ _ => rfl⟩, h2, h3⟩
      obtain ⟨HD10, HM10, HS10⟩ := hcut
      clear c1 c2 c3 hz hz2 hz0 hz1 hyb HPK HD9w HFAR HGX HWS
      generalize wc = w10 at HD10 HM10 HS10 ⊢
      go_wp2_with fail
      refine (dskImage HD10.out.dk).mono ?_
      rintro e w11 ⟨⟨va, rfl, hva⟩, hb11⟩
      rw [HFC.out.2.2.2.1] at hva
      obtain ⟨ga, ca, gy, cy, hvaf, ha0, ha1, hac, hy0', hy1', hy2, hy3, hyb', hyo⟩ := hva.at_ HL256.out (i := k) (by rw [HLL.out]; omega)
      rw [HLL.out] at hvaf
      subst hvaf
      obtain ⟨oa', ca', hca, hca1, hca2⟩ := hva.form
      rw [HLL.out] at hca hca1
      simp only [Value.slice.injEq] at hca
      obtain ⟨hoa, _, hca⟩ := hca
      subst hca
      clear hoa
      unfold maxLen at hca2 hy3
      have HD11 := Lib.hid (HD10.out.below hb11)
      have HFAR : Hid (∀ b, g8.F H D.l.length b → b ≠ gy) := Lib.hid (fun b hf e => by have := HD10.out.dk.low hf; omega)
      have HGY : Hid (w.heap.size ≤ gy) := Lib.hid (Nat.le_trans HD10.out.bel.size hy0')
      have HGN : Hid (gb ≠ gy) := Lib.hid (fun e => by have h1 := HGL.out; have h2 := HS10.out; omega)
      have HM11 : Hid (∃ L2, ImgAt w.heap.size w11 (.slice (some ⟨gb, 0, none⟩) j cm) L2 ∧ L2.length = j ∧ ∀ i, i < L2.length → (L2.getD i []).length = 256) := Lib.hid (by
        obtain ⟨L2, h1, h2, h3⟩ := HM10.out
        exact ⟨L2, h1.below hb11, h2, h3⟩)
      have hyb2 := hyo.1.get 9
      have c2 := hyo.cell (i := 9) (by rw [HL256.out k (by rw [HLL.out]; omega)]; omega)
      have c3 := hyo.frozen 9
      obtain ⟨y2, hy2e⟩ : ∃ y2, y2 = (LL.getD k []).getD 9 0 := ⟨_, rfl⟩
      rw [← hy2e] at hyb2 c2
      obtain ⟨z, hz⟩ : ∃ z, IntKind.u8.wrap (y2 + 1) = z := ⟨_, rfl⟩
      have hz2 : (y2 + 1) % 256 = z := by rw [← hz, IntKind.wrap_u8]
      have hz0 : 0 ≤ z := by omega
      have hz1 : z ≤ 255 := by omega
      clear hva hb11 hyo hy2e ha0 ha1 hy0' hy1' hyb' HM10 HD10
      go_upto_region 17 with fail
      go_cut [] from 15 (fun wx => Hid (HDk w H wx D g8) ∧ Hid (∃ L2, ImgAt w.heap.size wx (.slice (some ⟨gb, 0, none⟩) j cm) L2 ∧ L2.length = j ∧ ∀ i, i < L2.length → (L2.getD i []).length = 256))
      case first =>
        have HDN : Hid (HDk w H (w11.setCell ⟨gy, 9, none⟩ (.int .u8 z)) D g8) := Lib.hid
          ⟨HD11.out.dk.same (by rw [setCell_sizeD]; exact Nat.le_refl _) fun b hb => setCell_otherD w11 _ _ (HFAR.out b hb), HD11.out.bel.setCell (p := ⟨gy, 9, none⟩) HGY.out _, HD11.out.low⟩
        have HPN : Hid (∃ L2, ImgAt w.heap.size (w11.setCell ⟨gy, 9, none⟩ (.int .u8 z)) (.slice (some ⟨gb, 0, none⟩) j cm) L2 ∧ L2.length = j ∧ ∀ i, i < L2.length → (L2.getD i []).length = 256) := Lib.hid (by
          obtain ⟨L2, h1, h2, h3⟩ := HM11.out
          obtain ⟨L3, p1, p2, p3⟩ := h1.poke h3 gy 9 z hz0 hz1 (by simp [Value.ownBlock]; exact HGN.out)
          exact ⟨L3, p1, by rw [p2, h2], p3⟩)
        go_wp2_with fail
        go_region_law (fail)
        all_goals
          go_wp2_with fail
          go_meet
          refine ⟨Lib.hid ⟨HDN.out.dk.same (Nat.le_refl _) (fun _ _ => rfl), ⟨HDN.out.bel.os, HDN.out.bel.tape, HDN.out.bel.output, HDN.out.bel.size, HDN.out.bel.block⟩, HDN.out.low⟩, Lib.hid ?_⟩
          obtain ⟨L2, h1, h2, h3⟩ := HPN.out
          exact ⟨L2, h1.below ⟨rfl, rfl, rfl, Nat.le_refl _, fun _ _ => rfl⟩, h2, h3⟩
      obtain ⟨HD12, HM12⟩ := hcut
      clear hac c2 c3 hz hz2 hz0 hz1 hyb2 HM11 HD11 HFAR HGY HGN HGL HS10
      generalize wc = w12 at HD12 HM12 ⊢
      go_wp2_with fail
      refine (dskImage HD12.out.dk).mono ?_
      rintro e w13 ⟨⟨vb, rfl, hvb⟩, hb13⟩
      rw [HFC.out.2.2.2.1] at hvb
      obtain ⟨ob', cb', hvbf, hvb1, hvb2⟩ := hvb.form
      rw [HLL.out] at hvbf hvb1
      subst hvbf
      unfold maxLen at hvb2
      have HD13 := Lib.hid (HD12.out.below hb13)
      have HM13 : Hid (∃ L2, ImgAt w.heap.size w13 (.slice (some ⟨gb, 0, none⟩) j cm) L2 ∧ L2.length = j ∧ ∀ i, i < L2.length → (L2.getD i []).length = 256) := Lib.hid (by
        obtain ⟨L2, h1, h2, h3⟩ := HM12.out
        exact ⟨L2, h1.below hb13, h2, h3⟩)
      have HVB := Lib.hid hvb
      clear hvb hb13 HM12 HD12
      go_wp2_with fail
      go_loopw [12] (fun i wx => ∃ i' : Nat, i = .int .i64 i' ∧ (i' : Int) ≤ j ∧ Hid (Below w13.heap.size w13 wx)) (fun i _ => j - (intOf i).toNat)
      case atStart => exact ⟨0, rfl, by omega, Lib.hid (Below.refl _ _)⟩
      case round =>
        obtain ⟨i, rfl, hi, HBX⟩ := hrel
        by_cases hij : (i : Int) < j
        · have hijn : i < j := by omega
          obtain ⟨q1, q2⟩ := HFC.out.2.2.2.2.2 i (by rw [HLL.out]; exact hijn)
          have HDX := Lib.hid (HD13.out.below HBX.out)
          have hrd := dskRead HDX.out.dk (HS.out.below HDX.out.bel) (i : Int) (by omega) (by omega)
          rw [q1, q2, eC_zero] at hrd
          obtain ⟨a, x, ha, hxc, hxe, hxw⟩ := HCELL.out i (by rw [← HN.out]; exact hijn)
          subst ha
          have hlq := HLQ.out i hijn
          rw [hxe.out] at hlq
          rw [hlq] at hrd
          have HRD := Lib.hid hrd
          have HXC := Lib.hid hxc
          have HLQI := Lib.hid hlq
          clear hrd q1 q2 hxc hxe hxw hlq
          go_wp2_with fail
          refine HRD.out.mono ?_
          clear HRD
          rintro e w14 ⟨⟨xc, rfl, hxc⟩, hb14⟩
          have HC14 := Lib.hid hxc.bs
          have HB14 := Lib.hid (HBX.out.trans (hb14.mono HBX.out.size))
          have c1 : w14.cell? (a.add i) = some (.int .i64 x) := ((HDX.out.below hb14).bel.cell (Below.lt HXC.out)).trans HXC.out
          clear hxc hb14 HDX
          go_wp2_with fail
          refine (filled x _).mono ?_
          rintro e w15 ⟨⟨f, rfl, hf⟩, hb15⟩
          have HC15 := Lib.hid (HC14.out.below hb15)
          have HB15 := Lib.hid (HB14.out.trans (hb15.mono HB14.out.size))
          have hff : Bs w15 f (fillB x) := hf.bs
          have hsame := same_calls _ _ _ _ w15 HC15.out hff
          rw [show sameB (fillB x) (fillB x) = true by simp [sameB]] at hsame
          have HSAME := Lib.hid hsame
          clear hf hb15 hff hsame c1 HC14 HB14
          go_wp2_with fail
          refine HSAME.out.mono ?_
          clear HSAME
          rintro e w16 ⟨rfl, hq16⟩
          have HC16 := Lib.hid (HC15.out.below (hq16.below _))
          have HB16 := Lib.hid (HB15.out.trans (hq16.below _))
          have hvb16 := HVB.out.below HB16.out
          obtain ⟨gd, cd, gz, cz, hvd, _, _, hdc, _, _, hz2, hz3, _, hzo⟩ := hvb16.at_ HL256.out (i := i) (by rw [HLL.out]; exact hijn)
          rw [HLL.out] at hvd
          simp only [Value.slice.injEq] at hvd
          obtain ⟨hod, _, hcd⟩ := hvd
          subst hod
          subst hcd
          unfold maxLen at hz3
          rw [HLQI.out] at hzo
          have hsame := same_calls _ _ _ _ w16 hzo.bs HC16.out
          rw [show sameB (fillB x) (fillB x) = true by simp [sameB]] at hsame
          have HSAME := Lib.hid hsame
          clear hq16 hzo hsame hvb16 HC15 HB15
          go_wp2_with fail
          refine HSAME.out.mono ?_
          clear HSAME
          rintro e w17 ⟨rfl, hq17⟩
          have HB17 := Lib.hid (HB16.out.trans (hq17.below _))
          clear hq17 HB16 HC16 hdc
          go_wp2_with fail
          go_roundw
          case rel => exact ⟨i + 1, by go_num, by omega, HB17⟩
          case measure => simp [intOf]; omega
        · have HD18 := Lib.hid (HD13.out.below HBX.out)
          have HM18 : Hid (∃ L2, ImgAt w.heap.size wr (.slice (some ⟨gb, 0, none⟩) j cm) L2 ∧ L2.length = j ∧ ∀ i, i < L2.length → (L2.getD i []).length = 256) := Lib.hid (by
            obtain ⟨L2, h1, h2, h3⟩ := HM13.out
            exact ⟨L2, h1.below HBX.out, h2, h3⟩)
          have hdr : Below wr.heap.size wr wr.drew := (Below.refl _ _).drew
          have HD19 := HD18.out.below hdr
          have HM19 : ∃ L2, ImgAt w.heap.size wr.drew (.slice (some ⟨gb, 0, none⟩) j cm) L2 ∧ L2.length = j ∧ ∀ i, i < L2.length → (L2.getD i []).length = 256 := by
            obtain ⟨L2, h1, h2, h3⟩ := HM18.out
            exact ⟨L2, h1.below hdr, h2, h3⟩
          have hkj : k < j := by omega
          have HLT := Lib.hid (fun a1 a2 c2 h1 h2 => load_tells HD19 HSEN.out HM19 (by rw [HFC.out.2.2.1, HLL.out]) HFC.out.1 hl6 k hkj a1 a2 c2 h1 h2)
          have HDR := Lib.hid HD18.out.bel
          clear HM13 HD13 HVB HFC HLQ HL256 HBX hdr HD19 HM19 HM18 HD18
          have hks : IntKind.i64.wrap ((k : Int) + 1) = (k : Int) + 1 := by rw [IntKind.wrap_i64]; omega
          have hwk : wrap64 ((k : Int) + 1) = (k : Int) + 1 := by unfold wrap64; omega
          have sl1 := slice_hm gb j cm k (Nat.le_of_lt (Nat.lt_of_lt_of_le hkj hm1))
          have sl2 := slice_l gb j cm k hkj
          obtain ⟨hl0, hi0⟩ := HLT.out ⟨gb, 0, none⟩ (cutAddr gb cm k) (cm - (k + 1)) (fun i hi => by unfold Addr.add; split <;> simp_all) (fun i hi => cutAddr_at gb cm k j hm1 i hi)
          generalize cutAddr gb cm k = a2 at sl2 hi0
          generalize cm - (k + 1) = c2 at sl2 hi0
          have HL0 := Lib.hid hl0
          have HI0 := Lib.hid hi0
          clear hl0 hi0 HLT HV HS HSEN HCELL HI2 HI3 HN HLL HSR HMR HBR hc1 hc2 hc3 hnI0 hnI6
          go_wp2_with fail
          go_region_held3 (fun _ => True) (exact True.intro)
            ((first
              | (refine step_append_run_g _ ?_ (.tmp 141) (.tmp 145) _ _ rfl _ _ rfl rfl _ _ r6 ?_; (next => rfl))
              | (refine step_append_run_g _ ?_ (.tmp 140) (.tmp 146) _ _ rfl _ _ rfl rfl _ _ r7 ?_; (next => rfl))
              | (go_at_call 30; with_reducible refine HL0.out.mono ?_; rintro e w20 ⟨rfl, rfl⟩)
              | (go_at_call 30; with_reducible refine hld.mono ?_; rintro e w21 ⟨rfl, rfl⟩)
              | (go_at_call 26; with_reducible refine HI0.out.mono ?_; rintro e w20 ⟨o6, c6, W2, v7, W3, rfl, r6, r7, hld, his⟩)
              | (go_at_call 26; with_reducible refine his.mono ?_; rintro e w22 ⟨rfl, hb22, hof⟩)
              | (go_at_call 35; with_reducible refine hof.mono ?_; rintro e w23 ⟨rfl, rfl⟩)))
          all_goals
            go_wp2_with fail
            go_ret
            exact ⟨rfl, hb22⟩

theorem diskLoads_walk {ea : Nat → Addr} (v : Value) (l : List Int) (turn : Int) (t1 : -9223372036854775808 ≤ turn) (t2 : turn ≤ 9223372036854775807) (w : World) (hs : Sen ea w) (hv : Ns .i64 w v l) :
    Calls Tryd.prog 4 #[v, .int .i64 turn] w fun e w' => e = .returned (.bool true) ∧ Below w.heap.size w w' := by
  by_cases h : l.length = 0 ∨ 6 < l.length
  · exact diskLoads_idle v l turn w hs.d3 hv h
  · exact diskLoads_walk0 v l turn t1 t2 w hs hv (by omega) (by omega)
end Go.Proofs.YtccfiohcblecoaaDoor
