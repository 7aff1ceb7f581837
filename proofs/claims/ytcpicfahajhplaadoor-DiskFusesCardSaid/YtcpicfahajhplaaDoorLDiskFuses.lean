/- The walk of the law DiskFuses. -/
import Derived.Test.YtcpicfahajhplaaDoorDskX
import Derived.Test.YtcpicfahajhplaaDoorFilled
import Derived.Test.YtcpicfahajhplaaDoorNum
import Derived.Deep.CutRange
namespace Go.Proofs.YtcpicfahajhplaaDoor
open Go.RowKit
set_option linter.unusedVariables false

theorem Ob.cell' {e : TypeId} {base : Nat} {w : World} {v : Value} {l : List Int} {g c : Nat} (h : Ob e base w v l) (hl : l.length = 256) (hv : v = .slice (some ⟨g, 0, none⟩) l.length c) : w.cell? ⟨g, 0, none⟩ = some (.int .u8 (l.getD 0 0)) := by
  subst hv
  exact h.cell (i := 0) (by rw [hl]; omega)
/-- numbers in a row of their own -/
def OI (base : Nat) (w : World) (v : Value) (L : List Int) : Prop := w.ownsRow base 3 1 v L.length (L.map (Value.int .i64))
theorem OI.ns {base : Nat} {w : World} {v : Value} {L : List Int} (h : OI base w v L) (hw : ∀ x ∈ L, (Lit.int .i64 x).wf = true) : Ns .i64 w v L := by
  obtain ⟨h1, h2⟩ := h
  rcases h2 with ⟨rfl, h0⟩ | ⟨g, cap, cur, rfl, _, hg, hc, hm, hcs, ht⟩
  · rw [List.length_eq_zero_iff.1 h0]; exact Ns.nil _ _
  · refine ⟨hw, some ⟨g, 0, none⟩, cap, rfl, hc, hm, (fun e => by cases e), fun _ => ⟨_, rfl, fun i hi => ?_⟩⟩
    have hadd : (⟨g, 0, none⟩ : Addr).add i = ⟨g, i, none⟩ := by unfold Addr.add; split <;> simp_all
    rw [hadd, cell_of_row w g _ _ _ (0, 0) hg]
    have e : cur[i]? = (cur.toList.take (L.length * 1))[i]? := by rw [List.getElem?_take, if_pos (by omega)]; simp
    rw [e, ht, List.getElem?_map, List.getElem?_eq_getElem hi, getD_lt hi]
    rfl
theorem OI.form {base : Nat} {w : World} {v : Value} {L : List Int} (h : OI base w v L) : ∃ o c, v = .slice o L.length c ∧ L.length ≤ c ∧ c ≤ maxLen := by
  rcases h.2 with ⟨hv, hn⟩ | ⟨gb, cap, cur, hv, _, _, hc, hm, _⟩
  · exact ⟨none, 0, by rw [hv, hn], by omega, by simp [maxLen]⟩
  · exact ⟨some ⟨gb, 0, none⟩, cap, hv, hc, hm⟩
theorem intInfo : (Tryd.prog.info? 3).map (fun i => (i.zero, i.size, i.bytes)) = some (some (.int .i64 0), 1, 8) := by kernel_rfl
theorem OI.step {base : Nat} {w : World} {v : Value} {L : List Int} (h : OI base w v L) (hbase : base ≤ w.heap.size) (x : Int) (hL : L.length ≤ 1000000) :
    ∃ gb cap w2, (Builtin.append_ #[36, 36] 36 #[v, .slice (some ⟨w.heap.size, 0, none⟩) 1 1]).run Tryd.prog (w.alloc (.cells #[.int .i64 x] 3)) = .ok (.slice (some ⟨gb, 0, none⟩) (L.length + 1) cap) w2 ∧
      OI base w2 (.slice (some ⟨gb, 0, none⟩) (L.length + 1) cap) (L ++ [x]) ∧ Below base w w2 := by
  obtain ⟨i0, hi0, hz0, hz1, hz2⟩ := info_parts intInfo
  have hb1 : Below w.heap.size w (w.alloc (.cells #[.int .i64 x] 3)) := (Below.refl _ _).alloc (Nat.le_refl _) _
  have hsz1 : (w.alloc (.cells #[.int .i64 x] 3)).heap.size = w.heap.size + 1 := allocSize _ _
  obtain ⟨gb, cap, w2, hrun, hown2, hgrow, hat, hlt⟩ := run_append_lies (P := Tryd.prog) (w.alloc (.cells #[.int .i64 x] 3)) 36 36 base 3 i0 _ 1 8 Tryd.underlying36 hi0 hz0 hz1 hz2 rfl (by omega)
    v L.length (L.map (Value.int .i64)) (ownsRow_same h fun b e => hb1.block b (h.lt b e).2) ⟨w.heap.size, 0, none⟩ 1 1 [.int .i64 x] rfl (World.news_of_block (cs := #[.int .i64 x]) (t := 3) (fr := (0, 0)) (heap_alloc_new w _)) (by simp [Value.oneCell']) (by omega) (by simp [maxLen]; omega) (by omega) (by omega) _ rfl
  refine ⟨gb, cap, w2, hrun, ?_, (hb1.mono hbase).grown hgrow (by omega) fun k e => (h.lt k e).1⟩
  unfold OI
  rw [List.map_append, List.length_append]
  exact hown2

set_option maxRecDepth 20000 in
set_option maxHeartbeats 4000000 in
theorem diskFuses_walk {ea : Nat → Addr} (n0 m0 : Int) (last : Bool) (n1 : -9223372036854775808 ≤ n0) (n2 : n0 ≤ 9223372036854775807) (m1 : -9223372036854775808 ≤ m0) (m2 : m0 ≤ 9223372036854775807) (w : World) (hs : Sen ea w) :
    Calls Tryd.prog 7 #[.int .i64 n0, .int .i64 m0, .bool last] w fun e w' => e = .returned (.bool true) ∧ Below w.heap.size w w' := by
  have HF := Lib.hid (dskFirst w hs.d3)
  have HS := Lib.hid hs.d3
  have hi1 : ∀ W, Below w.heap.size w W → Calls Tryd.prog 20 #[.iface 123 (.pointer (some (ea 0))), .int .i64 101] W fun e w' => e = .returned (.bool true) ∧ Below W.heap.size W w' :=
    fun W hb => isC W (hs.below hb) 101 (by unfold OkC; omega) 101
  have HI1 := Lib.hid hi1
  have hnn := fun W => number n0 20 W (by omega) (by omega) n1 n2
  have hnm := fun W => number m0 5 W (by omega) (by omega) m1 m2
  obtain ⟨n, hn⟩ := Int.eq_ofNat_of_zero_le (Int.emod_nonneg n0 (show (20 : Int) ≠ 0 by omega))
  have hn1 := Int.emod_lt_of_pos n0 (show (0 : Int) < 20 by omega)
  obtain ⟨m, hm⟩ := Int.eq_ofNat_of_zero_le (Int.emod_nonneg m0 (show (5 : Int) ≠ 0 by omega))
  have hm1 := Int.emod_lt_of_pos m0 (show (0 : Int) < 5 by omega)
  rw [hn] at hnn hn1
  rw [hm] at hnm hm1
  have HNN := Lib.hid hnn
  have HNM := Lib.hid hnm
  have HNEW := Lib.hid (fun W => dskNew 30 W)
  obtain ⟨b7, hb7⟩ : ∃ b, b = List.replicate 256 ((7 : Int) % 256) := ⟨_, rfl⟩
  obtain ⟨b8, hb8⟩ : ∃ b, b = List.replicate 256 ((8 : Int) % 256) := ⟨_, rfl⟩
  have h7 := fun W => filled 7 W
  have h8 := fun W => filled 8 W
  rw [← hb7] at h7
  rw [← hb8] at h8
  have HF7 := Lib.hid h7
  have HF8 := Lib.hid h8
  have HL7 : Hid (b7.length = 256) := Lib.hid (by rw [hb7]; exact List.length_replicate)
  have HL8 : Hid (b8.length = 256) := Lib.hid (by rw [hb8]; exact List.length_replicate)
  have HG8 : Hid (b8.getD 0 0 = 8) := Lib.hid (by rw [hb8]; rfl)
  have HWS := Lib.hid (wrTo_start n b7)
  clear hi1 hs hnn hnm hn hm hb7 hb8 h7 h8 n1 n2 m1 m2
  go_enter Tryd.func7, Tryd.ntmps7
  go_wp2_with fail
  refine HF.out.mono ?_
  clear HF
  rintro e w1 ⟨rfl, hb1⟩
  have HB1 := Lib.hid hb1
  clear hb1
  go_wp2_with fail
  refine (HNN.out _).mono ?_
  clear HNN
  rintro e w2 ⟨rfl, rfl⟩
  go_wp2_with fail
  refine (HNM.out _).mono ?_
  clear HNM
  rintro e w2 ⟨rfl, rfl⟩
  go_wp2_with fail
  refine (HNEW.out _).mono ?_
  clear HNEW
  rintro e w2 ⟨⟨H, g, rfl, hd2, hlow⟩, hb2⟩
  have HD2 : Hid (HDk w H w2 (newD 30) g) := Lib.hid ⟨hd2, HB1.out.trans (hb2.mono HB1.out.size), fun b hb => Nat.le_trans HB1.out.size (hlow b hb)⟩
  clear hd2 hlow hb2 HB1
  go_wp2_with fail
  refine (dskFuse HD2.out.dk (n : Int) (by omega) (by omega)).mono ?_
  rintro e w3 ⟨rfl, hd3, hx3⟩
  have hd3' := HD2.out.turn hd3 hx3
  have hws := HWS.out
  have e0 : fuseD (newD 30) (n : Int) = wrTo n b7 0 := rfl
  rw [e0] at hd3' hws
  have HD3 := Lib.hid hd3'
  have HW3 := Lib.hid hws
  clear hd3 hx3 hd3' HD2 HWS hws e0
  go_wp2_with fail
  go_loopw [9] (fun i wr => ∃ k : Nat, i = .int .i64 k ∧ (k : Int) ≤ n ∧ ∃ gr, Hid (HDk w H wr (wrTo n b7 k) gr) ∧ Hid (WrTo n b7 k (wrTo n b7 k))) (fun i _ => n - (intOf i).toNat)
  case atStart => exact ⟨0, rfl, by omega, g, HD3, HW3⟩
  case round =>
    obtain ⟨k, rfl, hk, gr, HDR, HWR⟩ := hrel
    by_cases hk2 : (k : Int) < n
    · go_wp2_with fail
      refine (HF7.out _).mono ?_
      rintro e w4 ⟨⟨f, rfl, hf⟩, hb4⟩
      have HD4 := Lib.hid (HDR.out.below hb4)
      obtain ⟨p1, p2⟩ := HWR.out.step (by omega) (by omega) HL7.out
      have hwr := dskWrite HD4.out.dk (HS.out.below HD4.out.bel) (HD4.out.noOff HS.out) (k : Int) (by omega) (by omega) f b7 hf.bs (by rw [Int.toNat_natCast, HWR.out.sec k, if_neg (by omega)]; show (0 : Nat) < 1000000; omega)
      rw [p1, eC_zero] at hwr
      have HWW := Lib.hid hwr
      have HP2 : Hid (WrTo n b7 (k + 1) (wrTo n b7 (k + 1))) := Lib.hid p2
      clear hf hb4 hwr p1 p2 HDR HWR
      go_wp2_with fail
      refine HWW.out.mono ?_
      clear HWW
      rintro e w5 ⟨rfl, g5, hd5, hx5⟩
      have HD5 : Hid (HDk w H w5 (wrTo n b7 (k + 1)) g5) := Lib.hid (HD4.out.turn hd5 hx5)
      clear hd5 hx5 HD4
      go_wp2_with fail
      go_roundw
      case rel => exact ⟨k + 1, by go_num, by omega, g5, HD5, HP2⟩
      case measure => simp [intOf]; omega
    · obtain rfl : k = n := by omega
      go_upto_if 43 with fail
      go_cut [10] from 20 (fun s10 wx => s10 = .iface 123 (.pointer (some (ea 0))) ∧ ∃ E g' B, Hid (HDk w H wx E g') ∧ Hid (Gone (cond last k (k + 1)) E) ∧ Hid ((if k < cond last k (k + 1) then (E.sec k).loose.getD 0 [] else (E.sec k).fast) = B) ∧ Hid (B.length = 256 ∧ B.getD 0 0 = cond last 0 8))
      case first =>
        cases last with
        | true =>
          obtain ⟨p1, p2, p3⟩ := HWR.out.gone (by omega)
          have hsy := dskSync HDR.out.dk (HS.out.below HDR.out.bel) (HDR.out.noOff HS.out)
          rw [p1, show eC ea 101 = .iface 123 (.pointer (some (ea 0))) from rfl] at hsy
          have HSY := Lib.hid hsy
          have HP2 := Lib.hid p2
          have HP3 := Lib.hid p3
          clear hsy p1 p2 p3
          go_wp2_with fail
          refine HSY.out.mono ?_
          rintro e w5 ⟨rfl, g5, hd5, hx5⟩
          have HD5 := Lib.hid (HDR.out.turn hd5 hx5)
          clear hd5 hx5
          go_wp2_with fail
          go_meet
          exact ⟨rfl, _, g5, _, HD5, HP2, Lib.hid rfl, Lib.hid (by
            dsimp only [cond]
            rw [if_neg (Nat.lt_irrefl k), HP3.out]
            exact ⟨List.length_replicate, getD_rep 256 0 (by omega)⟩)⟩
        | false =>
          obtain ⟨p1, p2, p3⟩ := HWR.out.goneW (by omega) HL8.out
          have HP1 := Lib.hid p1
          have HP2 := Lib.hid p2
          have HP3 := Lib.hid p3
          clear p1 p2 p3
          go_wp2_with fail
          refine (HF8.out _).mono ?_
          rintro e w4 ⟨⟨f, rfl, hf⟩, hb4⟩
          have HD4 := Lib.hid (HDR.out.below hb4)
          have hwr := dskWrite HD4.out.dk (HS.out.below HD4.out.bel) (HD4.out.noOff HS.out) (k : Int) (by omega) (by omega) f b8 hf.bs (by rw [Int.toNat_natCast, HWR.out.sec k, if_neg (by omega)]; show (0 : Nat) < 1000000; omega)
          rw [HP1.out, show eC ea 101 = .iface 123 (.pointer (some (ea 0))) from rfl] at hwr
          have HWW := Lib.hid hwr
          clear hf hb4 hwr
          go_wp2_with fail
          refine HWW.out.mono ?_
          rintro e w5 ⟨rfl, g5, hd5, hx5⟩
          have HD5 := Lib.hid (HD4.out.turn hd5 hx5)
          clear hd5 hx5
          go_wp2_with fail
          go_meet
          exact ⟨rfl, _, g5, _, HD5, HP2, Lib.hid rfl, Lib.hid (by
            dsimp only [cond]
            rw [if_pos (Nat.lt_succ_self k), HP3.out]
            exact ⟨HL8.out, HG8.out⟩)⟩
      obtain ⟨rfl, E, g1, B, HDE, HGO, HBB, HBL⟩ := hcut
      clear HDR HWR HF7 HF8 HL7 HL8 HG8
      generalize wc = w5 at HDE ⊢
      have HOF : Hid (E.off = true) := Lib.hid HGO.out.off
      have HRC : Hid (readC E 0 = 101) := Lib.hid (by simp [readC, HGO.out.off])
      have HWC : Hid (∀ b, writeC E 0 b = 101 ∧ writeD E 0 b = E) := Lib.hid (fun b => ⟨by simp [writeC, HGO.out.off], by simp [writeD, HGO.out.off]⟩)
      have HSC : Hid (syncC E = 101 ∧ syncD E = E) := Lib.hid ⟨by simp [syncC, HGO.out.off], by simp [syncD, HGO.out.off]⟩
      have HMY : Hid ((E.sec (0 : Int).toNat).loose.length < 1000000) := Lib.hid (by rw [HGO.out.many]; split <;> omega)
      go_wp2_with fail
      go_loopw [11] (fun i wr => ∃ j : Nat, i = .int .i64 j ∧ (j : Int) ≤ m ∧ ∃ gr, Hid (HDk w H wr E gr)) (fun i _ => m - (intOf i).toNat)
      case atStart => exact ⟨0, rfl, by omega, g1, HDE⟩
      case round =>
        obtain ⟨j, rfl, hj, gr, HDR⟩ := hrel
        by_cases hj2 : (j : Int) < m
        · go_wp2_with fail
          refine (dskRead HDR.out.dk (HS.out.below HDR.out.bel) 0 (by omega) (by omega)).mono ?_
          rintro e w6 ⟨⟨x, rfl, _⟩, hb6⟩
          rw [HRC.out, show eC ea 101 = .iface 123 (.pointer (some (ea 0))) from rfl]
          have HD6 := Lib.hid (HDR.out.below hb6)
          clear hb6 HDR
          go_wp2_with fail
          refine (filled 9 _).mono ?_
          rintro e w7 ⟨⟨f, rfl, hf⟩, hb7⟩
          have HD7 := Lib.hid (HD6.out.below hb7)
          have hfb := hf.bs
          generalize List.replicate 256 ((9 : Int) % 256) = fb at hfb
          have hwr := dskWrite HD7.out.dk (HS.out.below HD7.out.bel) (HD7.out.noOff HS.out) 0 (by omega) (by omega) f fb hfb HMY.out
          rw [(HWC.out fb).1, (HWC.out fb).2, show eC ea 101 = .iface 123 (.pointer (some (ea 0))) from rfl] at hwr
          have HWW := Lib.hid hwr
          clear hb7 hf hfb hwr HD6
          go_wp2_with fail
          refine HWW.out.mono ?_
          clear HWW
          rintro e w8 ⟨rfl, g8, hd8, hx8⟩
          have HD8 := Lib.hid (HD7.out.turn hd8 hx8)
          have hsy := dskSync HD8.out.dk (HS.out.below HD8.out.bel) (HD8.out.noOff HS.out)
          rw [HSC.out.1, HSC.out.2, show eC ea 101 = .iface 123 (.pointer (some (ea 0))) from rfl] at hsy
          have HSY := Lib.hid hsy
          clear hd8 hx8 HD7 hsy
          go_wp2_with fail
          refine HSY.out.mono ?_
          clear HSY
          rintro e w9 ⟨rfl, g9, hd9, hx9⟩
          have HD9 := Lib.hid (HD8.out.turn hd9 hx9)
          clear hd9 hx9 HD8
          go_wp2_with fail
          refine (dskOff HD9.out.dk).mono ?_
          rintro e w10 ⟨rfl, rfl⟩
          rw [HOF.out]
          go_wp2_with fail
          go_roundw
          case rel => exact ⟨j + 1, by go_num, by omega, g9, HD9⟩
          case measure => simp [intOf]; omega
        · have hal : Below wr.heap.size wr (wr.alloc (.cells #[] 3)) := (Below.refl _ _).alloc (Nat.le_refl _) _
          have HO0 : Hid (OI wr.heap.size (wr.alloc (.cells #[] 3)) (.slice (some ⟨wr.heap.size, 0, none⟩) 0 0) (List.replicate 0 1)) := Lib.hid ⟨by simp, .inr ⟨wr.heap.size, 0, #[], rfl, Nat.le_refl _, heap_alloc_new wr _, Nat.le_refl _, by simp [maxLen], by simp, by simp⟩⟩
          have HB0 := Lib.hid hal
          clear hal HRC HWC HSC HMY HDE HOF
          go_wp2_with fail
          generalize (wr.alloc (.cells #[] 3)) = w6 at HO0 HB0 ⊢
          go_loopw [14, 15] (fun v i wx => ∃ j : Nat, i = .int .i64 j ∧ (j : Int) ≤ 30 ∧ Hid (OI wr.heap.size wx v (List.replicate j 1)) ∧ Hid (Below wr.heap.size wr wx)) (fun _ i _ => 30 - (intOf i).toNat)
          case atStart => exact ⟨0, rfl, by omega, HO0, HB0⟩
          case round =>
            obtain ⟨j, rfl, hj, HOR, HBR⟩ := hrel
            obtain ⟨o14, c14, hv14, hl14, hm14⟩ := HOR.out.form
            rw [List.length_replicate] at hv14 hl14
            unfold maxLen at hm14
            subst hv14
            by_cases hj3 : (j : Int) < 30
            · obtain ⟨gb, cap, w7, hrun, ho7, hb7⟩ := HOR.out.step HBR.out.size 1 (by rw [List.length_replicate]; omega)
              rw [List.length_replicate] at hrun ho7
              rw [← List.replicate_succ'] at ho7
              have HO7 := Lib.hid ho7
              have HB7 := Lib.hid (HBR.out.trans hb7)
              clear ho7 hb7 HOR HBR HO0 HB0
              go_wp2_with (at_builtin; refine Lib.wpList_append_run _ rfl _ _ _ _ rfl _ _ rfl rfl _ _ hrun ?_)
              go_roundw
              case rel => exact ⟨j + 1, by go_num, by omega, HO7, HB7⟩
              case measure => simp [intOf]; omega
            · obtain rfl : j = 30 := by omega
              have HNS := Lib.hid (HOR.out.ns fun x hx => by rw [(List.mem_replicate.1 hx).2]; decide)
              have HNF : Hid (∀ b, (Value.slice o14 30 c14).ownBlock = some b → ¬ gr.F H E.l.length b) := Lib.hid (fun b e hf => by have h1 := (HOR.out.lt b e).1; have h2 := HDR.out.dk.low hf; omega)
              have HD7 := Lib.hid (HDR.out.below HBR.out)
              obtain ⟨q1, q2, q3, q4⟩ := HGO.out.after (by cases last <;> simp [cond] <;> omega) k (by omega)
              rw [HBB.out] at q3
              have HQ1 := Lib.hid q1
              have HQ2 := Lib.hid q2
              have HQ3 := Lib.hid q3
              have HQ4 := Lib.hid q4
              clear q1 q2 q3 q4 HOR HBR HO0 HB0 HDR HBB
              generalize List.replicate 30 (1 : Int) = ones at HNS HQ2 HQ3 HQ4
              have hol : ones.length = 30 := by obtain ⟨_, o2, c2, e2, _⟩ := HNS.out; simp only [Value.slice.injEq] at e2; exact e2.2.1.symm
              have HOL := Lib.hid hol
              clear hol
              go_wp2_with fail
              refine (dskLoose HD7.out.dk).mono ?_
              rintro e w8 ⟨⟨vp, rfl, hp⟩, hb8⟩
              obtain ⟨op, kp, hvp, hp1, hp2⟩ := hp.form
              rw [HQ1.out] at hvp hp1
              subst hvp
              unfold maxLen at hp2
              have HD8 := Lib.hid (HD7.out.below hb8)
              have HNS8 := Lib.hid (HNS.out.below hb8)
              obtain ⟨mm, hmm⟩ : ∃ mm, mm = cond last k (k + 1) := ⟨_, rfl⟩
              rw [← hmm] at hp1 ⊢
              have HMM := Lib.hid hmm
              clear hp hb8 HD7 HNS hmm
              go_wp2_with fail
              refine (dskCrash HD8.out.dk _ ones HNS8.out HNF.out (by rw [HOL.out]; omega)).mono ?_
              rintro e w9 ⟨rfl, g9, hd9, hx9⟩
              have HD9 := Lib.hid (HD8.out.turn hd9 hx9)
              clear hd9 hx9 HD8 HNS8 HNF
              generalize crashD E ones = C at HD9 HQ2 HQ3 HQ4
              go_wp2_with fail
              refine (dskRead HD9.out.dk (HS.out.below HD9.out.bel) (k : Int) (by omega) (by omega)).mono ?_
              rintro e w10 ⟨⟨x, rfl, hx⟩, hb10⟩
              rw [HQ2.out, eC_zero]
              rw [HQ3.out] at hx
              obtain ⟨gx, cx, hxv, _, _, hcx, hcm⟩ := hx.row (ne_nil_of_lt (k := 0) (by rw [HBL.out.1]; omega))
              have c0 := hx.cell' HBL.out.1 hxv
              rw [HBL.out.1] at hxv hcx
              subst hxv
              rw [HBL.out.2] at c0
              unfold maxLen at hcm
              have HD10 := Lib.hid (HD9.out.below hb10)
              have HC0 := Lib.hid c0
              clear hx hb10 HD9 c0
              go_upto_if 98 with fail
              go_cut [19] from 20 (fun s19 wx => s19 = .int .u8 (cond last 0 8) ∧ wx = w10)
              case first =>
                cases last with
                | true =>
                  have e1 : mm = k := HMM.out
                  subst e1
                  clear HC0 HMM
                  go_wp2_with fail
                  go_meet
                  exact ⟨rfl, rfl⟩
                | false =>
                  clear HC0 HMM
                  go_wp2_with fail
                  go_meet
                  exact ⟨rfl, rfl⟩
              obtain ⟨rfl, hwc⟩ := hcut
              rw [hwc]
              clear hwc
              have c0 := HC0.out
              clear HMM HBL HC0
              generalize (cond last 0 8 : Int) = wv at c0 ⊢
              have hww : (wv == wv) = true := by simp
              have hsy := dskSync HD10.out.dk (HS.out.below HD10.out.bel) (HD10.out.noOff HS.out)
              rw [HQ4.out, eC_zero] at hsy
              go_wp2_with fail
              refine (HI1.out _ HD10.out.bel).mono ?_
              rintro e w11 ⟨rfl, hb11⟩
              have HD11 := Lib.hid (HD10.out.below hb11)
              have c1 := (hb11.cell (Below.lt c0)).trans c0
              have hsy := dskSync HD11.out.dk (HS.out.below HD11.out.bel) (HD11.out.noOff HS.out)
              rw [HQ4.out, eC_zero] at hsy
              have HSY := Lib.hid hsy
              clear hb11 HD10 c0 hsy
              go_wp2_with fail
              refine HSY.out.mono ?_
              rintro e w12 ⟨rfl, g12, hd12, hx12⟩
              have HD12 := Lib.hid (HD11.out.turn hd12 hx12)
              clear hd12 hx12 HSY c1
              go_wp2_with fail
              go_ret
              exact ⟨rfl, HD12.out.bel⟩
end Go.Proofs.YtcpicfahajhplaaDoor
