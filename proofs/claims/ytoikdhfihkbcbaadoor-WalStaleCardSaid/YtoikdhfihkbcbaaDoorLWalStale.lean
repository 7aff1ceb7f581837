/- The walk of the law WalStale. -/
import Derived.Test.YtoikdhfihkbcbaaDoorWlS
import Derived.Test.YtoikdhfihkbcbaaDoorWalC
import Derived.Test.YtoikdhfihkbcbaaDoorIsAt
import Derived.Test.YtoikdhfihkbcbaaDoorNum
import Derived.BigQuiet
import Derived.Deep.CutBlock
namespace Go.Proofs.YtoikdhfihkbcbaaDoor
open Go.RowKit
set_option linter.unusedVariables false

set_option maxRecDepth 20000 in
set_option maxHeartbeats 40000000 in
theorem walStale_walk {ea : Nat → Addr} (n at_ how : Int) (n1 : -9223372036854775808 ≤ n) (n2 : n ≤ 9223372036854775807) (a1 : -9223372036854775808 ≤ at_) (a2 : at_ ≤ 9223372036854775807) (h1 : -9223372036854775808 ≤ how) (h2 : how ≤ 9223372036854775807) (w : World) (hs : Sen ea w) :
    Calls Tryd.prog 7 #[.int .i64 n, .int .i64 at_, .int .i64 how] w fun e w' => e = .returned (.bool true) ∧ Below w.heap.size w w' := by
  have HS := Lib.hid hs
  have HN := Lib.hid (fun W => number n 5 W (by omega) (by omega) n1 n2)
  have HA := Lib.hid (fun W => number at_ 6 W (by omega) (by omega) a1 a2)
  have HH := Lib.hid (fun W => number how 5 W (by omega) (by omega) h1 h2)
  have q0 := Int.emod_nonneg n (show (5 : Int) ≠ 0 by omega)
  have q1 := Int.emod_lt_of_pos n (show (0 : Int) < 5 by omega)
  have q2 := Int.emod_nonneg at_ (show (6 : Int) ≠ 0 by omega)
  have q3 := Int.emod_lt_of_pos at_ (show (0 : Int) < 6 by omega)
  have q4 := Int.emod_nonneg how (show (5 : Int) ≠ 0 by omega)
  have q5 := Int.emod_lt_of_pos how (show (0 : Int) < 5 by omega)
  generalize n % 5 = qn at HN q0 q1
  generalize at_ % 6 = qa at HA q2 q3
  generalize how % 5 = qh at HH q4 q5
  obtain ⟨n0, rfl⟩ := Int.eq_ofNat_of_zero_le q0
  obtain ⟨t, rfl⟩ := Int.eq_ofNat_of_zero_le q2
  obtain ⟨h, rfl⟩ := Int.eq_ofNat_of_zero_le q4
  obtain ⟨nn, hnn⟩ : ∃ nn : Nat, nn = n0 + 1 := ⟨_, rfl⟩
  have HNN : Hid ((n0 : Int) + 1 = nn) := Lib.hid (by omega)
  have m1 : 1 ≤ nn := by omega
  have m2 : nn ≤ 5 := by omega
  have m3 : t ≤ 5 := by omega
  have m4 : h ≤ 4 := by omega
  have HNM := Lib.hid hnn
  clear n1 n2 a1 a2 h1 h2 hs q0 q2 q4 hnn
  go_enter Tryd.func7, Tryd.ntmps7
  go_wp2_with fail
  refine (walFirst w).mono ?_
  rintro e w1 ⟨rfl, hb1⟩
  have HB1 := Lib.hid hb1
  clear hb1
  go_wp2_with fail
  refine (HN.out _).mono ?_
  clear HN
  rintro e w1' ⟨rfl, rfl⟩
  go_upto_region 5 with fail
  rw [HNN.out]
  clear q1
  go_wp2_with fail
  refine (HA.out _).mono ?_
  clear HA
  rintro e w1' ⟨rfl, rfl⟩
  go_wp2_with fail
  refine (dskNew 8 w1).mono ?_
  rintro e w2 ⟨⟨H, g, rfl, hd2, hl2⟩, hb2⟩
  have HDA : Hid (DA w H w2 (newD 8) g (.slice none 0 0) []) := Lib.hid ⟨hd2, HB1.out.trans (hb2.mono HB1.out.size), fun b hb => Nat.le_trans HB1.out.size (hl2 b hb), Og.nil, fun b e => by simp [Value.ownBlock] at e⟩
  have HST := Lib.hid StD.new
  generalize newD 8 = D0 at HDA HST
  clear hd2 hl2 hb2 HB1
  go_wp2_with fail
  go_loopw [9, 10] (fun s9 s10 wr => ∃ i : Nat, s10 = .int .i64 i ∧ i ≤ 6 ∧ ∃ o cap, s9 = .slice o i cap ∧ Hid (DA w H wr D0 g (.slice o i cap) (sixR i))) (fun _ s10 _ => 6 - (intOf s10).toNat)
  case atStart => exact ⟨0, rfl, by omega, none, 0, rfl, HDA⟩
  case round =>
    obtain ⟨i, rfl, hi, o, cap, rfl, HDR⟩ := hrel
    clear HDA
    by_cases hi6 : (i : Int) < 6
    · obtain ⟨W1, hW1⟩ : ∃ W, W = wr.alloc (.cells (recCs bR0) 31) := ⟨_, rfl⟩
      have hlaid := bR0_laid wr
      rw [← hW1] at hlaid
      have hb1 : Below wr.heap.size wr W1 := by rw [hW1]; exact (Below.refl _ _).alloc (Nat.le_refl _) _
      have hr1 : RW wr.heap.size (recCs bR0) W1 := by rw [hW1]; exact RW.new wr _
      have hda1 := HDR.out.below hb1
      obtain ⟨gb, cap2, w3, hrun, ho3, hg3, hat, _, hca, hcb⟩ := hda1.og.append1 bR0 bR0_w hda1.bel.size (by rw [sixR_len]; omega) wr.heap.size hr1 1 28
      have hda3 := HDR.out.all hb1 hg3 ho3 (by
        rcases hat with e | e
        · exact .inl e.symm
        · exact .inr fun b e2 => by
            have e' : gb = b := by simpa [Value.ownBlock] using e2
            rw [← e', e]; exact Nat.le_refl _)
      have hrp : sixR i ++ [bR0] = sixR (i + 1) := by unfold sixR; rw [List.replicate_succ']
      rw [hrp, sixR_len] at hda3
      rw [sixR_len] at hrun hca
      have HDA3 := Lib.hid hda3
      unfold maxLen at hcb
      clear hb1 hr1 hda1 ho3 hg3 hat hda3 hrp hW1 HDR
      generalize wr.heap.size = A at hlaid hrun
      go_wp2_with (first | (refine wpList_bs_run _ rfl _ _ _ rfl _ (by kernel_rfl) _ _ hlaid ?_) | (at_builtin; refine Lib.wpList_append_run _ rfl _ _ _ _ rfl _ _ rfl rfl _ _ hrun ?_))
      go_roundw
      case rel => exact ⟨i + 1, by go_num, by omega, _, _, rfl, HDA3⟩
      case measure => simp [intOf]; omega
    · obtain rfl : i = 6 := by omega
      obtain ⟨_, _, hv6, hcA, hcB, _, _⟩ := HDR.out.og.form
      simp only [Value.slice.injEq] at hv6
      obtain ⟨rfl, hxx, rfl⟩ := hv6
      rw [sixR_len] at hcA
      unfold maxLen at hcB
      clear hxx
      go_wp2_with fail
      go_loopw [11] (fun s11 wr => ∃ k : Nat, s11 = .int .i64 k ∧ k ≤ nn ∧ ∃ D g, Hid (DA w H wr D g (.slice o 6 cap) (sixR 6)) ∧ Hid (StD D k)) (fun s11 _ => nn - (intOf s11).toNat)
      case atStart => exact ⟨0, rfl, by omega, D0, g, HDR, HST⟩
      case round =>
        obtain ⟨k, rfl, hk, D, g, HDR, HSR⟩ := hrel
        clear HST
        by_cases hkn : (k : Int) < nn
        · have hby := blkBytesOk 10 (.slice o 6 cap) (sixR 6) wr (by omega) (by omega) HDR.out.og.gs (by rw [sixR_len]; omega) (by rw [sixR_len]; omega) (fun r hr => (sixR_ok 6 r hr).1) (some (ea 1)) 124 ((HS.out.below HDR.out.bel).cell 1 (by decide))
          have HBY := Lib.hid hby
          clear hby
          go_wp2_with fail
          refine HBY.out.mono ?_
          clear HBY
          rintro e w4 ⟨ox, cx, rfl, hb4, ho4⟩
          have HDA4 := Lib.hid (HDR.out.below hb4)
          obtain ⟨s1, s2⟩ := HSR.out.step (by omega)
          have hwr := dskWrite HDA4.out.dk ((HS.out.below HDA4.out.bel).d3) (fun hf => absurd (HDA4.out.low _ hf) (Nat.not_le.2 (Below.lt HS.out.d3.o))) (k : Int) (by omega) (by omega) (.slice ox 256 cx) _ ho4.bs (by have := HSR.out.many ((k : Int)).toNat; omega)
          rw [s1, eC_zero] at hwr
          have HWR := Lib.hid hwr
          have HS2 := Lib.hid s2
          clear hb4 ho4 hwr s1 s2 HDR HSR
          go_wp2_with fail
          refine HWR.out.mono ?_
          clear HWR
          rintro e w5 ⟨rfl, g5, hd5, hx5⟩
          have HDA5 := Lib.hid (HDA4.out.disk hd5 hx5)
          clear hd5 hx5 HDA4
          go_wp2_with fail
          go_roundw
          case rel => exact ⟨k + 1, by go_num, by omega, _, g5, HDA5, HS2⟩
          case measure => simp [intOf]; omega
        · obtain rfl : k = nn := by omega
          go_wp2_with fail
          refine (HH.out _).mono ?_
          rintro e w4 ⟨rfl, rfl⟩
          go_upto_block 4 with fail
          go_cut [15, 16, 17] from 65 (fun s15 s16 s17 wx => s15 = .int .i64 (StP h t) ∧ s16 = .int .i64 (StE h) ∧ s17 = .int .i64 (StC h k t) ∧ wr = wx)
          case first =>
            by_cases k0 : h = 0
            · subst k0
              go_wp2_with fail
              go_meet
              exact ⟨rfl, rfl, rfl, rfl⟩
            · by_cases k1 : h = 1
              · subst k1
                by_cases ht : (t : Int) < k
                · go_wp2_with fail
                  go_meet
                  exact ⟨rfl, rfl, by unfold StC; rw [if_pos rfl, if_pos (by omega)]; rfl, rfl⟩
                · go_wp2_with fail
                  go_meet
                  exact ⟨rfl, rfl, by unfold StC; rw [if_pos rfl, if_neg (by omega)]; rfl, rfl⟩
              · by_cases k2 : h = 2
                · subst k2
                  go_wp2_with fail
                  go_meet
                  exact ⟨rfl, rfl, rfl, rfl⟩
                · by_cases k3 : h = 3
                  · subst k3
                    go_wp2_with fail
                    go_meet
                    exact ⟨rfl, rfl, rfl, rfl⟩
                  · obtain rfl : h = 4 := by omega
                    go_wp2_with fail
                    go_meet
                    exact ⟨rfl, rfl, rfl, rfl⟩
          obtain ⟨rfl, rfl, rfl, rfl⟩ := hcut
          obtain ⟨e1, e2⟩ := stE_bounds h
          obtain ⟨c1, c2⟩ := stC_bounds h k t
          obtain ⟨o6, k6, rfl, hgo1, hgo2, hgo3, hgo4⟩ : ∃ g0 r, o = some ⟨g0, 0, none⟩ ∧ w.heap.size ≤ g0 ∧ g0 < wr.heap.size ∧ (sixR 6)[0]? = some r ∧ True := by
            obtain ⟨g0, r, h1, h2, h3, h4, _⟩ := HDR.out.og.at_ (k := 0) (by rw [sixR_len]; omega)
            exact ⟨g0, r, h1, h2, h3, h4, trivial⟩
          obtain ⟨hpre, hsl⟩ := HDR.out.og.gs.pre (StC h k t) c1 c2
          have htk : (sixR 6).take (StC h k t) = sixR (StC h k t) := by unfold sixR; rw [List.take_replicate, Nat.min_eq_left c2]
          rw [htk] at hpre
          have hby := blkBytesOk (StE h) _ (sixR (StC h k t)) wr e1 (by omega) hpre (by rw [sixR_len]; exact c1) (by rw [sixR_len]; exact c2) (fun r hr => (sixR_ok _ r hr).1) (some (ea 1)) 124 ((HS.out.below HDR.out.bel).cell 1 (by decide))
          have HSB : Hid (stB k t h = if h = 4 then (blkB (StE h) (sixR (StC h k t))).set 0 7 else blkB (StE h) (sixR (StC h k t))) := Lib.hid rfl
          have HLB : Hid ((blkB (StE h) (sixR (StC h k t))).length = 256) := Lib.hid (blkB_len _ _ (by rw [sixR_len]; exact c2))
          have HBY := Lib.hid hby
          obtain ⟨g1, g2, g3⟩ := HSR.out.go (t := t) (h := h) (by omega) m1 m2 m3 m4
          have HG1 := Lib.hid g1
          have HG2 := Lib.hid g2
          have HG3 := Lib.hid g3
          have HQ : Hid (StQ h t = if h = 4 then (t : Int) else StP h t) := Lib.hid rfl
          have hp1 : -1 ≤ StP h t ∧ StP h t ≤ 5 := by unfold StP; split <;> omega
          clear hpre htk hby g1 g2 g3 hgo1 hgo2 hgo3 hgo4
          obtain ⟨E, hE⟩ : ∃ E, E = StE h := ⟨_, rfl⟩
          obtain ⟨C, hC⟩ : ∃ C, C = StC h k t := ⟨_, rfl⟩
          obtain ⟨P, hP⟩ : ∃ P, P = StP h t := ⟨_, rfl⟩
          rw [← hE] at e1 e2 HBY HSB HLB ⊢
          rw [← hC] at c1 c2 hsl HBY HSB HLB ⊢
          rw [← hP] at hp1 HQ ⊢
          have HEE := Lib.hid hE
          have HCC := Lib.hid hC
          have hC1 : (C : Int) ≤ 6 := by omega
          obtain ⟨bd, hbd⟩ : ∃ b, decide (E < 10) = b := ⟨_, rfl⟩
          clear hE hC hP
          go_wp2_with fail
          refine HBY.out.mono ?_
          have HBD := Lib.hid hbd
          clear HBY hsl hbd
          rintro e w4 ⟨ox, cx, rfl, hb4, ho4⟩
          have HDA4 := Lib.hid (HDR.out.below hb4)
          have HO4 := Lib.hid ho4
          have HB4 := Lib.hid hb4
          clear hb4 ho4
          go_wp2_with fail
          refine (HH.out _).mono ?_
          clear HH
          rintro e w4' ⟨rfl, rfl⟩
          go_upto_if 89 with fail
          go_cut [15] from 65 (fun s15 wx => s15 = .int .i64 (StQ h t) ∧ Hid (DA w H wx D g (.slice (some ⟨o6, 0, none⟩) 6 cap) (sixR 6)) ∧ Hid (Bs wx (.slice ox 256 cx) (stB k t h)))
          case first =>
            by_cases h4 : h = 4
            · subst h4
              have hrow := HO4.out.row (ne_nil_of_lt (k := 0) (by rw [HLB.out]; omega))
              rw [HLB.out] at hrow
              obtain ⟨gx, cx', hvx, hgx, hgs, hcx1, hcx2⟩ := hrow
              simp only [Value.slice.injEq] at hvx
              obtain ⟨rfl, _, rfl⟩ := hvx
              have hcell := HO4.out.cell (i := 0) (by rw [HLB.out]; omega)
              have hfr := HO4.out.frozen 0
              have hset := HO4.out.set 0 (x := 7) (by omega) (by omega)
              have hda := HDR.out.below (HB4.out.trans ((Below.refl wr.heap.size w4).setCell (p := ⟨gx, 0, none⟩) hgx (.int .u8 7)))
              have hsb := HSB.out
              rw [if_pos rfl] at hsb
              rw [← hsb] at hset
              have HSET := Lib.hid hset.bs
              have HDX := Lib.hid hda
              have hq := HQ.out
              rw [if_pos rfl] at hq
              have HQQ := Lib.hid hq
              unfold maxLen at hcx2
              clear hset hda hsb hq HQ
              go_wp2_with fail
              go_meet
              exact ⟨by rw [HQQ.out], HDX, HSET⟩
            · have h4i : ¬ ((h : Int) = 4) := by omega
              have h4b : ((h : Int) == 4) = false := by simp; omega
              have HSET : Hid (Bs w4 (.slice ox 256 cx) (stB k t h)) := Lib.hid (by rw [HSB.out, if_neg h4]; exact HO4.out.bs)
              have HQQ : Hid (StQ h t = P) := Lib.hid (by rw [HQ.out, if_neg h4])
              go_wp2_with fail
              go_meet
              exact ⟨by rw [HQQ.out], HDA4, HSET⟩
          obtain ⟨rfl, HDX, HBX⟩ := hcut
          clear HDA4 HO4 HB4 HDR HSB HLB
          obtain ⟨Q, hQ⟩ : ∃ Q, Q = StQ h t := ⟨_, rfl⟩
          have hQ1 : -1 ≤ Q ∧ Q ≤ 5 := by rw [hQ, HQ.out]; split <;> omega
          rw [← hQ]
          have HQE := Lib.hid hQ
          have hwr := dskWrite HDX.out.dk ((HS.out.below HDX.out.bel).d3) (fun hf => absurd (HDX.out.low _ hf) (Nat.not_le.2 (Below.lt HS.out.d3.o))) (t : Int) (by omega) (by omega) (.slice ox 256 cx) _ HBX.out (by have := HSR.out.many ((t : Int)).toNat; omega)
          rw [HG1.out, eC_zero] at hwr
          have HWR := Lib.hid hwr
          clear hwr HG1 HSR HQ hQ hp1
          go_wp2_with fail
          refine HWR.out.mono ?_
          clear HWR
          rintro e w6 ⟨rfl, g6, hd6, hx6⟩
          have hda6 := HDX.out.disk hd6 hx6
          have hop := walOpen hda6.bel hda6.dk hda6.low HS.out.w5 0 8 0 5 20 (by omega) (by omega) (by omega) (by omega) HG2.out
          have HOP : Hid (Calls Tryd.prog 33 #[.pointer (some ⟨H, 0, none⟩), .int .i64 0, .int .i64 8, .int .i64 0, .int .i64 5, .int .i64 20] w6 _) := Lib.hid hop
          clear hd6 hx6 hda6 hop HDX HBX HG2
          go_wp2_with fail
          refine HOP.out.mono ?_
          clear HOP
          rintro e w7 h7
          rcases h7 with ⟨L, X, v, hR, rfl, hw7, _⟩ | ⟨kk, a, hR, rfl, hev, _, hbel⟩
          · have hlw : ¬ 0 ≤ StL k t h ∧ L.length = (StW k t h).toNat := by
              have hg := HG3.out
              rw [hR] at hg
              by_cases hp : 0 ≤ StL k t h
              · rw [if_pos hp] at hg; simp [Sum.map] at hg
              · rw [if_neg hp] at hg
                exact ⟨hp, by simpa [Sum.map] using hg⟩
            have hsw := stale_w ⟨k - 1, by omega⟩ ⟨t, by omega⟩ ⟨h, by omega⟩
            dsimp only at hsw
            rw [show k - 1 + 1 = k from by omega] at hsw
            have HLW := Lib.hid hlw
            have HSW := Lib.hid hsw
            have hla : ∀ W, Below w7.heap.size w7 W → Calls Tryd.prog 29 #[.pointer (some ⟨X, 0, none⟩)] W fun e w' => e = .returned (.int .i64 (StW k t h)) ∧ Qw W w' := fun W hb => (walLast (hw7.below hb).lg).mono (by
              rintro e w' ⟨he, hq⟩
              exact ⟨by rw [he]; congr 2; show (0 : Int) + (L.length : Int) = _; rw [HLW.out.2]; have := HSW.out.1; omega, hq⟩)
            have hdo : ∀ W, Below w7.heap.size w7 W → Calls Tryd.prog 31 #[.pointer (some ⟨X, 0, none⟩)] W fun e w' => e = .returned (.int .i64 (StW k t h)) ∧ Qw W w' := fun W hb => (walDone (hw7.below hb).lg (by dsimp only; omega) (by dsimp only; rw [HLW.out.2]; have := HSW.out.2.1; omega)).mono (by
              rintro e w' ⟨he, hq⟩
              exact ⟨by rw [he]; congr 2; show (0 : Int) + (L.length : Int) = _; rw [HLW.out.2]; have := HSW.out.1; omega, hq⟩)
            have HLA := Lib.hid hla
            have HDO := Lib.hid hdo
            have HB7 := Lib.hid hw7.bel
            clear hR hw7 hlw hsw hla hdo HG3
            go_upto_if 109 with fail
            go_cut [14, 15] from 107 (fun s14 s15 wx => s14 = .int .i64 (StW k t h) ∧ s15 = .int .i64 (StL k t h) ∧ w7 = wx)
            case first =>
              have HWD : Hid (StW k t h = if k < t then 6 * (k : Int) else if E < 10 then (if E < 5 ∨ 0 < t then min (6 * (k : Int)) (6 * t) else 6 * k) else if Q < 0 ∧ C < 6 then 6 * t + C else if Q < 0 ∧ t = k then 6 * k + 6 else 6 * k) := Lib.hid (by rw [HEE.out, HCC.out, HQE.out]; rfl)
              have HLD : Hid (StL k t h = if k < t then -1 else Q) := Lib.hid (by rw [HQE.out]; rfl)
              by_cases c1 : (k : Int) < t
              · go_wp2_with fail
                go_meet
                exact ⟨by rw [HWD.out, if_pos (by omega)], by rw [HLD.out, if_pos (by omega)], rfl⟩
              · cases bd with
                | true =>
                    have c2 : E < 10 := of_decide_eq_true HBD.out
                    by_cases c3 : E < 5
                    · by_cases c4 : (6 : Int) * t < 6 * k
                      · go_wp2_with fail
                        all_goals
                          go_meet
                          exact ⟨by congr 1; rw [HWD.out, if_neg (by omega), if_pos (by omega), if_pos (.inl c3)]; omega, by rw [HLD.out, if_neg (by omega)], rfl⟩
                      · go_wp2_with fail
                        all_goals
                          go_meet
                          exact ⟨by congr 1; rw [HWD.out, if_neg (by omega), if_pos (by omega), if_pos (.inl c3)]; omega, by rw [HLD.out, if_neg (by omega)], rfl⟩
                    · by_cases c5 : (0 : Int) < t
                      · by_cases c4 : (6 : Int) * t < 6 * k
                        · go_wp2_with fail
                          all_goals
                            go_meet
                            exact ⟨by congr 1; rw [HWD.out, if_neg (by omega), if_pos (by omega), if_pos (.inr (by omega))]; omega, by rw [HLD.out, if_neg (by omega)], rfl⟩
                        · go_wp2_with fail
                          all_goals
                            go_meet
                            exact ⟨by congr 1; rw [HWD.out, if_neg (by omega), if_pos (by omega), if_pos (.inr (by omega))]; omega, by rw [HLD.out, if_neg (by omega)], rfl⟩
                      · go_wp2_with fail
                        go_meet
                        exact ⟨by congr 1; rw [HWD.out, if_neg (by omega), if_pos (by omega), if_neg (by omega)], by rw [HLD.out, if_neg (by omega)], rfl⟩
                | false =>
                    have c2 : ¬ E < 10 := of_decide_eq_false HBD.out
                    by_cases c3 : Q < 0
                    · by_cases c4 : (C : Int) < 6
                      · go_wp2_with fail
                        go_meet
                        exact ⟨by congr 1; rw [HWD.out, if_neg (by omega), if_neg (by omega), if_pos ⟨c3, by omega⟩], by rw [HLD.out, if_neg (by omega)], rfl⟩
                      · by_cases c5 : (t : Int) = k
                        · have c6 : ((t : Int) == (k : Int)) = true := by simp; omega
                          have HC5 := Lib.hid c5
                          clear c5
                          go_wp2_with fail
                          go_meet
                          exact ⟨by congr 1; rw [HWD.out, if_neg (by omega), if_neg (by omega), if_neg (by omega), if_pos ⟨c3, by have := HC5.out; omega⟩], by rw [HLD.out, if_neg (by have := HC5.out; omega)], rfl⟩
                        · have c6 : ((t : Int) == (k : Int)) = false := by simp; omega
                          go_wp2_with fail
                          go_meet
                          exact ⟨by congr 1; rw [HWD.out, if_neg (by omega), if_neg (by omega), if_neg (by omega), if_neg (by omega)], by rw [HLD.out, if_neg (by omega)], rfl⟩
                    · go_wp2_with fail
                      go_meet
                      exact ⟨by congr 1; rw [HWD.out, if_neg (by omega), if_neg (by omega), if_neg (by omega), if_neg (by omega)], by rw [HLD.out, if_neg (by omega)], rfl⟩
            obtain ⟨rfl, rfl, rfl⟩ := hcut
            clear hC1 c1 c2
            have hneg : StL k t h < 0 := by have := HLW.out.1; omega
            generalize StL k t h = SL at hneg
            go_wp2_with fail
            refine (HLA.out _ (Below.refl _ _)).mono ?_
            clear HLA
            rintro e w8 ⟨rfl, hq8⟩
            have HQ8 := Lib.hid (hq8.below w7.heap.size)
            clear hq8
            go_wp2_with fail
            refine (HDO.out _ HQ8.out).mono ?_
            clear HDO
            rintro e w9 ⟨rfl, hq9⟩
            have HQ9 := Lib.hid (HQ8.out.trans (hq9.below w7.heap.size))
            clear hq9 HQ8
            go_wp2_with fail
            go_ret
            exact ⟨by simp, HB7.out.trans (HQ9.out.mono HB7.out.size)⟩
          · have hlw : 0 ≤ StL k t h ∧ (kk : Int) = StL k t h := by
              have hg := HG3.out
              rw [hR] at hg
              by_cases hp : 0 ≤ StL k t h
              · rw [if_pos hp] at hg
                have : kk = (StL k t h).toNat := by simpa [Sum.map] using hg
                exact ⟨hp, by omega⟩
              · rw [if_neg hp] at hg; simp [Sum.map] at hg
            have HLW := Lib.hid hlw
            have HEV := Lib.hid hev
            have HB7 := Lib.hid hbel
            clear hR hlw hev hbel HG3
            go_upto_if 109 with fail
            go_cut [14, 15] from 107 (fun s14 s15 wx => s14 = .int .i64 (StW k t h) ∧ s15 = .int .i64 (StL k t h) ∧ w7 = wx)
            case first =>
              have HWD : Hid (StW k t h = if k < t then 6 * (k : Int) else if E < 10 then (if E < 5 ∨ 0 < t then min (6 * (k : Int)) (6 * t) else 6 * k) else if Q < 0 ∧ C < 6 then 6 * t + C else if Q < 0 ∧ t = k then 6 * k + 6 else 6 * k) := Lib.hid (by rw [HEE.out, HCC.out, HQE.out]; rfl)
              have HLD : Hid (StL k t h = if k < t then -1 else Q) := Lib.hid (by rw [HQE.out]; rfl)
              by_cases c1 : (k : Int) < t
              · go_wp2_with fail
                go_meet
                exact ⟨by rw [HWD.out, if_pos (by omega)], by rw [HLD.out, if_pos (by omega)], rfl⟩
              · cases bd with
                | true =>
                    have c2 : E < 10 := of_decide_eq_true HBD.out
                    by_cases c3 : E < 5
                    · by_cases c4 : (6 : Int) * t < 6 * k
                      · go_wp2_with fail
                        all_goals
                          go_meet
                          exact ⟨by congr 1; rw [HWD.out, if_neg (by omega), if_pos (by omega), if_pos (.inl c3)]; omega, by rw [HLD.out, if_neg (by omega)], rfl⟩
                      · go_wp2_with fail
                        all_goals
                          go_meet
                          exact ⟨by congr 1; rw [HWD.out, if_neg (by omega), if_pos (by omega), if_pos (.inl c3)]; omega, by rw [HLD.out, if_neg (by omega)], rfl⟩
                    · by_cases c5 : (0 : Int) < t
                      · by_cases c4 : (6 : Int) * t < 6 * k
                        · go_wp2_with fail
                          all_goals
                            go_meet
                            exact ⟨by congr 1; rw [HWD.out, if_neg (by omega), if_pos (by omega), if_pos (.inr (by omega))]; omega, by rw [HLD.out, if_neg (by omega)], rfl⟩
                        · go_wp2_with fail
                          all_goals
                            go_meet
                            exact ⟨by congr 1; rw [HWD.out, if_neg (by omega), if_pos (by omega), if_pos (.inr (by omega))]; omega, by rw [HLD.out, if_neg (by omega)], rfl⟩
                      · go_wp2_with fail
                        go_meet
                        exact ⟨by congr 1; rw [HWD.out, if_neg (by omega), if_pos (by omega), if_neg (by omega)], by rw [HLD.out, if_neg (by omega)], rfl⟩
                | false =>
                    have c2 : ¬ E < 10 := of_decide_eq_false HBD.out
                    by_cases c3 : Q < 0
                    · by_cases c4 : (C : Int) < 6
                      · go_wp2_with fail
                        go_meet
                        exact ⟨by congr 1; rw [HWD.out, if_neg (by omega), if_neg (by omega), if_pos ⟨c3, by omega⟩], by rw [HLD.out, if_neg (by omega)], rfl⟩
                      · by_cases c5 : (t : Int) = k
                        · have c6 : ((t : Int) == (k : Int)) = true := by simp; omega
                          have HC5 := Lib.hid c5
                          clear c5
                          go_wp2_with fail
                          go_meet
                          exact ⟨by congr 1; rw [HWD.out, if_neg (by omega), if_neg (by omega), if_neg (by omega), if_pos ⟨c3, by have := HC5.out; omega⟩], by rw [HLD.out, if_neg (by have := HC5.out; omega)], rfl⟩
                        · have c6 : ((t : Int) == (k : Int)) = false := by simp; omega
                          go_wp2_with fail
                          go_meet
                          exact ⟨by congr 1; rw [HWD.out, if_neg (by omega), if_neg (by omega), if_neg (by omega), if_neg (by omega)], by rw [HLD.out, if_neg (by omega)], rfl⟩
                    · go_wp2_with fail
                      go_meet
                      exact ⟨by congr 1; rw [HWD.out, if_neg (by omega), if_neg (by omega), if_neg (by omega), if_neg (by omega)], by rw [HLD.out, if_neg (by omega)], rfl⟩
            obtain ⟨rfl, rfl, rfl⟩ := hcut
            clear hC1 c1 c2
            have hpos := HLW.out.1
            rw [← HLW.out.2] at hpos ⊢
            go_wp2_with fail
            refine (placed 108 (kk : Int) (by omega) w7).mono ?_
            rintro e w8 ⟨rfl, hb8⟩
            have HB8 := Lib.hid hb8
            have hsa := sameAny w8 (HS.out.below (HB7.out.trans (hb8.mono HB7.out.size))) _ _ (HEV.out.below hb8) 108 (kk : Int) true
            have hsa2 : Calls Tryd.prog 34 #[.iface 102 (.pointer (some ⟨a, 0, none⟩)), .agg #[.int .i64 108, .bool true, .int .i64 kk]] w8 fun e w' => e = .returned (.bool true) ∧ Below w8.heap.size w8 w' := hsa.mono (by
              rintro e w' ⟨he, hb⟩
              exact ⟨by rw [he]; simp [Er.code, Er.placed, Er.pos], hb⟩)
            have HSA := Lib.hid hsa2
            clear hb8 hsa hsa2
            go_wp2_with fail
            refine HSA.out.mono ?_
            clear HSA
            rintro e w9 ⟨rfl, hb9⟩
            have HB9 := Lib.hid (HB8.out.trans (hb9.mono HB8.out.size))
            clear hb9
            go_wp2_with fail
            go_ret
            exact ⟨rfl, HB7.out.trans (HB9.out.mono HB7.out.size)⟩
end Go.Proofs.YtoikdhfihkbcbaaDoor
