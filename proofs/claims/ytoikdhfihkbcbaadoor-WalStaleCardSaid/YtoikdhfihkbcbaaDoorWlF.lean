/- Contract: the log's Flush. -/
import Derived.Test.YtoikdhfihkbcbaaDoorWlM
import Derived.Deep.RegionLaw
import Derived.Deep.QuietTactic
import Derived.Deep.Cut
import Derived.Deep.RegionHeld3
import Derived.Test.YtoikdhfihkbcbaaDoorBlL
import Derived.Test.YtoikdhfihkbcbaaDoorDskI
import Derived.Test.YtoikdhfihkbcbaaDoorLaidS
namespace Go.Proofs.YtoikdhfihkbcbaaDoor
open Go.RowKit
set_option linter.unusedVariables false

theorem eC_bad (ea : Nat → Addr) {c : Int} (h : c ≠ 0) : eC ea c = .iface 124 (.pointer (some (ea (c - 101).toNat))) := by unfold eC; rw [if_neg h]; rfl
theorem flushGo_zero (first epoch : Int) (L : List RecD) (k : Nat) (d : DiskD) : flushGo first epoch L 0 k d = (syncD d, syncC d) := rfl
theorem flushGo_ok (first epoch : Int) (L : List RecD) (n k : Nat) (d : DiskD) (h : writeC d (first + k) (blkB epoch (chunk L k)) = 0) : flushGo first epoch L (n + 1) k d = flushGo first epoch L n (k + 1) (writeD d (first + k) (blkB epoch (chunk L k))) := by rw [flushGo, if_pos h]
theorem flushGo_bad (first epoch : Int) (L : List RecD) (n k : Nat) (d : DiskD) (h : writeC d (first + k) (blkB epoch (chunk L k)) ≠ 0) : flushGo first epoch L (n + 1) k d = (writeD d (first + k) (blkB epoch (chunk L k)), writeC d (first + k) (blkB epoch (chunk L k))) := by rw [flushGo, if_neg h]

theorem blkBytesOk (e : Int) (v : Value) (L : List RecD) (w : World) (he1 : 1 ≤ e) (he2 : e ≤ 1073741824) (hv : Gs w v L) (hl1 : 1 ≤ L.length) (hl6 : L.length ≤ 6) (hok : ∀ r ∈ L, okR r = true) (p : Option Addr) (T : TypeId) (hE : w.cell? ⟨0, 0, none⟩ = some (.iface T (.pointer p))) :
    Calls Tryd.prog 14 #[.int .i64 e, v] w fun en w' => ∃ o cap, en = .returned (.tuple #[.slice o 256 cap, .nilIface]) ∧ Below w.heap.size w w' ∧ Ob 5 w.heap.size w' (.slice o 256 cap) (blkB e L) := by
  refine (blkBytes e v L w he1 he2 hv hl1 hl6 p T hE).mono ?_
  rintro en w' ⟨hb, h⟩
  rcases h with ⟨_, o, cap, he, ho⟩ | ⟨h, _⟩
  · exact ⟨o, cap, he, hb, ho⟩
  · rw [List.all_eq_true.2 hok] at h; simp at h

theorem walFlushNone {w0 w : World} {X H : Nat} {c : LogC} {v : Value} {L : List RecD} {d : DiskD} {g : DG} (h : WL w0 X H w c v L d g) (hd : c.done = L.length) :
    Calls Tryd.prog 30 #[.pointer (some ⟨X, 0, none⟩)] w fun e w' => e = .returned .nilIface ∧ Below w.heap.size w w' := by
  obtain ⟨_, _, _, _, _, c5, c6, _⟩ := h.lg.cells
  obtain ⟨o, cap, rfl, hc1, hc2, _, _⟩ := h.lg.own.form
  have hl := h.lg.len
  unfold maxLen at hc2
  rw [hd] at c6
  clear h hd
  generalize L.length = n at *
  go_enter Tryd.func30, Tryd.ntmps30
  go_wp2_with fail
  go_quiet (fail)
  go_wp2_with fail
  go_ret
  exact ⟨rfl, bdrew _ _ _⟩

set_option maxRecDepth 20000 in
set_option maxHeartbeats 4000000 in
theorem walFlushGo {ea : Nat → Addr} {w0 ws w : World} {Us : Nat → Prop} {X H : Nat} {c : LogC} {v : Value} {L : List RecD} {d : DiskD} {g : DG} (h : WX w0 ws Us X H w c v L d g) (hs : D3 ea w0) (he1 : 1 ≤ c.epoch) (he2 : c.epoch ≤ 1073741824) (hd0 : 0 ≤ c.done) (hd1 : c.done < L.length) (hlo : ∀ s, (d.sec s).loose.length ≤ 500000)
    (R : DiskD × Int) (hR : flushGo c.first c.epoch L (blocksN L.length - c.done.toNat / 6) (c.done.toNat / 6) d = R) :
    Calls Tryd.prog 30 #[.pointer (some ⟨X, 0, none⟩)] w fun e w' => e = .returned (eC ea R.2) ∧ ∃ g', WX w0 ws Us X H w' (if R.2 = 0 then { c with done := L.length } else c) v L R.1 g' := by
  obtain ⟨_, _, _, _, _, c5, c6, _⟩ := h.lg.cells
  have hform := h.lg.own.form
  obtain ⟨o, cap, rfl, hc1, hc2, _, _⟩ := hform
  have hl := h.lg.len
  unfold maxLen at hc2
  have HD3 := Lib.hid hs
  have HW0 := Lib.hid h
  have HCE := Lib.hid (fun (wr : World) (dr : DiskD) (gr : DG) (hw : WX w0 ws Us X H wr c (.slice o L.length cap) L dr gr) => hw.lg.cells)
  have HCD := Lib.hid h.cd
  have HF0 := h.lg.ok.f0
  have HF1 := h.lg.ok.f1
  obtain ⟨cd, first, blocks, base, epoch, done⟩ := c
  dsimp only at *
  obtain ⟨dn, rfl⟩ := Int.eq_ofNat_of_zero_le hd0
  rw [Int.toNat_natCast] at hR
  obtain ⟨n, hn⟩ : ∃ n, n = L.length := ⟨_, rfl⟩
  rw [← hn] at hR hc1 hd1 c5 HCE HW0 ⊢
  have HN := Lib.hid hn
  obtain ⟨nb, hnb⟩ : ∃ nb, nb = blocksN n := ⟨_, rfl⟩
  rw [← hnb] at hR
  have hl' : n ≤ 10000 := by rw [hn]; exact hl
  have hnb1 : ∀ k : Nat, (k : Int) * 6 < n ↔ k < nb := fun k => by rw [hnb]; unfold blocksN; omega
  have HNB := Lib.hid hnb1
  have hnb2 : nb ≤ 1700 := by rw [hnb]; unfold blocksN; omega
  have hne : ¬ ((dn : Int) = (n : Int)) := by omega
  have hdn6 : dn / 6 ≤ nb := by rw [hnb]; unfold blocksN; omega
  have HR := Lib.hid hR
  obtain ⟨cf, hcf⟩ : ∃ cf : LogC, cf = (if R.2 = 0 then (⟨cd, first, blocks, base, epoch, n⟩ : LogC) else ⟨cd, first, blocks, base, epoch, dn⟩) := ⟨_, rfl⟩
  have HCF := Lib.hid hcf
  rw [← hcf]
  clear hcf
  have HLO := Lib.hid hlo
  clear h hs hnb1 hnb hn hR hlo hl
  go_enter Tryd.func30, Tryd.ntmps30
  go_wp2_with fail
  go_quiet (fail)
  rw [show ((dn : Int) == (n : Int)) = false by simp; omega]
  clear hne
  have hw1 := HW0.out.below (bdrew _ _ nq)
  generalize w.drewN nq = w1 at hw1 ⊢
  clear c5 c6
  obtain ⟨_, _, _, _, _, c5, c6, _⟩ := HCE.out _ _ _ hw1
  have HW1 := Lib.hid hw1
  clear hw1 HW0
  go_wp2_with fail
  go_loopw [3] (fun s wr => ∃ k : Nat, s = .int .i64 k ∧ k ≤ nb ∧ ∃ dr gr, Hid (WX w0 ws Us X H wr ⟨cd, first, blocks, base, epoch, dn⟩ (.slice o n cap) L dr gr) ∧ Hid (flushGo first epoch L (nb - k) k dr = R) ∧ Hid (∀ s, (dr.sec s).loose.length ≤ 500000 + k)) (fun s _ => nb - (intOf s).toNat)
  case atStart => exact ⟨dn / 6, by congr 1, hdn6, d, g, HW1, HR, Lib.hid (fun s => Nat.le_trans (HLO.out s) (by omega))⟩
  case round =>
    obtain ⟨k, rfl, hk, dr, gr, HWR, HRR, HLR⟩ := hrel
    clear c5 c6 HW1 HLO HR
    obtain ⟨c0, c1, _, _, c4, c5, c6, _⟩ := HCE.out _ _ _ HWR.out
    by_cases hkn : (k : Int) * 6 < n
    · have hknb := (HNB.out k).1 hkn
      have HCL : Hid ((chunk L k).length = min (6 * k + 6) n - 6 * k) := Lib.hid (by rw [chunk_len, ← HN.out])
      have hex : nb - k = (nb - (k + 1)) + 1 := by omega
      rw [hex] at HRR
      clear hex
      go_upto_region 7 with fail
      go_cut [5, 6] from 24 to 75 (fun s5 s6 wx => s6 = .nilIface ∧ ∃ ox cx, s5 = .slice ox 256 cx ∧ Hid (Bs wx (.slice ox 256 cx) (blkB epoch (chunk L k))) ∧ Hid (Below wr.heap.size wr wx))
      case first =>
        have hE := (HWR.out.bel.cell (Below.lt HD3.out.r)).trans HD3.out.r
        by_cases hle : (k : Int) * 6 + 6 ≤ n
        · obtain ⟨o', c', hg, hcc, hsl⟩ := HWR.out.lg.own.gs.part (k * 6) (k * 6 + 6) (by omega) (by omega)
          have hce : (L.take (k * 6 + 6)).drop (k * 6) = chunk L k := by rw [chunk_eq L k (k * 6 + 6) (by rw [← HN.out]; omega), Nat.mul_comm]
          rw [hce] at hg
          have e1 : ((k * 6 : Nat) : Int) = (k : Int) * 6 := by omega
          have e2 : ((k * 6 + 6 : Nat) : Int) = (k : Int) * 6 + 6 := by omega
          simp only [e1, e2] at hsl
          have HBY := Lib.hid (blkBytesOk epoch _ (chunk L k) wr.drew he1 he2 (hg.below ((Below.refl _ _).drew)) (by rw [HCL.out]; omega) (by rw [HCL.out]; omega) (fun r hr => HWR.out.ok r (chunk_mem hr)) (some (ea 1)) 124 hE)
          generalize k * 6 + 6 - k * 6 = m6 at hsl HBY
          have hks : IntKind.i64.wrap ((k : Int) * 6 + 6) = (k : Int) * 6 + 6 := by rw [IntKind.wrap_i64]; omega
          have hif : (if (n : Int) < (k : Int) * 6 + 6 then (n : Int) else (k : Int) * 6 + 6) = (k : Int) * 6 + 6 := if_neg (by omega)
          have HKP := Lib.hid (fun W (hb : Below wr.drew.heap.size wr.drew W) => (⟨(hb.cell (p := ⟨X, 4, none⟩) (Below.lt c4)).trans c4, (hb.cell (p := ⟨X, 5, none⟩) (Below.lt c5)).trans c5⟩ : W.cell? ⟨X, 4, none⟩ = some (.int .i64 epoch) ∧ W.cell? ⟨X, 5, none⟩ = some (.slice o n cap)))
          clear hg hce e1 e2 hE
          go_wp2_with fail
          go_region_held3 (fun W' => W'.cell? ⟨X, 4, none⟩ = some (.int .i64 epoch) ∧ W'.cell? ⟨X, 5, none⟩ = some (.slice o n cap))
            (first | exact HKP.out _ hb5 | exact HKP.out _ (Below.refl _ _) | go_keep)
            ((first | (go_at_call 14; with_reducible refine HBY.out.mono ?_; rintro en w5 ⟨ox, cx, rfl, hb5, ho5⟩)))
          all_goals
            go_wp2_with fail
            go_meet
            exact ⟨rfl, ox, cx, rfl, Lib.hid ho5.bs, Lib.hid (((Below.refl _ _).drew).trans hb5)⟩
        · obtain ⟨o', c', hg, hcc, hsl⟩ := HWR.out.lg.own.gs.part (k * 6) n (by omega) (by omega)
          have hce : (L.take n).drop (k * 6) = chunk L k := by rw [chunk_eq L k n (by rw [← HN.out]; omega), Nat.mul_comm]
          rw [hce] at hg
          have e1 : ((k * 6 : Nat) : Int) = (k : Int) * 6 := by omega
          simp only [e1] at hsl
          have HBY := Lib.hid (blkBytesOk epoch _ (chunk L k) wr.drew he1 he2 (hg.below ((Below.refl _ _).drew)) (by rw [HCL.out]; omega) (by rw [HCL.out]; omega) (fun r hr => HWR.out.ok r (chunk_mem hr)) (some (ea 1)) 124 hE)
          generalize n - k * 6 = m6 at hsl HBY
          have hks : IntKind.i64.wrap ((k : Int) * 6 + 6) = (k : Int) * 6 + 6 := by rw [IntKind.wrap_i64]; omega
          have hif : (if (n : Int) < (k : Int) * 6 + 6 then (n : Int) else (k : Int) * 6 + 6) = (n : Int) := if_pos (by omega)
          have HKP := Lib.hid (fun W (hb : Below wr.drew.heap.size wr.drew W) => (⟨(hb.cell (p := ⟨X, 4, none⟩) (Below.lt c4)).trans c4, (hb.cell (p := ⟨X, 5, none⟩) (Below.lt c5)).trans c5⟩ : W.cell? ⟨X, 4, none⟩ = some (.int .i64 epoch) ∧ W.cell? ⟨X, 5, none⟩ = some (.slice o n cap)))
          clear hg hce e1 hE
          go_wp2_with fail
          go_region_held3 (fun W' => W'.cell? ⟨X, 4, none⟩ = some (.int .i64 epoch) ∧ W'.cell? ⟨X, 5, none⟩ = some (.slice o n cap))
            (first | exact HKP.out _ hb5 | exact HKP.out _ (Below.refl _ _) | go_keep)
            ((first | (go_at_call 14; with_reducible refine HBY.out.mono ?_; rintro en w5 ⟨ox, cx, rfl, hb5, ho5⟩)))
          all_goals
            go_wp2_with fail
            go_meet
            exact ⟨rfl, ox, cx, rfl, Lib.hid ho5.bs, Lib.hid (((Below.refl _ _).drew).trans hb5)⟩
      obtain ⟨rfl, ox, cx, rfl, HBS, HBW⟩ := hcut
      have HWX := Lib.hid (HWR.out.below HBW.out)
      clear c0 c1 c4 c5 c6 HWR HBW
      obtain ⟨c0, c1, _, _, _, _, _, _⟩ := HCE.out _ _ _ HWX.out
      try dsimp only at c0 c1
      rw [HCD.out] at c0
      have hd3 := HD3.out.below HWX.out.bel
      have hnl := HWX.out.noLow (Below.lt HD3.out.o)
      have hbl : (blkB epoch (chunk L k)).length = 256 := blkB_len _ _ (by rw [HCL.out]; omega)
      have hwx := HWX.out.below ((Below.refl _ _).drew)
      have hwr := dskWrite hwx.dk (hd3.below ((Below.refl _ _).drew)) hnl (first + k) (by omega) (by omega) (.slice ox 256 cx) (blkB epoch (chunk L k)) (HBS.out.below ((Below.refl _ _).drew)) (Nat.lt_of_le_of_lt (HLR.out _) (by omega))
      have hkeep : ∀ W d' g', WX w0 ws Us X H W ⟨cd, first, blocks, base, epoch, dn⟩ (.slice o n cap) L d' g' → W.cell? ⟨X, 0, none⟩ = some (.pointer (some ⟨H, 0, none⟩)) ∧ W.cell? ⟨X, 1, none⟩ = some (.int .i64 first) := fun W d' g' hw => by
        obtain ⟨q0, q1, _⟩ := HCE.out _ _ _ hw
        try dsimp only at q0 q1
        rw [HCD.out] at q0
        exact ⟨q0, q1⟩
      have hwr2 : Calls Tryd.prog 32 #[.pointer (some ⟨H, 0, none⟩), .int .i64 (first + k), .slice ox 256 cx] wc.drew fun e w' => e = .returned (eC ea (writeC dr (first + k) (blkB epoch (chunk L k)))) ∧ ∃ g', WX w0 ws Us X H w' ⟨cd, first, blocks, base, epoch, dn⟩ (.slice o n cap) L (writeD dr (first + k) (blkB epoch (chunk L k))) g' ∧ (w'.cell? ⟨X, 0, none⟩ = some (.pointer (some ⟨H, 0, none⟩)) ∧ w'.cell? ⟨X, 1, none⟩ = some (.int .i64 first)) := hwr.mono (by
        rintro e w' ⟨he, g', hd', hx'⟩
        have hw' := hwx.disk hd' hx'
        exact ⟨he, g', hw', hkeep _ _ _ hw'⟩)
      have hks : IntKind.i64.wrap (first + k) = first + k := by rw [IntKind.wrap_i64]; omega
      by_cases hc : writeC dr (first + k) (blkB epoch (chunk L k)) = 0
      · have hst := flushGo_ok first epoch L (nb - (k + 1)) k dr hc
        rw [HRR.out] at hst
        have HRX := Lib.hid hst.symm
        have HLX : Hid (∀ s, ((writeD dr (first + k) (blkB epoch (chunk L k))).sec s).loose.length ≤ 500000 + (k + 1)) := Lib.hid (fun s => by
          have h1 := writeD_loose dr (first + k) (blkB epoch (chunk L k)) s
          have h2 := HLR.out s
          omega)
        rw [hc, eC_zero] at hwr2
        have HWT := Lib.hid hwr2
        clear hst hwr hwr2 hwx hkeep hd3 hnl hbl hc HBS HWX HRR HLR
        go_wp2_with fail
        go_region_held3 (fun W' => W'.cell? ⟨X, 0, none⟩ = some (.pointer (some ⟨H, 0, none⟩)) ∧ W'.cell? ⟨X, 1, none⟩ = some (.int .i64 first))
          (first | exact hk6 | go_keep)
          ((first | (go_at_call 32; with_reducible refine HWT.out.mono ?_; rintro en w6 ⟨rfl, g6, hw6, hk6⟩)))
        all_goals
          have HW6 := Lib.hid hw6
          clear hw6 hk6 c0 c1
          go_wp2_with fail
          go_roundw
          case rel => exact ⟨k + 1, by go_num, by omega, _, _, HW6, HRX, HLX⟩
          case measure => simp [intOf]; omega
      · have hst := flushGo_bad first epoch L (nb - (k + 1)) k dr hc
        rw [HRR.out] at hst
        have HRX := Lib.hid hst
        have hRc : R.2 ≠ 0 := by rw [hst]; exact hc
        have hRe := eC_bad ea hRc
        have HRC := Lib.hid hRc
        have hRv : eC ea (writeC dr (first + k) (blkB epoch (chunk L k))) = eC ea R.2 := by rw [hst]
        rw [hRv, hRe] at hwr2
        have HRE := Lib.hid hRe
        have HWT := Lib.hid hwr2
        clear hst hwr hwr2 hwx hkeep hd3 hnl hbl hc HBS HWX HRR HLR hRc hRe hRv
        go_wp2_with fail
        go_region_held3 (fun W' => W'.cell? ⟨X, 0, none⟩ = some (.pointer (some ⟨H, 0, none⟩)) ∧ W'.cell? ⟨X, 1, none⟩ = some (.int .i64 first))
          (first | exact hk6 | go_keep)
          ((first | (go_at_call 32; with_reducible refine HWT.out.mono ?_; rintro en w6 ⟨rfl, g6, hw6, hk6⟩)))
        all_goals
          have HW6 := Lib.hid hw6
          clear hw6 hk6 c0 c1
          go_wp2_with fail
          go_ret
          exact ⟨by rw [HRE.out]; rfl, g6, by rw [HCF.out, if_neg HRC.out, HRX.out]; exact HW6.out⟩
    · have hknb : k = nb := by
        have := (HNB.out k)
        omega
      subst hknb
      rw [Nat.sub_self, flushGo_zero] at HRR
      try dsimp only at c0
      rw [HCD.out] at c0
      have hd3 := HD3.out.below HWR.out.bel
      have hnl := HWR.out.noLow (Below.lt HD3.out.o)
      have hsy : Calls Tryd.prog 58 #[.pointer (some ⟨H, 0, none⟩)] wr fun e w' => e = .returned (eC ea (syncC dr)) ∧ ∃ g', WX w0 ws Us X H w' ⟨cd, first, blocks, base, epoch, dn⟩ (.slice o n cap) L (syncD dr) g' := (dskSync HWR.out.dk hd3 hnl).mono (by
        rintro e w' ⟨he, g', hd', hx'⟩
        exact ⟨he, g', HWR.out.disk hd' hx'⟩)
      by_cases hc : syncC dr = 0
      · rw [hc, eC_zero] at hsy
        rw [hc] at HRR
        have HSY := Lib.hid hsy
        clear hsy hc hd3 hnl HLR HWR
        go_wp2_with fail
        refine HSY.out.mono ?_
        clear HSY
        rintro e w6 ⟨rfl, g6, hw6⟩
        have HW6 := Lib.hid hw6
        clear c0 c1 c4 c5 c6
        obtain ⟨_, _, _, _, _, c5, c6, hfz⟩ := HCE.out _ _ _ hw6
        have hf6 := hfz 6
        clear hw6 hfz
        go_wp2_with fail
        go_ret
        exact ⟨by rw [← HRR.out]; rfl, g6, by rw [HCF.out, ← HRR.out]; exact HW6.out.done n⟩
      · have hRe := eC_bad ea hc
        rw [hRe] at hsy
        have HSY := Lib.hid hsy
        have HC := Lib.hid hc
        have HRE := Lib.hid hRe
        clear hsy hc hd3 hnl HLR HWR hRe
        go_wp2_with fail
        refine HSY.out.mono ?_
        clear HSY
        rintro e w6 ⟨rfl, g6, hw6⟩
        have HW6 := Lib.hid hw6
        clear c0 c1 c4 c5 c6 hw6
        go_wp2_with fail
        go_ret
        exact ⟨by rw [← HRR.out]; exact congrArg _ HRE.out.symm, g6, by rw [HCF.out, ← HRR.out, if_neg HC.out]; exact HW6.out⟩

/-- Flush -/
theorem walFlush {ea : Nat → Addr} {w0 w : World} {X H : Nat} {c : LogC} {v : Value} {L : List RecD} {d : DiskD} {g : DG} (h : WL w0 X H w c v L d g) (hs : D3 ea w0) (he1 : 1 ≤ c.epoch) (he2 : c.epoch ≤ 1073741824) (hd0 : 0 ≤ c.done) (hd1 : c.done ≤ L.length) (hlo : ∀ s, (d.sec s).loose.length ≤ 500000) :
    Calls Tryd.prog 30 #[.pointer (some ⟨X, 0, none⟩)] w fun e w' => e = .returned (eC ea (flushD c L d).2) ∧ ∃ g', WL w0 X H w' (doneC c L d) v L (flushD c L d).1 g' ∧ Ext (fun b => LogC.F X v b ∨ g.F H d.l.length b) w (fun b => LogC.F X v b ∨ g'.F H (flushD c L d).1.l.length b) w' := by
  by_cases hd : c.done = L.length
  · refine (walFlushNone h hd).mono ?_
    rintro e w' ⟨rfl, hb⟩
    have e1 : flushD c L d = (d, 0) := by unfold flushD; rw [if_pos hd]
    have e2 : doneC c L d = c := by unfold doneC; rw [e1, if_pos rfl, ← hd]
    rw [e1, e2]
    exact ⟨rfl, g, h.below hb, Ext.of_below hb⟩
  · have e1 : flushD c L d = flushGo c.first c.epoch L (blocksN L.length - c.done.toNat / 6) (c.done.toNat / 6) d := by unfold flushD; rw [if_neg hd]
    refine (walFlushGo (WX.start h) hs he1 he2 hd0 (by omega) hlo (flushD c L d) e1.symm).mono ?_
    rintro e w' ⟨he, g', hw⟩
    exact ⟨he, g', hw.toWL, hw.ext⟩

/-- append of records that lie in a row -/
theorem Og.appendL {base : Nat} {w : World} {v : Value} {L : List RecD} (h : Og base w v L) (M : List RecD) (o : Option Addr) (n c0 : Nat) (hM : Gs w (.slice o n c0) M) (h1 : 1 ≤ n) (hbase : base ≤ w.heap.size) (hn : L.length ≤ 1000000) (hm : n ≤ 1000) (ty : TypeId) :
    ∃ gb cap w', (Builtin.append_ #[28, 28] ty #[v, .slice o n c0]).run Tryd.prog w = .ok (.slice (some ⟨gb, 0, none⟩) (L.length + n) cap) w' ∧
      Og base w' (.slice (some ⟨gb, 0, none⟩) (L.length + n) cap) (L ++ M) ∧ w.grownBy w' v.ownBlock ∧ (v.ownBlock = some gb ∨ gb = w.heap.size) := by
  obtain ⟨hW, o', c', he, k1, k2, k3, k4⟩ := hM
  simp only [Value.slice.injEq] at he
  obtain ⟨rfl, rfl, rfl⟩ := he
  have hne : M ≠ [] := fun e => by subst e; simp at h1
  obtain ⟨g, off, rfl, hc⟩ := k4 hne
  obtain ⟨i0, hi0, hz0, hz1, hz2⟩ := info_parts recInfo
  have hone : ∀ u ∈ M.flatMap recCl, u.oneCell' = true := fun u hu => by
    rw [List.mem_flatMap] at hu
    obtain ⟨r, _, hr⟩ := hu
    exact oneCell_rec r u hr
  have hnews : ∀ j u, (M.flatMap recCl)[j]? = some u → w.cell? ((⟨g, off, none⟩ : Addr).add j) = some u := fun j u hu => by
    have hj : j < M.length * 10 := by
      have := (List.getElem?_eq_some_iff.1 hu).1
      rw [flatR_len] at this
      exact this
    have hi : j / 10 < M.length := by omega
    have hr : M[j / 10]? = some M[j / 10] := List.getElem?_eq_getElem hi
    have e : j = j / 10 * 10 + j % 10 := by omega
    have h5 := flatR M (j / 10) (j % 10) _ hr (by omega)
    rw [← e, hu] at h5
    have h6 := hc (j / 10) _ hr (j % 10) (by omega)
    rw [← h5] at h6
    have e2 : (⟨g, off, none⟩ : Addr).add j = ⟨g, off + j / 10 * 10 + j % 10, none⟩ := by
      rw [show off + j / 10 * 10 + j % 10 = off + j from by omega]
      clear h6 h5 hu e
      unfold Addr.add
      split <;> simp_all
    rw [e2]
    exact h6
  obtain ⟨gb, cap, w', hrun, hown, hgrow, hat, hlt⟩ := run_append_lies (P := Tryd.prog) w 28 ty base 31 i0 _ 10 72 Tryd.underlying28 hi0 hz0 hz1 hz2 rfl (by omega)
    v L.length _ h.2 ⟨g, off, none⟩ M.length c0 (M.flatMap recCl) (flatR_len M) hnews hone h1 (by simp [maxLen]; omega) (by omega) hbase _ rfl
  refine ⟨gb, cap, w', hrun, ⟨fun x hx => ?_, ?_⟩, hgrow, hat⟩
  · rcases List.mem_append.1 hx with hx | hx
    · exact h.1 x hx
    · exact hW x hx
  · rw [List.length_append, List.flatMap_append]; exact hown

theorem Lg.appendL {T : TypeId} {w : World} {X : Nat} {c : LogC} {v : Value} {L : List RecD} (h : Lg T w X c v L) (M : List RecD) (o : Option Addr) (n c0 : Nat) (hM : Gs w (.slice o n c0) M) (h1 : 1 ≤ n) (hm : n ≤ 1000) (hl : L.length + n ≤ 10000) :
    ∃ gb cap w3, (Builtin.append_ #[28, 28] 28 #[v, .slice o n c0]).run Tryd.prog w = .ok (.slice (some ⟨gb, 0, none⟩) (L.length + n) cap) w3 ∧
      (w3.cell? ⟨X, 5, none⟩ = some v ∧ w3.frozen? ⟨X, 5, none⟩ = false) ∧
      Lg T (w3.setCell ⟨X, 5, none⟩ (.slice (some ⟨gb, 0, none⟩) (L.length + n) cap)) X c (.slice (some ⟨gb, 0, none⟩) (L.length + n) cap) (L ++ M) ∧
      Ext (LogC.F X v) w (LogC.F X (.slice (some ⟨gb, 0, none⟩) (L.length + n) cap)) (w3.setCell ⟨X, 5, none⟩ (.slice (some ⟨gb, 0, none⟩) (L.length + n) cap)) := by
  have hnM : n = M.length := by
    obtain ⟨_, _, _, he, _⟩ := hM
    simp only [Value.slice.injEq] at he
    exact he.2.1
  obtain ⟨gb, cap, w3, hrun, ho3, hg3, hat⟩ := h.own.appendL M o n c0 hM h1 (Nat.zero_le _) (by omega) hm 28
  obtain ⟨⟨k1, k2, _⟩, hlg, hx⟩ := h.put (Below.refl _ _) hg3 ho3 (fun b e => by
    have e' : gb = b := by simpa [Value.ownBlock] using e
    rcases hat with h1 | h1
    · exact .inl (by rw [← e']; exact h1)
    · exact .inr (by rw [← e', h1]; exact Nat.le_refl _)) (by rw [List.length_append]; omega)
  exact ⟨gb, cap, w3, hrun, ⟨k1, k2⟩, hlg, hx⟩

/-- what a block reads as -/
theorem readBlk_kinds {b : List Int} (hB : IsB b) (hl : b.length = 256) :
    readBlk b = (0, [], 105) ∨ readBlk b = (0, [], 0) ∨ ∃ n m, readBlk b = (n, m, 0) ∧ blkB n m = b ∧ 1 ≤ n ∧ n ≤ 1073741824 ∧ 1 ≤ m.length ∧ m.length ≤ 6 ∧ ∀ r ∈ m, okR r = true ∧ r.W := by
  cases hz : allZ b with
  | true =>
    right; left
    unfold readBlk
    rw [if_neg (by simp [hl]), if_pos hz]
  | false =>
    rcases readBlk_or hB hl hz with h | h
    · exact .inl h
    · exact .inr (.inr h)
theorem blkRead {ea : Nat → Addr} (v : Value) (b : List Int) (w : World) (hv : Bs w v b) (hs : E3 ea w) (hE : w.cell? ⟨2, 0, none⟩ = some (.iface 124 (.pointer (some (ea 4))))) (hl : b.length = 256) :
    Calls Tryd.prog 15 #[v] w fun en w' => (∃ o cap, en = .returned (.tuple #[.int .i64 (readBlk b).1, .slice o (readBlk b).2.1.length cap, eC ea (readBlk b).2.2]) ∧ Og w.heap.size w' (.slice o (readBlk b).2.1.length cap) (readBlk b).2.1) ∧ Below w.heap.size w w' := by
  cases hz : allZ b with
  | true =>
    have e : readBlk b = (0, [], 0) := by
      unfold readBlk
      rw [if_neg (by simp [hl]), if_pos hz]
    refine (blkReadZero v b w hv hl hz).mono ?_
    rintro en w' ⟨he, rfl⟩
    rw [e]
    exact ⟨⟨none, 0, he, Og.nil⟩, Below.refl _ _⟩
  | false =>
    refine (blkReadLong v b w hv hs _ _ hE hl hz).mono ?_
    rintro en w' ⟨hb, h⟩
    rcases h with ⟨o, cap, h0, he, ho⟩ | ⟨h, he⟩
    · rw [h0]
      exact ⟨⟨o, cap, he, ho⟩, hb⟩
    · rw [h]
      exact ⟨⟨none, 0, he, Og.nil⟩, hb⟩

/-- Open, from the k-th of its blocks on: the records; or the block that can't be -/
def openGo (d : DiskD) (first epoch : Int) : Nat → Nat → Int → List RecD → List RecD ⊕ Nat
  | 0, _, _, acc => .inl acc
  | n + 1, k, ahead, acc =>
    if (readBlk (readL d (first + k))).2.2 ≠ 0 ∨ ((readBlk (readL d (first + k))).2.1 ≠ [] ∧ epoch ≤ (readBlk (readL d (first + k))).1) then .inr k
    else if (readBlk (readL d (first + k))).2.1 = [] ∨ (readBlk (readL d (first + k))).1 < ahead then .inl acc
    else if (readBlk (readL d (first + k))).2.1.length < 6 then .inl (acc ++ (readBlk (readL d (first + k))).2.1)
    else openGo d first epoch n (k + 1) (readBlk (readL d (first + k))).1 (acc ++ (readBlk (readL d (first + k))).2.1)

/-- the errors that a log needs -/
structure W5 (ea : Nat → Addr) (w : World) : Prop where
  d : D3 ea w
  c : w.cell? ⟨6, 0, none⟩ = some (eV ea 3)
  b : w.cell? ⟨2, 0, none⟩ = some (.iface 124 (.pointer (some (ea 4))))
  l : w.cell? ⟨5, 0, none⟩ = some (.iface 124 (.pointer (some (ea 7))))
theorem W5.below {ea : Nat → Addr} {w w' : World} (h : W5 ea w) (hb : Below w.heap.size w w') : W5 ea w' := ⟨h.d.below hb, (hb.cell (Below.lt h.c)).trans h.c, (hb.cell (Below.lt h.b)).trans h.b, (hb.cell (Below.lt h.l)).trans h.l⟩
theorem W5.e3 {ea : Nat → Addr} {w : World} (h : W5 ea w) : E3 ea w := ⟨h.d.r, h.d.s, h.c⟩
theorem Sen.w5 {ea : Nat → Addr} {w : World} (h : Sen ea w) : W5 ea w := ⟨h.d3, h.cell 3 (by decide), h.cell 4 (by decide), h.cell 7 (by decide)⟩

theorem openGo_bad {d : DiskD} {first epoch : Int} {n k : Nat} {ahead : Int} {acc : List RecD} (h : (readBlk (readL d (first + k))).2.2 ≠ 0 ∨ ((readBlk (readL d (first + k))).2.1 ≠ [] ∧ epoch ≤ (readBlk (readL d (first + k))).1)) : openGo d first epoch (n + 1) k ahead acc = .inr k := by rw [openGo, if_pos h]
theorem openGo_stop {d : DiskD} {first epoch : Int} {n k : Nat} {ahead : Int} {acc : List RecD} (h : ¬ ((readBlk (readL d (first + k))).2.2 ≠ 0 ∨ ((readBlk (readL d (first + k))).2.1 ≠ [] ∧ epoch ≤ (readBlk (readL d (first + k))).1))) (h2 : (readBlk (readL d (first + k))).2.1 = [] ∨ (readBlk (readL d (first + k))).1 < ahead) : openGo d first epoch (n + 1) k ahead acc = .inl acc := by rw [openGo, if_neg h, if_pos h2]
theorem openGo_last {d : DiskD} {first epoch : Int} {n k : Nat} {ahead : Int} {acc : List RecD} (h : ¬ ((readBlk (readL d (first + k))).2.2 ≠ 0 ∨ ((readBlk (readL d (first + k))).2.1 ≠ [] ∧ epoch ≤ (readBlk (readL d (first + k))).1))) (h2 : ¬ ((readBlk (readL d (first + k))).2.1 = [] ∨ (readBlk (readL d (first + k))).1 < ahead)) (h3 : (readBlk (readL d (first + k))).2.1.length < 6) : openGo d first epoch (n + 1) k ahead acc = .inl (acc ++ (readBlk (readL d (first + k))).2.1) := by rw [openGo, if_neg h, if_neg h2, if_pos h3]
theorem openGo_next {d : DiskD} {first epoch : Int} {n k : Nat} {ahead : Int} {acc : List RecD} (h : ¬ ((readBlk (readL d (first + k))).2.2 ≠ 0 ∨ ((readBlk (readL d (first + k))).2.1 ≠ [] ∧ epoch ≤ (readBlk (readL d (first + k))).1))) (h2 : ¬ ((readBlk (readL d (first + k))).2.1 = [] ∨ (readBlk (readL d (first + k))).1 < ahead)) (h3 : ¬ (readBlk (readL d (first + k))).2.1.length < 6) : openGo d first epoch (n + 1) k ahead acc = openGo d first epoch n (k + 1) (readBlk (readL d (first + k))).1 (acc ++ (readBlk (readL d (first + k))).2.1) := by rw [openGo, if_neg h, if_neg h2, if_neg h3]

/-- a log that lies in new blocks alone, all else as it was -/
structure OB (w wr : World) (X : Nat) (v : Value) : Prop where
  bel : Below w.heap.size w wr
  low : ∀ b, LogC.F X v b → w.heap.size ≤ b
theorem OB.below {w wr w' : World} {X : Nat} {v : Value} (h : OB w wr X v) (hb : Below wr.heap.size wr w') : OB w w' X v := ⟨h.bel.trans (hb.mono h.bel.size), h.low⟩
theorem OB.log {w wr w' : World} {X : Nat} {v v' : Value} (h : OB w wr X v) (hx : Ext (LogC.F X v) wr (LogC.F X v') w') : OB w w' X v' := ⟨h.bel.trans (hx.below h.low h.bel.size), hx.low h.low h.bel.size⟩
theorem OB.done {w wr : World} {X : Nat} {v : Value} (h : OB w wr X v) (n : Int) : OB w (wr.setCell ⟨X, 6, none⟩ (.int .i64 n)) X v := ⟨h.bel.setCell (p := ⟨X, 6, none⟩) (h.low X (.inl rfl)) _, h.low⟩

/-- what Open leaves -/
def OpPost (ea : Nat → Addr) (w0 w : World) (H : Nat) (c : LogC) (d : DiskD) (g : DG) (R : List RecD ⊕ Nat) (e : Ending) (w' : World) : Prop :=
  (∃ L X v, R = .inl L ∧ e = .returned (.tuple #[.pointer (some ⟨X, 0, none⟩), .nilIface]) ∧ WL w0 X H w' { c with done := L.length } v L d g ∧ OB w w' X v) ∨
  (∃ k a, R = .inr k ∧ e = .returned (.tuple #[.pointer none, .iface 102 (.pointer (some ⟨a, 0, none⟩))]) ∧ ErV ea w' (.iface 102 (.pointer (some ⟨a, 0, none⟩))) (.at_ k 7) ∧ Dk w' H d g ∧ Below w0.heap.size w0 w')

theorem atErr (ea : Nat → Addr) (W : World) (k : Int) : ErV ea (W.alloc (.cells #[.int .i64 k, .iface 124 (.pointer (some (ea 7)))] 104)) (.iface 102 (.pointer (some ⟨W.heap.size, 0, none⟩))) (.at_ k 7) := by
  have hh := heap_alloc_new W (.cells #[.int .i64 k, eV ea 7] 104)
  refine ⟨by decide, W.heap.size, 0, rfl, ?_, ?_⟩
  · exact cell_of_row _ _ 0 _ _ (0, 0) hh
  · exact cell_of_row _ _ (0 + 1) _ _ (0, 0) hh
theorem OpPost.bad {ea : Nat → Addr} {w0 w w1 : World} {X H : Nat} {c : LogC} {v : Value} {acc : List RecD} {d : DiskD} {g : DG} {R : List RecD ⊕ Nat} {k : Nat} (h : WL w0 X H w1 c v acc d g) (hR : R = .inr k) :
    OpPost ea w0 w H c d g R (.returned (.tuple #[.pointer none, .iface 102 (.pointer (some ⟨w1.heap.size, 0, none⟩))])) (w1.alloc (.cells #[.int .i64 k, .iface 124 (.pointer (some (ea 7)))] 104)).drew := by
  have hw := h.below ((Below.refl _ _).alloc (Nat.le_refl _) (.cells #[.int .i64 k, .iface 124 (.pointer (some (ea 7)))] 104))
  have hw2 := hw.below ((Below.refl _ _).drew)
  exact .inr ⟨k, _, hR, rfl, (atErr ea w1 k).below ((Below.refl _ _).drew), hw2.dk, hw2.bel⟩

set_option maxRecDepth 20000 in
set_option maxHeartbeats 4000000 in
theorem walOpen {ea : Nat → Addr} {w0 w : World} {H : Nat} {d : DiskD} {g : DG} (hb0 : Below w0.heap.size w0 w) (hd : Dk w H d g) (hlow : ∀ b, g.F H d.l.length b → w0.heap.size ≤ b) (hs : W5 ea w0) (first blocks : Nat) (base reset epoch : Int) (hf : first ≤ 1000) (hbl : blocks ≤ 1000) (hba0 : 0 ≤ base) (hba1 : base ≤ 2000000000)
    (hrd : ∀ k : Nat, k < blocks → readC d ((first : Int) + k) = 0 ∧ (readL d ((first : Int) + k)).length = 256) :
    Calls Tryd.prog 33 #[.pointer (some ⟨H, 0, none⟩), .int .i64 first, .int .i64 blocks, .int .i64 base, .int .i64 reset, .int .i64 epoch] w fun e w' => OpPost ea w0 w H ⟨.pointer (some ⟨H, 0, none⟩), first, blocks, base, epoch, 0⟩ d g (openGo d first epoch blocks 0 reset []) e w' := by
  have hW1 := WL.new hb0 hd hlow ⟨.pointer (some ⟨H, 0, none⟩), first, blocks, base, epoch, 0⟩ ⟨hba0, hba1, by dsimp only; omega, by dsimp only; omega, by dsimp only; omega, by dsimp only; omega⟩ rfl
  have HNW := Lib.hid (walNew (.pointer (some ⟨H, 0, none⟩)) first blocks base epoch w _ rfl)
  have HW1 := Lib.hid hW1
  have HO1 : Hid (OB w (w.alloc (.cells (headCs ⟨.pointer (some ⟨H, 0, none⟩), first, blocks, base, epoch, 0⟩ (.slice none 0 0)) 97)) w.heap.size (.slice none 0 0)) := Lib.hid ⟨(Below.refl _ _).alloc (Nat.le_refl _) _, fun b hb => by
    rcases hb with rfl | h
    · exact Nat.le_refl _
    · simp [Value.ownBlock] at h⟩
  have HS := Lib.hid hs
  have HRD := Lib.hid hrd
  obtain ⟨R, hR⟩ : ∃ R, R = openGo d first epoch blocks 0 reset [] := ⟨_, rfl⟩
  rw [← hR]
  have HR := Lib.hid hR
  obtain ⟨c, hc⟩ : ∃ c : LogC, c = ⟨.pointer (some ⟨H, 0, none⟩), first, blocks, base, epoch, 0⟩ := ⟨_, rfl⟩
  rw [← hc] at HW1 HNW HO1 ⊢
  obtain ⟨X, hX⟩ : ∃ X, X = w.heap.size := ⟨_, rfl⟩
  have HXE := Lib.hid hX
  rw [← hX] at HW1 HNW
  have HO1' : Hid (OB w (w.alloc (.cells (headCs c (.slice none 0 0)) 97)) X (.slice none 0 0)) := Lib.hid (by rw [hX]; exact HO1.out)
  clear HO1
  clear hW1 hs hrd hR hc hb0 hd hlow hX hba0 hba1
  go_enter Tryd.func33, Tryd.ntmps33
  go_wp2_with fail
  refine HNW.out.mono ?_
  clear HNW
  rintro e w1 ⟨rfl, rfl⟩
  generalize w.alloc (.cells (headCs c (.slice none 0 0)) 97) = w1 at HW1 HO1' ⊢
  go_wp2_with fail
  go_loopw [15, 30] (fun s i wr => ∃ k : Nat, ∃ ahead : Int, s = .int .i64 ahead ∧ i = .int .i64 k ∧ k ≤ blocks ∧ ∃ v acc, acc.length ≤ 6 * k ∧ Hid (WL w0 X H wr c v acc d g) ∧ Hid (OB w wr X v) ∧ Hid (R = openGo d first epoch (blocks - k) k ahead acc)) (fun _ i _ => blocks - (intOf i).toNat)
  case atStart => exact ⟨0, reset, rfl, rfl, by omega, .slice none 0 0, [], by simp, HW1, HO1', HR⟩
  case round =>
    obtain ⟨k, ahead, rfl, rfl, hk, v, acc, hal, HWR, HOB, HRR⟩ := hrel
    clear HW1 HR HO1'
    by_cases hkb : (k : Int) < blocks
    · obtain ⟨hrc, hrl⟩ := HRD.out k (by omega)
      have hex : blocks - k = (blocks - (k + 1)) + 1 := by omega
      rw [hex] at HRR
      have hs1 := HS.out.below HWR.out.bel
      have hread := dskRead HWR.out.dk hs1.d (first + k) (by omega) (by omega)
      rw [hrc, eC_zero] at hread
      have HREAD := Lib.hid hread
      have HRL := Lib.hid hrl
      obtain ⟨B, hB⟩ : ∃ B, B = readL d ((first : Int) + k) := ⟨_, rfl⟩
      rw [← hB] at HREAD HRL
      have HB := Lib.hid hB
      clear hrc hrl hex hs1 hread hB
      go_wp2_with fail
      refine HREAD.out.mono ?_
      clear HREAD
      rintro e w2 ⟨⟨bv, rfl, hob⟩, hb2⟩
      have hbs := hob.bs
      have HW2 := Lib.hid (HWR.out.below hb2)
      have HO2 := Lib.hid (HOB.out.below hb2)
      have hs2 := HS.out.below HW2.out.bel
      have hbr := blkRead bv B w2 hbs hs2.e3 hs2.b HRL.out
      have hkinds := readBlk_kinds hbs.1 HRL.out
      obtain ⟨_, ob, cb, rfl, hcb1, hcb2, _, _⟩ := hbs
      rw [HRL.out] at hbr hcb1 ⊢
      unfold maxLen at hcb2
      clear hb2 hob hs2 HWR HOB
      have hk1 : readBlk (readL d ((first : Int) + k)) = readBlk B := by rw [← HB.out]
      rcases hkinds with hk0 | hk0 | ⟨nn, m, hk0, hbb, k1, k2, k3, k4, k5⟩
      · rw [hk0] at hbr hk1
        dsimp only at hbr
        rw [show eC ea 105 = .iface 124 (.pointer (some (ea 4))) from rfl] at hbr
        have HBR := Lib.hid hbr
        have HRI : Hid (R = .inr k) := Lib.hid (by rw [HRR.out, openGo_bad (by rw [hk1]; simp)])
        clear hbr hk0 hk1 HRR HB
        go_wp2_with fail
        refine HBR.out.mono ?_
        clear HBR
        rintro e w3 ⟨⟨o3, c3, rfl, ho3⟩, hb3⟩
        have HW3 := Lib.hid (HW2.out.below hb3)
        have HO3 := Lib.hid (HO2.out.below hb3)
        have hl := (HS.out.below HW3.out.bel).l
        clear ho3 hb3 HW2
        go_wp2_with fail
        go_region_law (fail)
        all_goals
          go_wp2_with fail
          go_ret2
          exact OpPost.bad HW3.out HRI.out
      · rw [hk0] at hbr hk1
        dsimp only at hbr
        rw [eC_zero] at hbr
        have HBR := Lib.hid hbr
        have HRI : Hid (R = .inl acc) := Lib.hid (by rw [HRR.out, openGo_stop (by rw [hk1]; simp) (by rw [hk1]; exact .inl rfl)])
        clear hbr hk0 hk1 HRR HB
        go_wp2_with fail
        refine HBR.out.mono ?_
        clear HBR
        rintro e w3 ⟨⟨o3, c3, rfl, ho3⟩, hb3⟩
        have HW3 := Lib.hid (HW2.out.below hb3)
        have HO3 := Lib.hid (HO2.out.below hb3)
        clear ho3 hb3 HW2
        obtain ⟨_, _, _, _, _, c5, c6, hfz⟩ := HW3.out.lg.cells
        obtain ⟨ov, cv, rfl, hv1, hv2, _, _⟩ := HW3.out.lg.own.form
        have hf6 := hfz 6
        unfold maxLen at hv2
        clear hfz
        go_wp2_with fail
        go_ret2
        exact .inl ⟨acc, X, _, HRI.out, rfl, HW3.out.done _, HO3.out.done _⟩
      · rw [hk0] at hbr hk1
        dsimp only at hbr
        rw [eC_zero] at hbr
        have HK5 := Lib.hid k5
        have hne : m ≠ [] := fun e => by subst e; simp at k3
        obtain ⟨ml, hml⟩ : ∃ ml, ml = m.length := ⟨_, rfl⟩
        rw [← hml] at hbr k3 k4
        have HML := Lib.hid hml
        have hm0 : ¬ ((ml : Int) = 0) := by omega
        have hm1 : ((ml : Int) == 0) = false := by simp; omega
        have HBR := Lib.hid hbr
        have HK1 := Lib.hid hk1
        have HNE := Lib.hid hne
        clear hbr hk0 hk1 HB hbb k5 hne hml
        by_cases hbad : epoch ≤ nn
        · have HRI : Hid (R = .inr k) := Lib.hid (by rw [HRR.out, openGo_bad (by rw [HK1.out]; exact .inr ⟨HNE.out, hbad⟩)])
          clear HRR HK1
          go_wp2_with fail
          refine HBR.out.mono ?_
          clear HBR
          rintro e w3 ⟨⟨o3, c3, rfl, ho3⟩, hb3⟩
          have HW3 := Lib.hid (HW2.out.below hb3)
          have HO3 := Lib.hid (HO2.out.below hb3)
          have hl := (HS.out.below HW3.out.bel).l
          clear ho3 hb3 HW2
          go_wp2_with fail
          go_region_law (fail)
          all_goals
            go_wp2_with fail
            go_ret2
            exact OpPost.bad HW3.out HRI.out
        · have HC1 : Hid (¬ ((readBlk (readL d ((first : Int) + k))).2.2 ≠ 0 ∨ ((readBlk (readL d ((first : Int) + k))).2.1 ≠ [] ∧ epoch ≤ (readBlk (readL d ((first : Int) + k))).1))) := Lib.hid (by
            rw [HK1.out]
            intro h
            rcases h with h | h
            · exact h rfl
            · exact hbad h.2)
          by_cases hst : nn < ahead
          · have HRI : Hid (R = .inl acc) := Lib.hid (by rw [HRR.out, openGo_stop HC1.out (by rw [HK1.out]; exact .inr hst)])
            clear HRR HK1 HC1
            go_wp2_with fail
            refine HBR.out.mono ?_
            clear HBR
            rintro e w3 ⟨⟨o3, c3, rfl, ho3⟩, hb3⟩
            have HW3 := Lib.hid (HW2.out.below hb3)
            have HO3 := Lib.hid (HO2.out.below hb3)
            clear ho3 hb3 HW2
            obtain ⟨_, _, _, _, _, c5, c6, hfz⟩ := HW3.out.lg.cells
            obtain ⟨ov, cv, rfl, hv1, hv2, _, _⟩ := HW3.out.lg.own.form
            have hf6 := hfz 6
            unfold maxLen at hv2
            clear hfz
            go_wp2_with fail
            go_ret2
            exact .inl ⟨acc, X, _, HRI.out, rfl, HW3.out.done _, HO3.out.done _⟩
          · have HC2 : Hid (¬ ((readBlk (readL d ((first : Int) + k))).2.1 = [] ∨ (readBlk (readL d ((first : Int) + k))).1 < ahead)) := Lib.hid (by
              rw [HK1.out]
              intro h
              rcases h with h | h
              · exact HNE.out h
              · exact hst h)
            go_wp2_with fail
            refine HBR.out.mono ?_
            clear HBR
            rintro e w3 ⟨⟨o3, c3, rfl, ho3⟩, hb3⟩
            have HW3 := Lib.hid (HW2.out.below hb3)
            have HO3 := Lib.hid (HO2.out.below hb3)
            have hg3 := ho3.gs
            obtain ⟨gb, cap, w4, hrun, ⟨k5, k6⟩, hlg, hx⟩ := HW3.out.lg.appendL m o3 ml c3 hg3 (by omega) (by omega) (by omega)
            have hw5 := HW3.out.log hlg hx (fun r hr => by
              rcases List.mem_append.1 hr with h | h
              · exact HW3.out.ok r h
              · exact (HK5.out r h).1)
            obtain ⟨_, _, _, _, _, c5, _, _⟩ := HW3.out.lg.cells
            obtain ⟨W5, hW5⟩ : ∃ W5, W5 = w4.setCell ⟨X, 5, none⟩ (.slice (some ⟨gb, 0, none⟩) (acc.length + ml) cap) := ⟨_, rfl⟩
            rw [← hW5] at hw5
            have HW5 := Lib.hid hw5
            have HO5 : Hid (OB w W5 X (.slice (some ⟨gb, 0, none⟩) (acc.length + ml) cap)) := Lib.hid (by rw [hW5]; exact HO3.out.log hx)
            have HWE := Lib.hid hW5
            have HAL : Hid ((acc ++ m).length = acc.length + ml) := Lib.hid (by rw [List.length_append, HML.out])
            clear ho3 hb3 hg3 HW2 hlg hx hw5 hW5
            by_cases h6 : (ml : Int) < 6
            · have HRI : Hid (R = .inl (acc ++ m)) := Lib.hid (by rw [HRR.out, openGo_last HC1.out HC2.out (by rw [HK1.out]; show m.length < 6; rw [← HML.out]; omega), HK1.out])
              clear HRR HK1 HC1 HC2
              go_upto_region 14 with (at_builtin; refine Lib.wpList_append_run _ rfl _ _ _ _ rfl _ _ rfl rfl _ _ hrun ?_)
              rw [← HWE.out]
              clear c5 k5 k6 hrun HWE HW3
              generalize (Value.slice (some ⟨gb, 0, none⟩) (acc.length + ml) cap) = v5 at HW5 HO5 ⊢
              obtain ⟨_, _, _, _, _, c5, c6, hfz⟩ := HW5.out.lg.cells
              obtain ⟨ov, cv, rfl, hv1, hv2, _, _⟩ := HW5.out.lg.own.form
              have hf6 := hfz 6
              unfold maxLen at hv2
              clear hfz
              go_wp2_with fail
              go_ret2
              exact .inl ⟨acc ++ m, X, _, HRI.out, rfl, by
                have h := HW5.out.done (((acc ++ m).length : Nat) : Int)
                have e : (((acc ++ m).length : Nat) : Int) = (acc.length : Int) + (m.length : Int) := by rw [List.length_append]; omega
                have ho := HO5.out.done (((acc ++ m).length : Nat) : Int)
                rw [e] at h ho ⊢
                exact ⟨h, ho⟩⟩
            · have HRI := Lib.hid (HRR.out.trans (openGo_next HC1.out HC2.out (by rw [HK1.out]; show ¬ m.length < 6; rw [← HML.out]; omega)))
              rw [HK1.out] at HRI
              clear HRR HK1 HC1 HC2
              go_upto_region 14 with (at_builtin; refine Lib.wpList_append_run _ rfl _ _ _ _ rfl _ _ rfl rfl _ _ hrun ?_)
              rw [← HWE.out]
              clear c5 k5 k6 hrun HWE HW3
              go_wp2_with fail
              go_roundw
              case rel => exact ⟨k + 1, nn, rfl, by go_num, by omega, _, acc ++ m, by rw [HAL.out]; omega, HW5, HO5, HRI⟩
              case measure => simp [intOf]; omega
    · obtain rfl : k = blocks := by omega
      have HRI : Hid (R = .inl acc) := Lib.hid (by rw [HRR.out, Nat.sub_self]; rfl)
      obtain ⟨_, _, _, _, _, c5, c6, hfz⟩ := HWR.out.lg.cells
      obtain ⟨ov, cv, rfl, hv1, hv2, _, _⟩ := HWR.out.lg.own.form
      have hf6 := hfz 6
      unfold maxLen at hv2
      clear hfz
      clear HRR
      go_wp2_with fail
      go_ret2
      exact .inl ⟨acc, X, _, HRI.out, rfl, HWR.out.done _, HOB.out.done _⟩

/-- the disk holds these records, fast, nothing else: each block with its boot -/
structure HoldsD (d : DiskD) (f blocks : Nat) (L : List RecD) (ep : Nat → Int) (top : Int) : Prop where
  on : OnD d
  dry : ∀ s, (d.sec s).loose = []
  room : f + blocks ≤ d.l.length
  fit : blocksN L.length ≤ blocks
  ok : ∀ r ∈ L, okR r = true ∧ r.W
  has : ∀ k, k < blocksN L.length → (d.sec (f + k)).fast = blkB (ep k) (chunk L k)
  free : ∀ k, blocksN L.length ≤ k → k < blocks → (d.sec (f + k)).fast = List.replicate 256 0
  e1 : ∀ k, k < blocksN L.length → 1 ≤ ep k ∧ ep k ≤ top
  mono : ∀ j k, j ≤ k → k < blocksN L.length → ep j ≤ ep k
theorem HoldsD.top {d : DiskD} {f blocks : Nat} {L : List RecD} {ep : Nat → Int} {t : Int} (h : HoldsD d f blocks L ep t) (s : Nat) : topS (d.sec s) = (d.sec s).fast := by unfold topS; rw [h.dry s]; rfl
theorem HoldsD.mono_top {d : DiskD} {f blocks : Nat} {L : List RecD} {ep : Nat → Int} {t t' : Int} (h : HoldsD d f blocks L ep t) (ht : t ≤ t') : HoldsD d f blocks L ep t' := ⟨h.on, h.dry, h.room, h.fit, h.ok, h.has, h.free, fun k hk => ⟨(h.e1 k hk).1, Int.le_trans (h.e1 k hk).2 ht⟩, h.mono⟩
theorem HoldsD.read {d : DiskD} {f blocks : Nat} {L : List RecD} {ep : Nat → Int} {t : Int} (h : HoldsD d f blocks L ep t) (k : Nat) (hk : k < blocks) : readC d ((f : Int) + k) = 0 ∧ readL d ((f : Int) + k) = (d.sec (f + k)).fast := by
  have hr := h.room
  have hh : d.has ((f : Int) + k) = true := by simp [DiskD.has]; omega
  have et : ((f : Int) + (k : Int)).toNat = f + k := by omega
  rw [← h.top (f + k)]
  refine ⟨by simp [readC, h.on.off, hh], ?_⟩
  unfold readL
  rw [h.on.off, hh, et]
  rfl
theorem HoldsD.new (n : Int) (f blocks : Nat) (hr : f + blocks ≤ newN n) (ep : Nat → Int) (t : Int) : HoldsD (newD n) f blocks [] ep t := by
  have hs : ∀ s, (newD n).sec s = sec0 := fun s => by
    unfold DiskD.sec newD
    rw [List.getD_eq_getElem?_getD, List.getElem?_replicate]
    split <;> rfl
  refine ⟨OnD.new n, fun s => by rw [hs]; rfl, by rw [newD_len]; exact hr, by simp [blocksN], fun r hr => by simp at hr, fun k hk => by simp [blocksN] at hk, fun k _ _ => by rw [hs]; rfl, fun k hk => by simp [blocksN] at hk, fun j k _ hk => by simp [blocksN] at hk⟩
theorem chunk_app (L M : List RecD) (k : Nat) (hk : 6 * k + 6 ≤ L.length) : chunk (L ++ M) k = chunk L k := by
  unfold chunk
  rw [List.take_append_of_le_length hk]
theorem take_chunk (L : List RecD) (k : Nat) : L.take (6 * k) ++ chunk L k = L.take (6 * (k + 1)) := by
  unfold chunk
  have h := List.take_append_drop (6 * k) (L.take (6 * k + 6))
  rw [List.take_take, Nat.min_eq_left (by omega)] at h
  rw [h]
  congr 1

theorem readBlk_zeros0 : readBlk (List.replicate 256 0) = (0, [], 0) := by
  unfold readBlk
  rw [if_neg (by rw [List.length_replicate]; exact fun h => h rfl), if_pos (by rw [allZ_iff]; intro x hx; exact (List.mem_replicate.1 hx).2)]
/-- Open reads what the disk holds -/
theorem HoldsD.go {d : DiskD} {f blocks : Nat} {L : List RecD} {ep : Nat → Int} {t epoch : Int} (h : HoldsD d f blocks L ep t) (ht : t ≤ 1073741824) (he : t < epoch) : ∀ (n k : Nat) (ahead : Int), n = blocks - k → k ≤ blocksN L.length → (∀ j, k ≤ j → j < blocksN L.length → ahead ≤ ep j) → openGo d f epoch n k ahead (L.take (6 * k)) = .inl L
  | 0, k, ahead, hn, hk, ha => by
    have := h.fit
    rw [openGo, List.take_of_length_le (by unfold blocksN at *; omega)]
  | n + 1, k, ahead, hn, hk, ha => by
    have hkb : k < blocks := by omega
    obtain ⟨_, hr⟩ := h.read k hkb
    by_cases hlt : k < blocksN L.length
    · have hcl := chunk_len L k
      have hlen : 1 ≤ (chunk L k).length ∧ (chunk L k).length ≤ 6 := by rw [hcl]; unfold blocksN at hlt; omega
      obtain ⟨p1, p2⟩ := h.e1 k hlt
      have hb : readBlk (readL d ((f : Int) + k)) = (ep k, chunk L k, 0) := by
        rw [hr, h.has k hlt]
        exact readBlk_back _ _ hlen.1 hlen.2 p1 (by omega) (fun r hr => h.ok r (chunk_mem hr))
      have hne : chunk L k ≠ [] := fun e => by rw [e] at hlen; simp at hlen
      have c1 : ¬ ((readBlk (readL d ((f : Int) + k))).2.2 ≠ 0 ∨ ((readBlk (readL d ((f : Int) + k))).2.1 ≠ [] ∧ epoch ≤ (readBlk (readL d ((f : Int) + k))).1)) := by rw [hb]; dsimp only; omega
      have c2 : ¬ ((readBlk (readL d ((f : Int) + k))).2.1 = [] ∨ (readBlk (readL d ((f : Int) + k))).1 < ahead) := by
        rw [hb]
        have := ha k (Nat.le_refl _) hlt
        intro h
        rcases h with h | h
        · exact hne h
        · dsimp only at h; omega
      by_cases h6 : (chunk L k).length < 6
      · rw [openGo_last c1 c2 (by rw [hb]; exact h6), hb]
        try dsimp only
        rw [take_chunk, List.take_of_length_le (by rw [hcl] at h6; omega)]
      · rw [openGo_next c1 c2 (by rw [hb]; exact h6), hb]
        try dsimp only
        rw [take_chunk]
        exact HoldsD.go h ht he n (k + 1) (ep k) (by omega) (by omega) fun j hj hj2 => h.mono k j (by omega) hj2
    · have hb : readBlk (readL d ((f : Int) + k)) = (0, [], 0) := by rw [hr, h.free k (by omega) hkb, readBlk_zeros0]
      rw [openGo_stop (by rw [hb]; simp) (by rw [hb]; exact .inl rfl), List.take_of_length_le (by unfold blocksN at *; omega)]
theorem HoldsD.open_ {d : DiskD} {f blocks : Nat} {L : List RecD} {ep : Nat → Int} {t epoch reset : Int} (h : HoldsD d f blocks L ep t) (ht : t ≤ 1073741824) (he : t < epoch) (hr : reset ≤ 1) : openGo d f epoch blocks 0 reset [] = .inl L :=
  HoldsD.go h ht he blocks 0 reset (by omega) (by omega) fun j _ hj => Int.le_trans hr (h.e1 j hj).1
/-- Flush -/
theorem HoldsD.flush {d : DiskD} {f blocks : Nat} {L M : List RecD} {ep : Nat → Int} {t : Int} (h : HoldsD d f blocks L ep t) (c : LogC) (hf : c.first = f) (hd : c.done = L.length) (h1 : 1 ≤ c.epoch) (ht : t ≤ c.epoch) (hM : ∀ r ∈ M, okR r = true ∧ r.W) (hfit : blocksN (L ++ M).length ≤ blocks) :
    (flushD c (L ++ M) d).2 = 0 ∧ doneC c (L ++ M) d = { c with done := (L ++ M).length } ∧ ∃ ep', HoldsD (flushD c (L ++ M) d).1 f blocks (L ++ M) ep' c.epoch := by
  have hon := flushD_on c f hf (L ++ M) d h.on (by rw [hd]; omega) (by rw [hd, List.length_append]; omega) (by have := h.room; omega)
  refine ⟨hon.1, hon.2.1, ?_⟩
  have hdn : c.done.toNat = L.length := by rw [hd]; rfl
  have hokA : ∀ r ∈ L ++ M, okR r = true ∧ r.W := fun r hr => (List.mem_append.1 hr).elim (h.ok r) (hM r)
  by_cases hne : M = []
  · subst hne
    have e : flushD c (L ++ []) d = (d, 0) := by unfold flushD; rw [if_pos (by rw [hd]; simp)]
    rw [e, List.append_nil]
    exact ⟨ep, h.mono_top ht⟩
  · have hml : 0 < M.length := List.length_pos_iff.2 hne
    have e : flushD c (L ++ M) d = flushGo f c.epoch (L ++ M) (blocksN (L ++ M).length - L.length / 6) (L.length / 6) d := by
      unfold flushD
      rw [if_neg (by rw [hd, List.length_append]; omega), hf, hdn]
    have hb : L.length / 6 ≤ blocksN (L ++ M).length := by rw [List.length_append]; unfold blocksN; omega
    obtain ⟨_, fl⟩ := flushGo_on f c.epoch (L ++ M) (blocksN (L ++ M).length - L.length / 6) (L.length / 6) d h.on (by have := h.room; omega)
    rw [e]
    have hnb : blocksN L.length ≤ L.length / 6 + 1 := by unfold blocksN; omega
    refine ⟨fun k => if L.length / 6 ≤ k then c.epoch else ep k, fl.on, fun s => by rw [fl.sec], by rw [fl.len]; exact h.room, hfit, hokA, fun k hk => ?_, fun k hk hkb => ?_, fun k hk => ?_, fun j k hj hk => ?_⟩
    · rw [fl.sec]
      try dsimp only
      by_cases hlt : L.length / 6 ≤ k
      · rw [if_pos (by omega), if_pos hlt, show f + k - f = k from by omega]
      · rw [if_neg (by omega), if_neg hlt, h.top, h.has k (by unfold blocksN; omega), chunk_app L M k (by omega)]
    · rw [fl.sec]
      try dsimp only
      rw [if_neg (by omega), h.top, h.free k (by rw [List.length_append] at hk; unfold blocksN at *; omega) hkb]
    · try dsimp only
      split
      · omega
      · have := h.e1 k (by unfold blocksN; omega)
        omega
    · try dsimp only
      split
      · split
        · omega
        · omega
      · have h2 := h.e1 j (by unfold blocksN; omega)
        split
        · omega
        · exact h.mono j k hj (by unfold blocksN; omega)
theorem crashD_none (d : DiskD) : crashD d [] = onD d := by
  have h : ∀ j, crashTo d [] j = d := fun j => by
    induction j with
    | zero => rfl
    | succ j ih => unfold crashTo; simp [ih]
  unfold crashD
  rw [h]
theorem onD_secQ (d : DiskD) (s : Nat) : (onD d).sec s = ⟨(d.sec s).fast, []⟩ := by
  unfold onD DiskD.sec
  simp only [List.getD_eq_getElem?_getD, List.getElem?_map]
  cases d.l[s]? <;> rfl
/-- a crash leaves what is fast -/
theorem HoldsD.crash {d D : DiskD} {f blocks : Nat} {L : List RecD} {ep : Nat → Int} {t : Int} (h : HoldsD d f blocks L ep t) (hl : D.l.length = d.l.length) (hs : ∀ s, (D.sec s).fast = (d.sec s).fast) : HoldsD (crashD D []) f blocks L ep t := by
  rw [crashD_none]
  refine ⟨⟨rfl, by show (-1 : Int) < 0; omega⟩, fun s => by rw [onD_secQ], by rw [onD_len, hl]; exact h.room, h.fit, h.ok, fun k hk => ?_, fun k hk hkb => ?_, h.e1, h.mono⟩
  · rw [onD_secQ]; exact (hs _).trans (h.has k hk)
  · rw [onD_secQ]; exact (hs _).trans (h.free k hk hkb)

theorem WL.same {w0 w w' : World} {X H : Nat} {c : LogC} {v : Value} {L : List RecD} {d : DiskD} {g : DG} (h : WL w0 X H w c v L d g) (hb : Below w0.heap.size w0 w') (hs : w.heap.size ≤ w'.heap.size) (hl : ∀ b, LogC.F X v b → w'.heap[b]? = w.heap[b]?) (hd : ∀ b, g.F H d.l.length b → w'.heap[b]? = w.heap[b]?) : WL w0 X H w' c v L d g :=
  ⟨hb, h.lg.same hl, h.dk.same hs hd, h.cd, h.lowD, h.lowL, h.apart, h.ok⟩
structure WA (w0 : World) (X H : Nat) (w : World) (c : LogC) (v : Value) (L : List RecD) (d : DiskD) (g : DG) (va : Value) (A : List RecD) : Prop where
  wl : WL w0 X H w c v L d g
  og : Og w0.heap.size w va A
  apL : ∀ b, va.ownBlock = some b → ¬ LogC.F X v b
  apD : ∀ b, va.ownBlock = some b → ¬ g.F H d.l.length b
theorem WA.below {w0 w w' : World} {X H : Nat} {c : LogC} {v : Value} {L : List RecD} {d : DiskD} {g : DG} {va : Value} {A : List RecD} (h : WA w0 X H w c v L d g va A) (hb : Below w.heap.size w w') : WA w0 X H w' c v L d g va A := ⟨h.wl.below hb, h.og.below hb, h.apL, h.apD⟩
theorem WA.disk {w0 w w' : World} {X H : Nat} {c : LogC} {v : Value} {L : List RecD} {d d' : DiskD} {g g' : DG} {va : Value} {A : List RecD} (h : WA w0 X H w c v L d g va A) (hd : Dk w' H d' g') (hx : Ext (g.F H d.l.length) w (g'.F H d'.l.length) w') : WA w0 X H w' c v L d' g' va A :=
  ⟨h.wl.disk hd hx, h.og.same fun b e => hx.block b (h.og.lt e).2 (h.apD b e), h.apL, fun b e hf => (hx.grow b hf).elim (h.apD b e) fun hle => absurd (h.og.lt e).2 (Nat.not_lt.2 hle)⟩
theorem WA.log {w0 w w' : World} {X H : Nat} {c : LogC} {v v' : Value} {L L' : List RecD} {d : DiskD} {g : DG} {va : Value} {A : List RecD} (h : WA w0 X H w c v L d g va A) (hl : Lg 97 w' X c v' L') (hx : Ext (LogC.F X v) w (LogC.F X v') w') (hok : ∀ r ∈ L', okR r = true) : WA w0 X H w' c v' L' d g va A :=
  ⟨h.wl.log hl hx hok, h.og.same fun b e => hx.block b (h.og.lt e).2 (h.apL b e), fun b e hf => (hx.grow b hf).elim (h.apL b e) fun hle => absurd (h.og.lt e).2 (Nat.not_lt.2 hle), h.apD⟩
theorem WA.all {w0 w W w' : World} {X H : Nat} {c : LogC} {v : Value} {L : List RecD} {d : DiskD} {g : DG} {va va' : Value} {A A' : List RecD} (h : WA w0 X H w c v L d g va A) (hb : Below w.heap.size w W) (hg : W.grownBy w' va.ownBlock) (ho : Og w0.heap.size w' va' A') (hv : va'.ownBlock = va.ownBlock ∨ ∀ b, va'.ownBlock = some b → W.heap.size ≤ b) : WA w0 X H w' c v L d g va' A' := by
  have h1 := h.wl.below hb
  refine ⟨h1.same (h1.bel.grown hg h1.bel.size fun k hk => (h.og.lt hk).1) hg.size (fun b hf => hg.block b (h1.lg.low hf) fun e => h.apL b e.symm hf) (fun b hf => hg.block b (h1.dk.low hf) fun e => h.apD b e.symm hf), ho, fun b e hf => ?_, fun b e hf => ?_⟩
  · rcases hv with hv | hv
    · exact h.apL b (by rw [← hv]; exact e) hf
    · exact absurd (h1.lg.low hf) (Nat.not_lt.2 (hv b e))
  · rcases hv with hv | hv
    · exact h.apD b (by rw [← hv]; exact e) hf
    · exact absurd (h1.dk.low hf) (Nat.not_lt.2 (hv b e))
theorem WA.open_ {w0 w w' : World} {X X' H : Nat} {c c' : LogC} {v v' : Value} {L L' : List RecD} {d : DiskD} {g : DG} {va : Value} {A : List RecD} (h : WA w0 X H w c v L d g va A) (hl : WL w0 X' H w' c' v' L' d g) (ho : OB w w' X' v') : WA w0 X' H w' c' v' L' d g va A :=
  ⟨hl, h.og.below ho.bel, fun b e hf => absurd (h.og.lt e).2 (Nat.not_lt.2 (ho.low b hf)), h.apD⟩
theorem WA.flush {w0 w w' : World} {X H : Nat} {c c' : LogC} {v : Value} {L : List RecD} {d d' : DiskD} {g g' : DG} {va : Value} {A : List RecD} (h : WA w0 X H w c v L d g va A) (hl : WL w0 X H w' c' v L d' g') (hx : Ext (fun b => LogC.F X v b ∨ g.F H d.l.length b) w (fun b => LogC.F X v b ∨ g'.F H d'.l.length b) w') : WA w0 X H w' c' v L d' g' va A :=
  ⟨hl, h.og.same fun b e => hx.block b (h.og.lt e).2 fun hf => hf.elim (h.apL b e) (h.apD b e), h.apL, fun b e hf => (hx.grow b (.inr hf)).elim (fun h2 => h2.elim (h.apL b e) (h.apD b e)) fun hle => absurd (h.og.lt e).2 (Nat.not_lt.2 hle)⟩
theorem WA.new {w0 w : World} {X H : Nat} {c : LogC} {v : Value} {L : List RecD} {d : DiskD} {g : DG} (h : WL w0 X H w c v L d g) : WA w0 X H w c v L d g (.slice none 0 0) [] :=
  ⟨h, Og.nil, fun b e => by simp [Value.ownBlock] at e, fun b e => by simp [Value.ownBlock] at e⟩
open Go.RowKit Go.ChangeShapes

theorem seven_ok : ∀ x ∈ ([("phoenix/api.ErrOff", 4, Rows.laid_phoenix_api_ErrOff), ("phoenix/api.ErrRange", 0, Rows.laid_phoenix_api_ErrRange), ("phoenix/api.ErrShort", 1, Rows.laid_phoenix_api_ErrShort), ("phoenix/api.ErrRec", 6, Rows.laid_phoenix_api_ErrRec), ("phoenix/api.ErrBlock", 2, Rows.laid_phoenix_api_ErrBlock), ("phoenix/api.ErrLog", 5, Rows.laid_phoenix_api_ErrLog), ("phoenix/api.ErrLogFull", 3, Rows.laid_phoenix_api_ErrLogFull)] : List (String × Nat × DataW Unit)), Tryd.prog.globalNamed x.1 = some x.2.1 ∧ (Tryd.prog.globals[x.2.1]?).map (·.type) = some 35 ∧ ∃ text, x.2.2 = errD text :=
  ok_append (L := [_]) (errOne "phoenix/api.ErrOff" 4 Rows.laid_phoenix_api_ErrOff (by kernel_rfl) (by kernel_rfl) ⟨_, rfl⟩)
    (ok_append (L := [_, _, _, _]) four_ok
      (ok_append (L := [_]) (errOne "phoenix/api.ErrLog" 5 Rows.laid_phoenix_api_ErrLog (by kernel_rfl) (by kernel_rfl) ⟨_, rfl⟩)
        (errOne "phoenix/api.ErrLogFull" 3 Rows.laid_phoenix_api_ErrLogFull (by kernel_rfl) (by kernel_rfl) ⟨_, rfl⟩)))

/-- ErrOff, ErrRange, ErrShort, ErrRec, ErrBlock, ErrLog, ErrLogFull -/
theorem w5_of_laid {W : World} (h : laidMetH Tryd.prog [("phoenix/api.ErrOff", Rows.laid_phoenix_api_ErrOff), ("phoenix/api.ErrRange", Rows.laid_phoenix_api_ErrRange), ("phoenix/api.ErrShort", Rows.laid_phoenix_api_ErrShort), ("phoenix/api.ErrRec", Rows.laid_phoenix_api_ErrRec), ("phoenix/api.ErrBlock", Rows.laid_phoenix_api_ErrBlock), ("phoenix/api.ErrLog", Rows.laid_phoenix_api_ErrLog), ("phoenix/api.ErrLogFull", Rows.laid_phoenix_api_ErrLogFull)] W) : ∃ ea, W5 ea W := by
  obtain ⟨A, _, _, _, hc⟩ := laid_rows [("phoenix/api.ErrOff", 4, Rows.laid_phoenix_api_ErrOff), ("phoenix/api.ErrRange", 0, Rows.laid_phoenix_api_ErrRange), ("phoenix/api.ErrShort", 1, Rows.laid_phoenix_api_ErrShort), ("phoenix/api.ErrRec", 6, Rows.laid_phoenix_api_ErrRec), ("phoenix/api.ErrBlock", 2, Rows.laid_phoenix_api_ErrBlock), ("phoenix/api.ErrLog", 5, Rows.laid_phoenix_api_ErrLog), ("phoenix/api.ErrLogFull", 3, Rows.laid_phoenix_api_ErrLogFull)] h seven_ok
  exact ⟨fun i => A.getD (if i < 5 then i else i - 2) ⟨0, 0, none⟩, ⟨hc 0 (by decide), hc 1 (by decide), hc 2 (by decide)⟩, hc 3 (by decide), hc 4 (by decide), hc 5 (by decide)⟩
end Go.Proofs.YtoikdhfihkbcbaaDoor
