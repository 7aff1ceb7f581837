/- Contract: the log's Flush. -/
import Derived.Test.YtoikdhfihkbcbaaDoorWlM
import Derived.Deep.RegionLaw
import Derived.Deep.QuietTactic
import Derived.Deep.Cut
import Derived.Deep.RegionHeld3
namespace Go.Proofs.YtoikdhfihkbcbaaDoor
open Go.RowKit
set_option linter.unusedVariables false

theorem eC_bad (ea : Nat → Addr) {c : Int} (h : c ≠ 0) : eC ea c = .iface 124 (.pointer (some (ea (c - 101).toNat))) := by unfold eC; rw [if_neg h]; rfl
theorem flushGo_zero (first epoch : Int) (L : List RecD) (k : Nat) (d : DiskD) : flushGo first epoch L 0 k d = (syncD d, syncC d) := rfl
theorem flushGo_ok (first epoch : Int) (L : List RecD) (n k : Nat) (d : DiskD) (h : writeC d (first + k) (blkB epoch (chunk L k)) = 0) : flushGo first epoch L (n + 1) k d = flushGo first epoch L n (k + 1) (writeD d (first + k) (blkB epoch (chunk L k))) := by rw [flushGo, if_pos h]
theorem flushGo_bad (first epoch : Int) (L : List RecD) (n k : Nat) (d : DiskD) (h : writeC d (first + k) (blkB epoch (chunk L k)) ≠ 0) : flushGo first epoch L (n + 1) k d = (writeD d (first + k) (blkB epoch (chunk L k)), writeC d (first + k) (blkB epoch (chunk L k))) := by rw [flushGo, if_neg h]

theorem blkBytesOk (e : Int) (v : Value) (L : List RecD) (w : World) (he1 : 1 ≤ e) (he2 : e ≤ 1073741824) (hv : Gs w v L) (hl1 : 1 ≤ L.length) (hl6 : L.length ≤ 6) (hok : ∀ r ∈ L, okR r = true) (p : Option Addr) (T : TypeId) (hE : w.cell? ⟨0, 0, none⟩ = some (.iface T (.pointer p))) :
    Calls Tryd.prog 14 #[.int .i64 e, v] w fun en w' => ∃ o cap, en = .returned (.tuple #[.slice o 256 cap, .nilIface]) ∧ Below w.heap.size w w' ∧ Ob 5 w.heap.size w' (.slice o 256 cap) (blkB e L) := by
  refine (blkBytes e v L w he1 he2 hv hl1 hl6 p T hE).mono ?_
  rintro en w' ⟨hb, h⟩
  rcases h with ⟨_, o, cap, he, ho⟩ | ⟨h, _⟩
  · exact ⟨o, cap, he, hb, ho⟩
  · rw [List.all_eq_true.2 hok] at h; simp at h

theorem walFlushNone {w0 w : World} {X H : Nat} {c : LogC} {v : Value} {L : List RecD} {d : DiskD} {g : DG} (h : WL w0 X H w c v L d g) (hd : c.done = L.length) :
    Calls Tryd.prog 30 #[.pointer (some ⟨X, 0, none⟩)] w fun e w' => e = .returned .nilIface ∧ Below w.heap.size w w' := by
  obtain ⟨_, _, _, _, _, c5, c6, _⟩ := h.lg.cells
  obtain ⟨o, cap, rfl, hc1, hc2, _, _⟩ := h.lg.own.form
  have hl := h.lg.len
  unfold maxLen at hc2
  rw [hd] at c6
  clear h hd
  generalize L.length = n at *
  go_enter Tryd.func30, Tryd.ntmps30
  go_wp2_with fail
  go_quiet (fail)
  go_wp2_with fail
  go_ret
  exact ⟨rfl, bdrew _ _ _⟩

set_option maxRecDepth 20000 in
set_option maxHeartbeats 4000000 in
theorem walFlushGo {ea : Nat → Addr} {w0 w : World} {X H : Nat} {c : LogC} {v : Value} {L : List RecD} {d : DiskD} {g : DG} (h : WL w0 X H w c v L d g) (hs : D3 ea w0) (he1 : 1 ≤ c.epoch) (he2 : c.epoch ≤ 1073741824) (hd0 : 0 ≤ c.done) (hd1 : c.done < L.length) (hlo : ∀ s, (d.sec s).loose.length ≤ 500000)
    (R : DiskD × Int) (hR : flushGo c.first c.epoch L (blocksN L.length - c.done.toNat / 6) (c.done.toNat / 6) d = R) :
    Calls Tryd.prog 30 #[.pointer (some ⟨X, 0, none⟩)] w fun e w' => e = .returned (eC ea R.2) ∧ ∃ g', WL w0 X H w' (if R.2 = 0 then { c with done := L.length } else c) v L R.1 g' := by
  obtain ⟨_, _, _, _, _, c5, c6, _⟩ := h.lg.cells
  have hform := h.lg.own.form
  obtain ⟨o, cap, rfl, hc1, hc2, _, _⟩ := hform
  have hl := h.lg.len
  unfold maxLen at hc2
  have HD3 := Lib.hid hs
  have HW0 := Lib.hid h
  have HCE := Lib.hid (fun (wr : World) (dr : DiskD) (gr : DG) (hw : WL w0 X H wr c (.slice o L.length cap) L dr gr) => hw.lg.cells)
  have HCD := Lib.hid h.cd
  have HF0 := h.lg.ok.f0
  have HF1 := h.lg.ok.f1
  obtain ⟨cd, first, blocks, base, epoch, done⟩ := c
  dsimp only at *
  obtain ⟨dn, rfl⟩ := Int.eq_ofNat_of_zero_le hd0
  rw [Int.toNat_natCast] at hR
  obtain ⟨n, hn⟩ : ∃ n, n = L.length := ⟨_, rfl⟩
  rw [← hn] at hR hc1 hd1 c5 HCE HW0 ⊢
  have HN := Lib.hid hn
  obtain ⟨nb, hnb⟩ : ∃ nb, nb = blocksN n := ⟨_, rfl⟩
  rw [← hnb] at hR
  have hl' : n ≤ 10000 := by rw [hn]; exact hl
  have hnb1 : ∀ k : Nat, (k : Int) * 6 < n ↔ k < nb := fun k => by rw [hnb]; unfold blocksN; omega
  have HNB := Lib.hid hnb1
  have hnb2 : nb ≤ 1700 := by rw [hnb]; unfold blocksN; omega
  have hne : ¬ ((dn : Int) = (n : Int)) := by omega
  have hdn6 : dn / 6 ≤ nb := by rw [hnb]; unfold blocksN; omega
  have HR := Lib.hid hR
  obtain ⟨cf, hcf⟩ : ∃ cf : LogC, cf = (if R.2 = 0 then (⟨cd, first, blocks, base, epoch, n⟩ : LogC) else ⟨cd, first, blocks, base, epoch, dn⟩) := ⟨_, rfl⟩
  have HCF := Lib.hid hcf
  rw [← hcf]
  clear hcf
  have HLO := Lib.hid hlo
  clear h hs hnb1 hnb hn hR hlo hl
  go_enter Tryd.func30, Tryd.ntmps30
  go_wp2_with fail
  go_quiet (fail)
  rw [show ((dn : Int) == (n : Int)) = false by simp; omega]
  clear hne
  have hw1 := HW0.out.below (bdrew _ _ nq)
  generalize w.drewN nq = w1 at hw1 ⊢
  clear c5 c6
  obtain ⟨_, _, _, _, _, c5, c6, _⟩ := HCE.out _ _ _ hw1
  have HW1 := Lib.hid hw1
  clear hw1 HW0
  go_wp2_with fail
  go_loopw [3] (fun s wr => ∃ k : Nat, s = .int .i64 k ∧ k ≤ nb ∧ ∃ dr gr, Hid (WL w0 X H wr ⟨cd, first, blocks, base, epoch, dn⟩ (.slice o n cap) L dr gr) ∧ Hid (flushGo first epoch L (nb - k) k dr = R) ∧ Hid (∀ s, (dr.sec s).loose.length ≤ 500000 + k)) (fun s _ => nb - (intOf s).toNat)
  case atStart => exact ⟨dn / 6, by congr 1, hdn6, d, g, HW1, HR, Lib.hid (fun s => Nat.le_trans (HLO.out s) (by omega))⟩
  case round =>
    obtain ⟨k, rfl, hk, dr, gr, HWR, HRR, HLR⟩ := hrel
    clear c5 c6 HW1 HLO HR
    obtain ⟨c0, c1, _, _, c4, c5, c6, _⟩ := HCE.out _ _ _ HWR.out
    by_cases hkn : (k : Int) * 6 < n
    · have hknb := (HNB.out k).1 hkn
      have HCL : Hid ((chunk L k).length = min (6 * k + 6) n - 6 * k) := Lib.hid (by rw [chunk_len, ← HN.out])
      have hex : nb - k = (nb - (k + 1)) + 1 := by omega
      rw [hex] at HRR
      clear hex
      go_upto_region 7 with fail
      go_cut [5, 6] from 24 to 75 (fun s5 s6 wx => s6 = .nilIface ∧ ∃ ox cx, s5 = .slice ox 256 cx ∧ Hid (Bs wx (.slice ox 256 cx) (blkB epoch (chunk L k))) ∧ Hid (Below wr.heap.size wr wx))
      case first =>
        have hE := (HWR.out.bel.cell (Below.lt HD3.out.r)).trans HD3.out.r
        by_cases hle : (k : Int) * 6 + 6 ≤ n
        · obtain ⟨o', c', hg, hcc, hsl⟩ := HWR.out.lg.own.gs.part (k * 6) (k * 6 + 6) (by omega) (by omega)
          have hce : (L.take (k * 6 + 6)).drop (k * 6) = chunk L k := by rw [chunk_eq L k (k * 6 + 6) (by rw [← HN.out]; omega), Nat.mul_comm]
          rw [hce] at hg
          have e1 : ((k * 6 : Nat) : Int) = (k : Int) * 6 := by omega
          have e2 : ((k * 6 + 6 : Nat) : Int) = (k : Int) * 6 + 6 := by omega
          simp only [e1, e2] at hsl
          have HBY := Lib.hid (blkBytesOk epoch _ (chunk L k) wr.drew he1 he2 (hg.below ((Below.refl _ _).drew)) (by rw [HCL.out]; omega) (by rw [HCL.out]; omega) (fun r hr => HWR.out.ok r (chunk_mem hr)) (some (ea 1)) 124 hE)
          generalize k * 6 + 6 - k * 6 = m6 at hsl HBY
          have hks : IntKind.i64.wrap ((k : Int) * 6 + 6) = (k : Int) * 6 + 6 := by rw [IntKind.wrap_i64]; omega
          have hif : (if (n : Int) < (k : Int) * 6 + 6 then (n : Int) else (k : Int) * 6 + 6) = (k : Int) * 6 + 6 := if_neg (by omega)
          have HKP := Lib.hid (fun W (hb : Below wr.drew.heap.size wr.drew W) => (⟨(hb.cell (p := ⟨X, 4, none⟩) (Below.lt c4)).trans c4, (hb.cell (p := ⟨X, 5, none⟩) (Below.lt c5)).trans c5⟩ : W.cell? ⟨X, 4, none⟩ = some (.int .i64 epoch) ∧ W.cell? ⟨X, 5, none⟩ = some (.slice o n cap)))
          clear hg hce e1 e2 hE
          go_wp2_with fail
          go_region_held3 (fun W' => W'.cell? ⟨X, 4, none⟩ = some (.int .i64 epoch) ∧ W'.cell? ⟨X, 5, none⟩ = some (.slice o n cap))
            (first | exact HKP.out _ hb5 | exact HKP.out _ (Below.refl _ _) | go_keep)
            ((first | (go_at_call 14; with_reducible refine HBY.out.mono ?_; rintro en w5 ⟨ox, cx, rfl, hb5, ho5⟩)))
          all_goals
            go_wp2_with fail
            go_meet
            exact ⟨rfl, ox, cx, rfl, Lib.hid ho5.bs, Lib.hid (((Below.refl _ _).drew).trans hb5)⟩
        · obtain ⟨o', c', hg, hcc, hsl⟩ := HWR.out.lg.own.gs.part (k * 6) n (by omega) (by omega)
          have hce : (L.take n).drop (k * 6) = chunk L k := by rw [chunk_eq L k n (by rw [← HN.out]; omega), Nat.mul_comm]
          rw [hce] at hg
          have e1 : ((k * 6 : Nat) : Int) = (k : Int) * 6 := by omega
          simp only [e1] at hsl
          have HBY := Lib.hid (blkBytesOk epoch _ (chunk L k) wr.drew he1 he2 (hg.below ((Below.refl _ _).drew)) (by rw [HCL.out]; omega) (by rw [HCL.out]; omega) (fun r hr => HWR.out.ok r (chunk_mem hr)) (some (ea 1)) 124 hE)
          generalize n - k * 6 = m6 at hsl HBY
          have hks : IntKind.i64.wrap ((k : Int) * 6 + 6) = (k : Int) * 6 + 6 := by rw [IntKind.wrap_i64]; omega
          have hif : (if (n : Int) < (k : Int) * 6 + 6 then (n : Int) else (k : Int) * 6 + 6) = (n : Int) := if_pos (by omega)
          have HKP := Lib.hid (fun W (hb : Below wr.drew.heap.size wr.drew W) => (⟨(hb.cell (p := ⟨X, 4, none⟩) (Below.lt c4)).trans c4, (hb.cell (p := ⟨X, 5, none⟩) (Below.lt c5)).trans c5⟩ : W.cell? ⟨X, 4, none⟩ = some (.int .i64 epoch) ∧ W.cell? ⟨X, 5, none⟩ = some (.slice o n cap)))
          clear hg hce e1 hE
          go_wp2_with fail
          go_region_held3 (fun W' => W'.cell? ⟨X, 4, none⟩ = some (.int .i64 epoch) ∧ W'.cell? ⟨X, 5, none⟩ = some (.slice o n cap))
            (first | exact HKP.out _ hb5 | exact HKP.out _ (Below.refl _ _) | go_keep)
            ((first | (go_at_call 14; with_reducible refine HBY.out.mono ?_; rintro en w5 ⟨ox, cx, rfl, hb5, ho5⟩)))
          all_goals
            go_wp2_with fail
            go_meet
            exact ⟨rfl, ox, cx, rfl, Lib.hid ho5.bs, Lib.hid (((Below.refl _ _).drew).trans hb5)⟩
      obtain ⟨rfl, ox, cx, rfl, HBS, HBW⟩ := hcut
      have HWX := Lib.hid (HWR.out.below HBW.out)
      clear c0 c1 c4 c5 c6 HWR HBW
      obtain ⟨c0, c1, _, _, _, _, _, _⟩ := HCE.out _ _ _ HWX.out
      try dsimp only at c0 c1
      rw [HCD.out] at c0
      have hd3 := HD3.out.below HWX.out.bel
      have hnl := HWX.out.noLow (Below.lt HD3.out.o)
      have hbl : (blkB epoch (chunk L k)).length = 256 := blkB_len _ _ (by rw [HCL.out]; omega)
      have hwx := HWX.out.below ((Below.refl _ _).drew)
      have hwr := dskWrite hwx.dk (hd3.below ((Below.refl _ _).drew)) hnl (first + k) (by omega) (by omega) (.slice ox 256 cx) (blkB epoch (chunk L k)) (HBS.out.below ((Below.refl _ _).drew)) (Nat.lt_of_le_of_lt (HLR.out _) (by omega))
      have hkeep : ∀ W d' g', WL w0 X H W ⟨cd, first, blocks, base, epoch, dn⟩ (.slice o n cap) L d' g' → W.cell? ⟨X, 0, none⟩ = some (.pointer (some ⟨H, 0, none⟩)) ∧ W.cell? ⟨X, 1, none⟩ = some (.int .i64 first) := fun W d' g' hw => by
        obtain ⟨q0, q1, _⟩ := HCE.out _ _ _ hw
        try dsimp only at q0 q1
        rw [HCD.out] at q0
        exact ⟨q0, q1⟩
      have hwr2 : Calls Tryd.prog 32 #[.pointer (some ⟨H, 0, none⟩), .int .i64 (first + k), .slice ox 256 cx] wc.drew fun e w' => e = .returned (eC ea (writeC dr (first + k) (blkB epoch (chunk L k)))) ∧ ∃ g', WL w0 X H w' ⟨cd, first, blocks, base, epoch, dn⟩ (.slice o n cap) L (writeD dr (first + k) (blkB epoch (chunk L k))) g' ∧ (w'.cell? ⟨X, 0, none⟩ = some (.pointer (some ⟨H, 0, none⟩)) ∧ w'.cell? ⟨X, 1, none⟩ = some (.int .i64 first)) := hwr.mono (by
        rintro e w' ⟨he, g', hd', hx'⟩
        have hw' := hwx.disk hd' hx'
        exact ⟨he, g', hw', hkeep _ _ _ hw'⟩)
      have hks : IntKind.i64.wrap (first + k) = first + k := by rw [IntKind.wrap_i64]; omega
      by_cases hc : writeC dr (first + k) (blkB epoch (chunk L k)) = 0
      · have hst := flushGo_ok first epoch L (nb - (k + 1)) k dr hc
        rw [HRR.out] at hst
        have HRX := Lib.hid hst.symm
        have HLX : Hid (∀ s, ((writeD dr (first + k) (blkB epoch (chunk L k))).sec s).loose.length ≤ 500000 + (k + 1)) := Lib.hid (fun s => by
          have h1 := writeD_loose dr (first + k) (blkB epoch (chunk L k)) s
          have h2 := HLR.out s
          omega)
        rw [hc, eC_zero] at hwr2
        have HWT := Lib.hid hwr2
        clear hst hwr hwr2 hwx hkeep hd3 hnl hbl hc HBS HWX HRR HLR
        go_wp2_with fail
        go_region_held3 (fun W' => W'.cell? ⟨X, 0, none⟩ = some (.pointer (some ⟨H, 0, none⟩)) ∧ W'.cell? ⟨X, 1, none⟩ = some (.int .i64 first))
          (first | exact hk6 | go_keep)
          ((first | (go_at_call 32; with_reducible refine HWT.out.mono ?_; rintro en w6 ⟨rfl, g6, hw6, hk6⟩)))
        all_goals
          have HW6 := Lib.hid hw6
          clear hw6 hk6 c0 c1
          go_wp2_with fail
          go_roundw
          case rel => exact ⟨k + 1, by go_num, by omega, _, _, HW6, HRX, HLX⟩
          case measure => simp [intOf]; omega
      · have hst := flushGo_bad first epoch L (nb - (k + 1)) k dr hc
        rw [HRR.out] at hst
        have HRX := Lib.hid hst
        have hRc : R.2 ≠ 0 := by rw [hst]; exact hc
        have hRe := eC_bad ea hRc
        have HRC := Lib.hid hRc
        have hRv : eC ea (writeC dr (first + k) (blkB epoch (chunk L k))) = eC ea R.2 := by rw [hst]
        rw [hRv, hRe] at hwr2
        have HRE := Lib.hid hRe
        have HWT := Lib.hid hwr2
        clear hst hwr hwr2 hwx hkeep hd3 hnl hbl hc HBS HWX HRR HLR hRc hRe hRv
        go_wp2_with fail
        go_region_held3 (fun W' => W'.cell? ⟨X, 0, none⟩ = some (.pointer (some ⟨H, 0, none⟩)) ∧ W'.cell? ⟨X, 1, none⟩ = some (.int .i64 first))
          (first | exact hk6 | go_keep)
          ((first | (go_at_call 32; with_reducible refine HWT.out.mono ?_; rintro en w6 ⟨rfl, g6, hw6, hk6⟩)))
        all_goals
          have HW6 := Lib.hid hw6
          clear hw6 hk6 c0 c1
          go_wp2_with fail
          go_ret
          exact ⟨by rw [HRE.out]; rfl, g6, by rw [HCF.out, if_neg HRC.out, HRX.out]; exact HW6.out⟩
    · have hknb : k = nb := by
        have := (HNB.out k)
        omega
      subst hknb
      rw [Nat.sub_self, flushGo_zero] at HRR
      try dsimp only at c0
      rw [HCD.out] at c0
      have hd3 := HD3.out.below HWR.out.bel
      have hnl := HWR.out.noLow (Below.lt HD3.out.o)
      have hsy : Calls Tryd.prog 58 #[.pointer (some ⟨H, 0, none⟩)] wr fun e w' => e = .returned (eC ea (syncC dr)) ∧ ∃ g', WL w0 X H w' ⟨cd, first, blocks, base, epoch, dn⟩ (.slice o n cap) L (syncD dr) g' := (dskSync HWR.out.dk hd3 hnl).mono (by
        rintro e w' ⟨he, g', hd', hx'⟩
        exact ⟨he, g', HWR.out.disk hd' hx'⟩)
      by_cases hc : syncC dr = 0
      · rw [hc, eC_zero] at hsy
        rw [hc] at HRR
        have HSY := Lib.hid hsy
        clear hsy hc hd3 hnl HLR HWR
        go_wp2_with fail
        refine HSY.out.mono ?_
        clear HSY
        rintro e w6 ⟨rfl, g6, hw6⟩
        have HW6 := Lib.hid hw6
        clear c0 c1 c4 c5 c6
        obtain ⟨_, _, _, _, _, c5, c6, hfz⟩ := HCE.out _ _ _ hw6
        have hf6 := hfz 6
        clear hw6 hfz
        go_wp2_with fail
        go_ret
        exact ⟨by rw [← HRR.out]; rfl, g6, by rw [HCF.out, ← HRR.out]; exact HW6.out.done n⟩
      · have hRe := eC_bad ea hc
        rw [hRe] at hsy
        have HSY := Lib.hid hsy
        have HC := Lib.hid hc
        have HRE := Lib.hid hRe
        clear hsy hc hd3 hnl HLR HWR hRe
        go_wp2_with fail
        refine HSY.out.mono ?_
        clear HSY
        rintro e w6 ⟨rfl, g6, hw6⟩
        have HW6 := Lib.hid hw6
        clear c0 c1 c4 c5 c6 hw6
        go_wp2_with fail
        go_ret
        exact ⟨by rw [← HRR.out]; exact congrArg _ HRE.out.symm, g6, by rw [HCF.out, ← HRR.out, if_neg HC.out]; exact HW6.out⟩

/-- Flush -/
theorem walFlush {ea : Nat → Addr} {w0 w : World} {X H : Nat} {c : LogC} {v : Value} {L : List RecD} {d : DiskD} {g : DG} (h : WL w0 X H w c v L d g) (hs : D3 ea w0) (he1 : 1 ≤ c.epoch) (he2 : c.epoch ≤ 1073741824) (hd0 : 0 ≤ c.done) (hd1 : c.done ≤ L.length) (hlo : ∀ s, (d.sec s).loose.length ≤ 500000) :
    Calls Tryd.prog 30 #[.pointer (some ⟨X, 0, none⟩)] w fun e w' => e = .returned (eC ea (flushD c L d).2) ∧ ∃ g', WL w0 X H w' (doneC c L d) v L (flushD c L d).1 g' := by
  by_cases hd : c.done = L.length
  · refine (walFlushNone h hd).mono ?_
    rintro e w' ⟨rfl, hb⟩
    have e1 : flushD c L d = (d, 0) := by unfold flushD; rw [if_pos hd]
    have e2 : doneC c L d = c := by unfold doneC; rw [e1, if_pos rfl, ← hd]
    rw [e1, e2]
    exact ⟨rfl, g, h.below hb⟩
  · have e1 : flushD c L d = flushGo c.first c.epoch L (blocksN L.length - c.done.toNat / 6) (c.done.toNat / 6) d := by unfold flushD; rw [if_neg hd]
    have hf := walFlushGo h hs he1 he2 hd0 (by omega) hlo (flushD c L d) e1.symm
    exact hf
end Go.Proofs.YtoikdhfihkbcbaaDoor
