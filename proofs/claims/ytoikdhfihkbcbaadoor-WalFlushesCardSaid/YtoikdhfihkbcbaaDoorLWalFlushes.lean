/- The walk of the law WalFlushes. -/
import Derived.Test.YtoikdhfihkbcbaaDoorWlF
import Derived.Test.YtoikdhfihkbcbaaDoorMkRecs
import Derived.Test.YtoikdhfihkbcbaaDoorRecS
import Derived.Test.YtoikdhfihkbcbaaDoorNum
import Derived.BigQuiet
namespace Go.Proofs.YtoikdhfihkbcbaaDoor
open Go.RowKit
set_option linter.unusedVariables false

/-- Flush with a fuse that is spent: the first block's write fails -/
theorem flushD_gone {c : LogC} {L : List RecD} {d : DiskD} {f : Nat} (hf : c.first = f) (ho : OnD d) (h0 : 0 ≤ c.done) (h1 : c.done ≤ L.length) (hr : f + blocksN L.length ≤ d.l.length) :
    (flushD c L (fuseD d 0)).2 = (if c.done = L.length then 0 else 101) ∧ (flushD c L (fuseD d 0)).1.l.length = d.l.length ∧ ∀ s, ((flushD c L (fuseD d 0)).1.sec s).fast = (d.sec s).fast := by
  unfold flushD
  by_cases hd : c.done = L.length
  · rw [if_pos hd, if_pos hd]
    exact ⟨rfl, rfl, fun s => rfl⟩
  · rw [if_neg hd, if_neg hd, hf]
    have hk : c.done.toNat / 6 < blocksN L.length := by unfold blocksN; omega
    obtain ⟨m, hm⟩ : ∃ m, blocksN L.length - c.done.toNat / 6 = m + 1 := ⟨blocksN L.length - c.done.toNat / 6 - 1, by omega⟩
    rw [hm]
    generalize c.done.toNat / 6 = k at hk
    have hb : (blkB c.epoch (chunk L k)).length = 256 := blkB_len _ _ (by rw [chunk_len]; omega)
    have hfu : (fuseD d 0).fuse = 0 := by show max (0 : Int) (-1) = 0; omega
    have hof : (fuseD d 0).off = false := ho.off
    have hll : (fuseD d 0).l = d.l := rfl
    have hh : (fuseD d 0).has ((f : Int) + k) = true := by unfold DiskD.has; rw [hll]; simp; omega
    have hsp : spendB (fuseD d 0) = false := by unfold spendB; rw [hfu]; rfl
    have hw : writeC (fuseD d 0) ((f : Int) + k) (blkB c.epoch (chunk L k)) = 101 := by simp [writeC, hof, hh, hb, hsp]
    have et : ((f : Int) + (k : Int)).toNat = f + k := by omega
    have hwd : writeD (fuseD d 0) ((f : Int) + k) (blkB c.epoch (chunk L k)) = spendD (addL (fuseD d 0) (f + k) (blkB c.epoch (chunk L k))) := by simp [writeD, hof, hh, hb, et]
    rw [flushGo, hw, if_neg (by omega), hwd]
    refine ⟨rfl, by rw [spendD_len, addL_len]; rfl, fun s => ?_⟩
    have e1 : (spendD (addL (fuseD d 0) (f + k) (blkB c.epoch (chunk L k)))).sec s = (addL (fuseD d 0) (f + k) (blkB c.epoch (chunk L k))).sec s := by unfold DiskD.sec; rw [spendD_l]
    rw [e1, addL_sec _ _ (by rw [hll]; omega)]
    split
    · rename_i e; subst e; rfl
    · rfl

theorem walFlushes_idle (v : Value) (l : List Int) (at_ : Int) (w : World) (hv : Ns .i64 w v l) (hl : 200 < (l.length : Int)) :
    Calls Tryd.prog 9 #[v, .int .i64 at_] w fun e w' => e = .returned (.bool true) ∧ Below w.heap.size w w' := by
  obtain ⟨_, o, cap, rfl, hc1, hc2, hc3, _⟩ := hv
  unfold maxLen at hc2
  generalize l.length = n at *
  go_enter Tryd.func9, Tryd.ntmps9
  go_wp2_with fail
  refine (walFirst w).mono ?_
  rintro e w1 ⟨rfl, hb1⟩
  have HB1 := Lib.hid hb1
  clear hb1
  go_wp2_with fail
  go_ret
  exact ⟨rfl, HB1.out⟩

/-- how far the log is flushed -/
def FlAt (i t j : Nat) : Prop := (j = 0 ∧ i ≤ t) ∨ (j = t ∧ t < i)

set_option maxRecDepth 20000 in
set_option maxHeartbeats 4000000 in
theorem walFlushes_walk0 {ea : Nat → Addr} (v : Value) (l : List Int) (at_ : Int) (a1 : -9223372036854775808 ≤ at_) (a2 : at_ ≤ 9223372036854775807) (w : World) (hs : W5 ea w) (hv : Ns .i64 w v l) (hl : (l.length : Int) ≤ 200) :
    Calls Tryd.prog 9 #[v, .int .i64 at_] w fun e w' => e = .returned (.bool true) ∧ Below w.heap.size w w' := by
  have HS := Lib.hid hs
  have HV := Lib.hid hv
  obtain ⟨_, o, cap, rfl, hc1, hc2, hc3, hcell⟩ := hv
  have HVL : Hid (l ≠ [] → ∀ b, (Value.slice o l.length cap).ownBlock = some b → b < w.heap.size) := Lib.hid (fun hne b e => by
    obtain ⟨a, rfl, hc⟩ := hcell hne
    have h := Below.lt (hc 0 (List.length_pos_iff.2 hne))
    have e1 : (a.add 0).block = a.block := by unfold Addr.add; split <;> rfl
    rw [e1] at h
    have e2 : a.block = b := by simpa [Value.ownBlock] using e
    omega)
  unfold maxLen at hc2
  obtain ⟨n0, hn⟩ : ∃ n, n = l.length := ⟨_, rfl⟩
  rw [← hn] at hc1 hl HVL HV ⊢
  have HN := Lib.hid hn
  have HA := Lib.hid (fun W (b : Int) (h0 : 0 < b) (h1 : b ≤ 1000) => number at_ b W h0 (by omega) a1 a2)
  clear hn hcell hc3 hs a1 a2
  go_enter Tryd.func9, Tryd.ntmps9
  go_wp2_with fail
  refine (walFirst w).mono ?_
  rintro e w1 ⟨rfl, hb1⟩
  have HB1 := Lib.hid hb1
  clear hb1
  go_wp2_with fail
  refine (dskNew 12 w1).mono ?_
  rintro e w2 ⟨⟨H, g, rfl, hd2, hl2⟩, hb2⟩
  have hb02 := HB1.out.trans (hb2.mono HB1.out.size)
  have hW3 := WL.new hb02 hd2 (fun b hb => Nat.le_trans HB1.out.size (hl2 b hb)) ⟨.pointer (some ⟨H, 0, none⟩), 1, 11, 0, 1, 0⟩ ⟨by dsimp only; omega, by dsimp only; omega, by dsimp only; omega, by dsimp only; omega, by dsimp only; omega, by dsimp only; omega⟩ rfl
  have HNW := Lib.hid (walNew (.pointer (some ⟨H, 0, none⟩)) 1 11 0 1 w2 _ rfl)
  have HHD := Lib.hid (HoldsD.new 12 1 11 (by unfold newN; omega) (fun _ => 1) 1)
  have HWL := Lib.hid hW3
  generalize newD 12 = dd at HHD HWL
  obtain ⟨X, hX⟩ : ∃ X, X = w2.heap.size := ⟨_, rfl⟩
  rw [← hX] at HWL HNW
  clear hb2 hd2 hl2 hb02 HB1 hX hW3
  go_wp2_with fail
  refine HNW.out.mono ?_
  clear HNW
  rintro e w3 ⟨rfl, rfl⟩
  generalize w2.alloc (.cells (headCs ⟨.pointer (some ⟨H, 0, none⟩), 1, 11, 0, 1, 0⟩ (.slice none 0 0)) 97) = w3 at HWL ⊢
  obtain ⟨W4, hW4⟩ : ∃ W, W = w3.alloc (.cells #[.slice o n0 cap, .int .i64 0] 27) := ⟨_, rfl⟩
  have hb4 : Below w3.heap.size w3 W4 := by rw [hW4]; exact (Below.refl _ _).alloc (Nat.le_refl _) _
  have hq4 : SeqAt W4 w3.heap.size (.slice o n0 cap) 0 := by rw [hW4]; exact heap_alloc_new w3 _
  have HWL4 := Lib.hid (HWL.out.below hb4)
  have hvq : l ≠ [] → (Value.slice o n0 cap).ownBlock ≠ some w3.heap.size := fun hne e => by
    have h1 := HVL.out hne _ e
    have h2 := HWL.out.bel.size
    omega
  have HR := Lib.hid (mkRecs w3.heap.size (.slice o n0 cap) l W4 0 60 hq4 (HV.out.below HWL4.out.bel) hvq (by have := HN.out; omega) (by omega) (by omega) (by omega) (by omega))
  have HW4 := Lib.hid hW4
  have HQX : Hid (∀ b, LogC.F X (.slice none 0 0) b → b ≠ w3.heap.size) := Lib.hid (fun b hf e => absurd (HWL.out.lg.low hf) (by rw [e]; exact Nat.lt_irrefl _))
  have HQD : Hid (∀ b, g.F H dd.l.length b → b ≠ w3.heap.size) := Lib.hid (fun b hf e => absurd (HWL.out.dk.low hf) (by rw [e]; exact Nat.lt_irrefl _))
  have HQL : Hid (w.heap.size ≤ w3.heap.size) := Lib.hid HWL.out.bel.size
  clear hb4 hq4 hvq hW4 HWL HV HVL
  go_upto_region 13 with fail
  rw [← HW4.out]
  clear HW4
  generalize w3.heap.size = Q at HR HQX HQD HQL ⊢
  go_wp2_with fail
  refine HR.out.mono ?_
  clear HR
  rintro e w5 ⟨R, oR, cR, pR, rfl, ho5, hok5, hl5, _, _, _, he5⟩
  have hb5 := he5.below (B := w.heap.size) (fun k (h : k = Q) => by rw [h]; exact HQL.out) HWL4.out.bel.size
  have hwl5 := HWL4.out.same (w' := w5) (HWL4.out.bel.trans hb5) he5.size (fun b hf => he5.block b (HWL4.out.lg.low hf) (HQX.out b hf)) (fun b hf => he5.block b (HWL4.out.dk.low hf) (HQD.out b hf))
  have hwa5 : WA w X H w5 ⟨.pointer (some ⟨H, 0, none⟩), 1, 11, 0, 1, 0⟩ (.slice none 0 0) [] dd g (.slice oR R.length cR) R :=
    ⟨hwl5, ho5.mono HWL4.out.bel.size, fun b e hf => absurd (HWL4.out.lg.low hf) (Nat.not_lt.2 (ho5.lt e).1), fun b e hf => absurd (HWL4.out.dk.low hf) (Nat.not_lt.2 (ho5.lt e).1)⟩
  obtain ⟨oR', cR', hvR, hcA, hcB, _, _⟩ := ho5.form
  simp only [Value.slice.injEq] at hvR
  obtain ⟨rfl, hxx, rfl⟩ := hvR
  unfold maxLen at hcB
  obtain ⟨n, hn⟩ : ∃ n, n = R.length := ⟨_, rfl⟩
  rw [← hn] at hcA hl5 hwa5 ⊢
  have HNR := Lib.hid hn
  have HWA := Lib.hid hwa5
  have HOK : Hid (∀ r ∈ R, okR r = true ∧ r.W) := Lib.hid (fun r hr => ⟨hok5 r hr, ho5.1 r hr⟩)
  have hm0 := Int.emod_nonneg at_ (show ((n : Int) + 1) ≠ 0 by omega)
  have hm1 := Int.emod_lt_of_pos at_ (show (0 : Int) < (n : Int) + 1 by omega)
  obtain ⟨t, ht⟩ : ∃ t : Nat, at_ % ((n : Int) + 1) = t := ⟨(at_ % ((n : Int) + 1)).toNat, by omega⟩
  have HAN := Lib.hid (fun W => HA.out W ((n : Int) + 1) (by omega) (by omega))
  rw [ht] at HAN hm0 hm1
  have htn : t ≤ n := by omega
  clear ho5 hok5 he5 hb5 hwl5 hwa5 hn hxx HQX HQD HQL HWL4 HA ht hm0 hm1
  go_wp2_with fail
  refine (HAN.out _).mono ?_
  clear HAN
  rintro e w6 ⟨rfl, rfl⟩
  have hfit : ∀ L : List RecD, L.length ≤ n → blocksN L.length ≤ 11 := fun L hL => by unfold blocksN; omega
  have HFIT := Lib.hid hfit
  -- Flush of what is not flushed
  have hflush : ∀ (i j : Nat) (W : World) (v : Value) (D : DiskD) (G : DG) (ep : Nat → Int), j = 0 → i ≤ n → WA w X H W ⟨.pointer (some ⟨H, 0, none⟩), 1, 11, 0, 1, j⟩ v (R.take i) D G (.slice oR n cR) R → HoldsD D 1 11 (R.take j) ep 1 →
      Calls Tryd.prog 30 #[.pointer (some ⟨X, 0, none⟩)] W fun e w' => e = .returned .nilIface ∧ ∃ D' G' ep', WA w X H w' ⟨.pointer (some ⟨H, 0, none⟩), 1, 11, 0, 1, i⟩ v (R.take i) D' G' (.slice oR n cR) R ∧ HoldsD D' 1 11 (R.take i) ep' 1 := fun i j W v D G ep hj hin hwa hh => by
    subst hj
    rw [List.take_zero] at hh
    have hti : (R.take i).length = i := by rw [List.length_take, ← HNR.out]; omega
    obtain ⟨f1, f2, ep', hh2⟩ := hh.flush (M := R.take i) ⟨.pointer (some ⟨H, 0, none⟩), 1, 11, 0, 1, ((0 : Nat) : Int)⟩ rfl rfl (by dsimp only; omega) (by dsimp only; omega) (fun r hr => HOK.out r (List.mem_of_mem_take hr)) (by rw [List.nil_append, hti]; unfold blocksN; omega)
    rw [List.nil_append] at f1 f2 hh2
    have hfl := walFlush hwa.wl HS.out.d (by dsimp only; omega) (by dsimp only; omega) (by dsimp only; omega) (by dsimp only; omega) (fun s => by rw [hh.dry s]; simp)
    rw [f1, f2, eC_zero, hti] at hfl
    refine hfl.mono ?_
    rintro e w' ⟨he, g', hw', hx'⟩
    exact ⟨he, _, g', ep', hwa.flush hw' hx', hh2⟩
  have HFLUSH := Lib.hid hflush
  clear hflush hfit
  go_wp2_with fail
  go_loopw [10] (fun s wr => ∃ i j : Nat, s = .int .i64 i ∧ i ≤ n ∧ FlAt i t j ∧ ∃ v D G ep, Hid (WA w X H wr ⟨.pointer (some ⟨H, 0, none⟩), 1, 11, 0, 1, j⟩ v (R.take i) D G (.slice oR n cR) R) ∧ Hid (HoldsD D 1 11 (R.take j) ep 1)) (fun s _ => n - (intOf s).toNat)
  case atStart => exact ⟨0, 0, rfl, by omega, .inl ⟨rfl, by omega⟩, _, dd, g, _, by rw [List.take_zero]; exact HWA, by rw [List.take_zero]; exact HHD⟩
  case round =>
    obtain ⟨i, j, rfl, hi, hfa, v, D, G, ep, HWR, HHR⟩ := hrel
    clear HWA HHD
    by_cases hin : (i : Int) < n
    · go_upto_region 18 with fail
      go_cut [56] from 43 to 67 (fun s56 wx => s56 = .bool false ∧ ∃ j' D' G' ep', Hid (FlAt (i + 1) t j') ∧ Hid (WA w X H wx ⟨.pointer (some ⟨H, 0, none⟩), 1, 11, 0, 1, j'⟩ v (R.take i) D' G' (.slice oR n cR) R) ∧ Hid (HoldsD D' 1 11 (R.take j') ep' 1))
      case first =>
        by_cases hit : i = t
        · subst hit
          have hj : j = 0 := by unfold FlAt at hfa; omega
          have HFL := Lib.hid (HFLUSH.out i j wr v D G ep hj (by omega) HWR.out HHR.out)
          go_wp2_with fail
          refine HFL.out.mono ?_
          clear HFL
          rintro e w7 ⟨rfl, D7, G7, ep7, hwa7, hh7⟩
          have HWA7 := Lib.hid hwa7
          have HH7 := Lib.hid hh7
          clear hwa7 hh7
          go_wp2_with fail
          go_meet
          exact ⟨rfl, i, D7, G7, ep7, Lib.hid (.inr ⟨rfl, by omega⟩), HWA7, HH7⟩
        · have hit2 : ¬ ((i : Int) = (t : Int)) := by omega
          have hit3 : ((i : Int) == (t : Int)) = false := by simp; omega
          go_wp2_with fail
          go_meet
          exact ⟨by first | rfl | rw [hit3], j, D, G, ep, Lib.hid (by unfold FlAt at *; omega), HWR, HHR⟩
      obtain ⟨rfl, j', D', G', ep', HFA, HWX, HHX⟩ := hcut
      clear HWR HHR hfa
      obtain ⟨gb, r, hgg, _, _, hrr, hrw, q0, q1, q2, q3, q4, q5, q6, q7, q8, q9⟩ := HWX.out.og.at_ (k := i) (by rw [← HNR.out]; omega)
      subst hgg
      have hrok := (HOK.out r (List.mem_of_getElem? hrr)).1
      have hti : (R.take i).length = i := by rw [List.length_take, ← HNR.out]; omega
      have htk : R.take i ++ [r] = R.take (i + 1) := by rw [List.take_add_one, hrr]; rfl
      have happ := walAppendE HWX.out.wl.lg ((HWX.out.wl.bel.cell (Below.lt HS.out.d.r)).trans HS.out.d.r) r hrw hrok (by unfold roomN; dsimp only; rw [hti]; omega) (by rw [hti]; omega)
      rw [htk, hti] at happ
      have hokk : ∀ x ∈ R.take (i + 1), okR x = true := fun x hx => (HOK.out x (List.mem_of_mem_take hx)).1
      have HAPP := Lib.hid happ
      have HOKK := Lib.hid hokk
      clear happ hrr hrw hrok hti htk hokk
      obtain ⟨b0, b1, b2, b3, b4, b5, b6, b7, b8, b9⟩ := r
      dsimp only [recV] at HAPP q0 q1 q2 q3 q4 q5 q6 q7 q8 q9
      go_wp2_with fail
      refine HAPP.out.mono ?_
      clear HAPP q0 q1 q2 q3 q4 q5 q6 q7 q8 q9
      rintro e w8 ⟨rfl, v8, hl8, hx8⟩
      have HWA8 := Lib.hid (HWX.out.log hl8 hx8 HOKK.out)
      clear hl8 hx8 HWX
      go_wp2_with fail
      go_roundw
      case rel => exact ⟨i + 1, j', by go_num, by omega, HFA.out, v8, D', G', ep', HWA8, HHX⟩
      case measure => simp [intOf]; omega
    · obtain rfl : i = n := by omega
      have hrt : R.take i = R := List.take_of_length_le (by rw [← HNR.out]; exact Nat.le_refl _)
      go_upto_region 23 with fail
      go_cut [76] from 68 (fun s76 wx => s76 = .bool false ∧ ∃ D' G' ep', Hid (WA w X H wx ⟨.pointer (some ⟨H, 0, none⟩), 1, 11, 0, 1, t⟩ v R D' G' (.slice oR i cR) R) ∧ Hid (HoldsD D' 1 11 (R.take t) ep' 1))
      case first =>
        by_cases hit : t = i
        · subst hit
          have hj : j = 0 := by unfold FlAt at hfa; omega
          have HFL := Lib.hid (HFLUSH.out t j wr v D G ep hj (by omega) HWR.out HHR.out)
          clear hrt
          go_wp2_with fail
          refine HFL.out.mono ?_
          clear HFL
          rintro e w7 ⟨rfl, D7, G7, ep7, hwa7, hh7⟩
          have hrt : R.take t = R := List.take_of_length_le (by rw [← HNR.out]; exact Nat.le_refl _)
          have HH7 := Lib.hid hh7
          rw [hrt] at hwa7
          have HWA7 := Lib.hid hwa7
          clear hwa7 hh7 hrt
          go_wp2_with fail
          go_meet
          exact ⟨rfl, D7, G7, ep7, HWA7, HH7⟩
        · have hj : j = t := by unfold FlAt at hfa; omega
          subst hj
          have hit3 : ((j : Int) == (i : Int)) = false := by simp; omega
          rw [hrt] at HWR
          clear hrt
          go_wp2_with fail
          go_meet
          exact ⟨by first | rfl | rw [hit3], D, G, ep, HWR, HHR⟩
      obtain ⟨rfl, D', G', ep', HWX, HHX⟩ := hcut
      clear HWR HHR hfa hrt HFLUSH
      have hfu := dskFuse HWX.out.wl.dk 0 (by omega) (by omega)
      have HFU := Lib.hid hfu
      clear hfu
      go_wp2_with fail
      refine HFU.out.mono ?_
      clear HFU
      rintro e w8 ⟨rfl, hd8, hx8⟩
      have hwa8 := HWX.out.disk (d' := fuseD D' 0) hd8 hx8
      obtain ⟨k1, k2, k3⟩ := flushD_gone (c := ⟨.pointer (some ⟨H, 0, none⟩), 1, 11, 0, 1, t⟩) (L := R) (d := D') (f := 1) rfl HHX.out.on (by dsimp only; omega) (by dsimp only; rw [← HNR.out]; omega) (by have := HHX.out.room; have := HFIT.out R (by rw [← HNR.out]; exact Nat.le_refl _); omega)
      have hfl := walFlush hwa8.wl HS.out.d (by dsimp only; omega) (by dsimp only; omega) (by dsimp only; omega) (by dsimp only; rw [← HNR.out]; omega) (fun s => by rw [show ((fuseD D' 0).sec s) = D'.sec s from rfl, HHX.out.dry s]; simp)
      dsimp only at k1
      rw [← HNR.out] at k1
      obtain ⟨bv, hbv⟩ : ∃ bv, bv = eC ea (flushD ⟨.pointer (some ⟨H, 0, none⟩), 1, 11, 0, 1, t⟩ R (fuseD D' 0)).2 := ⟨_, rfl⟩
      rw [← hbv] at hfl
      rw [k1] at hbv
      have HBV := Lib.hid hbv
      have HFL := Lib.hid hfl
      have HWA8 := Lib.hid hwa8
      have HK2 := Lib.hid k2
      have HK3 := Lib.hid k3
      clear hd8 hx8 hwa8 k1 k2 k3 hfl hbv HWX
      go_wp2_with fail
      refine HFL.out.mono ?_
      clear HFL
      rintro e w9 ⟨rfl, g9, hw9, hx9⟩
      have hwa9 := HWA8.out.flush hw9 hx9
      generalize doneC ⟨.pointer (some ⟨H, 0, none⟩), 1, 11, 0, 1, t⟩ R (fuseD D' 0) = c9 at hwa9
      have hh10 := HHX.out.crash HK2.out HK3.out
      generalize (flushD ⟨.pointer (some ⟨H, 0, none⟩), 1, 11, 0, 1, t⟩ R (fuseD D' 0)).1 = D9 at hwa9 hh10
      have hcr := dskCrash hwa9.wl.dk (.slice none 0 0) [] (Ns.nil _ _) (fun h => absurd rfl h) (by simp)
      have HCR := Lib.hid hcr
      have HWA9 := Lib.hid hwa9
      have HH10 := Lib.hid hh10
      clear hw9 hx9 hwa9 hh10 hcr HWA8 HHX HK2 HK3
      go_wp2_with fail
      refine HCR.out.mono ?_
      clear HCR
      rintro e w10 ⟨rfl, g10, hd10, hx10⟩
      have hwa10 := HWA9.out.disk hd10 hx10
      have hh10 := HH10.out
      generalize crashD D9 [] = D10 at hwa10 hh10
      have hopen := hh10.open_ (epoch := 2) (reset := 1) (by omega) (by omega) (by omega)
      have hop := walOpen hwa10.wl.bel hwa10.wl.dk hwa10.wl.lowD HS.out 1 11 0 1 2 (by omega) (by omega) (by omega) (by omega) (fun k hk => by
        have h1 := hh10.read k hk
        exact ⟨h1.1, by rw [h1.2]; exact (hwa10.wl.dk.sec (1 + k) (by have := hh10.room; omega)).flen⟩)
      rw [hopen] at hop
      have htt : (R.take t).length = t := by rw [List.length_take, ← HNR.out]; omega
      have hop2 : Calls Tryd.prog 33 #[.pointer (some ⟨H, 0, none⟩), .int .i64 1, .int .i64 11, .int .i64 0, .int .i64 1, .int .i64 2] w10 fun e w' => ∃ X v, e = .returned (.tuple #[.pointer (some ⟨X, 0, none⟩), .nilIface]) ∧ WA w X H w' ⟨.pointer (some ⟨H, 0, none⟩), 1, 11, 0, 2, t⟩ v (R.take t) D10 g10 (.slice oR i cR) R := hop.mono (by
        rintro e w' h
        rcases h with ⟨L', X', v', hR, he, hw', ho'⟩ | ⟨k, a, hR, _⟩
        · have hL : L' = R.take t := (Sum.inl.inj hR).symm
          subst hL
          rw [htt] at hw'
          exact ⟨X', v', he, hwa10.open_ hw' ho'⟩
        · simp at hR)
      have HOP := Lib.hid hop2
      have HTT := Lib.hid htt
      clear hop hop2 hopen hd10 hx10 hwa10 hh10 HWA9 HH10 htt
      go_wp2_with fail
      refine HOP.out.mono ?_
      clear HOP
      rintro e w11 ⟨X7, v7, rfl, hwa11⟩
      have HWA11 := Lib.hid hwa11
      have hla : Calls Tryd.prog 29 #[.pointer (some ⟨X7, 0, none⟩)] w11 fun e w' => e = .returned (.int .i64 t) ∧ Qw w11 w' := (walLast hwa11.wl.lg).mono (by
        rintro e w' ⟨he, hq⟩
        rw [HTT.out] at he
        exact ⟨by rw [he]; congr 2; show (0 : Int) + (t : Int) = t; omega, hq⟩)
      have HLA := Lib.hid hla
      clear hwa11 hla
      go_upto_region 29 with fail
      go_cut [108] from 84 (fun s108 wx => s108 = .bool false ∧ Hid (Below w11.heap.size w11 wx))
      case first =>
        by_cases hit : t = i
        · subst hit
          have hb := HBV.out
          rw [if_pos rfl, eC_zero] at hb
          subst hb
          go_wp2_with fail
          refine HLA.out.mono ?_
          rintro e w12 ⟨rfl, hq12⟩
          have HQ := Lib.hid (hq12.below w11.heap.size)
          clear hq12 HLA
          go_wp2_with fail
          go_meet
          exact ⟨by first | rfl | simp, HQ⟩
        · have hb := HBV.out
          rw [if_neg (by omega), show eC ea 101 = .iface 124 (.pointer (some (ea 0))) from rfl] at hb
          subst hb
          have hit3 : ((t : Int) == (i : Int)) = false := by simp; omega
          go_wp2_with fail
          refine HLA.out.mono ?_
          rintro e w12 ⟨rfl, hq12⟩
          have HQ := Lib.hid (hq12.below w11.heap.size)
          clear hq12 HLA
          go_wp2_with fail
          go_meet
          exact ⟨by first | rfl | simp [hit3], HQ⟩
      obtain ⟨rfl, HQ12⟩ := hcut
      clear HLA HBV
      go_wp2_with fail
      go_loopw [16] (fun s wr => ∃ k : Nat, s = .int .i64 ((k : Int) + 1) ∧ k ≤ t ∧ Hid (Below w11.heap.size w11 wr)) (fun s _ => t + 1 - (intOf s).toNat)
      case atStart => exact ⟨0, rfl, by omega, HQ12⟩
      case round =>
        obtain ⟨k, rfl, hk, HBR⟩ := hrel
        clear HQ12
        by_cases hkm : (k : Int) + 1 ≤ t
        · obtain ⟨gb3, r, hgg, _, _, hrr, hrw, q0, q1, q2, q3, q4, q5, q6, q7, q8, q9⟩ := (HWA11.out.below HBR.out).og.at_ (k := k) (by rw [← HNR.out]; omega)
          subst hgg
          have hra : recAtN 0 (R.take t) ((k : Int) + 1) = some r := by
            unfold recAtN
            rw [if_pos (by rw [HTT.out]; omega), show ((k : Int) + 1 - 0 - 1).toNat = k from by omega, List.getElem?_take, if_pos (by omega)]
            exact hrr
          have hrec := walRecYes (HWA11.out.below HBR.out).wl.lg ((k : Int) + 1) r hra
          have HREC := Lib.hid hrec
          have hsame : sameRB r r = true := (sameRB_iff r r).2 rfl
          have HSAME := Lib.hid hsame
          clear hrr hrw hra hrec hsame
          obtain ⟨a0, a1, a2, a3, a4, a5, a6, a7, a8, a9⟩ := r
          dsimp only [recV] at HREC q0 q1 q2 q3 q4 q5 q6 q7 q8 q9
          go_wp2_with fail
          refine HREC.out.mono ?_
          clear HREC
          rintro e w12 ⟨rfl, hb12⟩
          obtain ⟨W13, hW13⟩ : ∃ W, W = w12.alloc (.cells #[.int .i64 a0, .int .i64 a1, .int .i64 a2, .int .i64 a3, .int .i64 a4, .int .i64 a5, .bool a6, .bool a7, .int .i64 a8, .int .i64 a9] 31) := ⟨_, rfl⟩
          have hb13 : Below w12.heap.size w12 W13 := by rw [hW13]; exact (Below.refl _ _).alloc (Nat.le_refl _) _
          have hr13 : RW w12.heap.size #[.int .i64 a0, .int .i64 a1, .int .i64 a2, .int .i64 a3, .int .i64 a4, .int .i64 a5, .bool a6, .bool a7, .int .i64 a8, .int .i64 a9] W13 := by rw [hW13]; exact RW.new w12 _
          have hbk := hb12.trans (hb13.mono hb12.size)
          have HBK := Lib.hid (HBR.out.trans (hbk.mono HBR.out.size))
          have p0 := (hbk.cell (Below.lt q0)).trans q0
          have p1 := (hbk.cell (Below.lt q1)).trans q1
          have p2 := (hbk.cell (Below.lt q2)).trans q2
          have p3 := (hbk.cell (Below.lt q3)).trans q3
          have p4 := (hbk.cell (Below.lt q4)).trans q4
          have p5 := (hbk.cell (Below.lt q5)).trans q5
          have p6 := (hbk.cell (Below.lt q6)).trans q6
          have p7 := (hbk.cell (Below.lt q7)).trans q7
          have p8 := (hbk.cell (Below.lt q8)).trans q8
          have p9 := (hbk.cell (Below.lt q9)).trans q9
          have hsr := sameRec ⟨a0, a1, a2, a3, a4, a5, a6, a7, a8, a9⟩ ⟨a0, a1, a2, a3, a4, a5, a6, a7, a8, a9⟩ W13.drew
          rw [HSAME.out] at hsr
          dsimp only [recV] at hsr
          have HSR := Lib.hid hsr
          have HW13 := Lib.hid hW13
          have HR13 := Lib.hid hr13
          clear q0 q1 q2 q3 q4 q5 q6 q7 q8 q9 hb12 hb13 hbk hsr hW13 hr13 HSAME HBR
          go_upto_region 35 with fail
          rw [← HW13.out]
          generalize w12.heap.size = A at HR13 ⊢
          obtain ⟨f0, f1, f2, f3, f4, f5, f6, f7, f8, f9⟩ := HR13.out.cells
          clear HW13 HR13
          have ix0 : (k : Int) + 1 - 1 = k := by omega
          have ix4 : (k : Int) < (i : Int) := by omega
          have ix1 : IntKind.i64.wrap ((k : Int) + 1 - 1) = k := by rw [IntKind.wrap_i64]; omega
          have ix2 : wrap64 ((k : Int) + 1 - 1) = k := by unfold wrap64; omega
          have ix3 : IntKind.i64.wrap (k : Int) = k := by rw [IntKind.wrap_i64]; omega
          go_region_law ((first | (go_simp; go_at_call 39; refine HSR.out.mono ?_; rintro e w14 ⟨rfl, hb14⟩)))
          all_goals
            have HB14 := Lib.hid (HBK.out.trans ((((Below.refl _ _).drew).trans hb14).mono HBK.out.size))
            clear f0 f1 f2 f3 f4 f5 f6 f7 f8 f9 p0 p1 p2 p3 p4 p5 p6 p7 p8 p9 hb14 ix0 ix1 ix2 ix3 ix4
            go_wp2_with fail
            go_roundw
            case rel => exact ⟨k + 1, by go_num, by omega, HB14⟩
            case measure => simp [intOf]; omega
        · go_wp2_with fail
          go_ret
          exact ⟨rfl, HWA11.out.wl.bel.trans (HBR.out.mono HWA11.out.wl.bel.size)⟩

theorem walFlushes_walk {ea : Nat → Addr} (v : Value) (l : List Int) (at_ : Int) (a1 : -9223372036854775808 ≤ at_) (a2 : at_ ≤ 9223372036854775807) (w : World) (hs : W5 ea w) (hv : Ns .i64 w v l) :
    Calls Tryd.prog 9 #[v, .int .i64 at_] w fun e w' => e = .returned (.bool true) ∧ Below w.heap.size w w' := by
  by_cases hl : (l.length : Int) ≤ 200
  · exact walFlushes_walk0 v l at_ a1 a2 w hs hv hl
  · exact walFlushes_idle v l at_ w hv (by omega)
end Go.Proofs.YtoikdhfihkbcbaaDoor
