/- The walk of the law DiskLoose. -/
import Derived.Test.YtcpicfahajhplaaDoorDskF
import Derived.Test.YtcpicfahajhplaaDoorDskL
import Derived.Test.YtcpicfahajhplaaDoorDskS
import Derived.Test.YtcpicfahajhplaaDoorFilled
import Derived.Test.YtcpicfahajhplaaDoorNum
import Derived.Test.YtcpicfahajhplaaDoorPairEq
import Derived.Deep.CutRange
namespace Go.Proofs.YtcpicfahajhplaaDoor
open Go.RowKit
set_option linter.unusedVariables false

theorem looseTo_prefix (d : DiskD) (a b : Nat) (h : a ≤ b) : ∃ r, looseTo d b = looseTo d a ++ r := by
  induction b with
  | zero => exact ⟨[], by rw [show a = 0 by omega]; simp⟩
  | succ b ih =>
    by_cases e : a = b + 1
    · subst e; exact ⟨[], by simp⟩
    · obtain ⟨r, hr⟩ := ih (by omega)
      exact ⟨r ++ _, by rw [looseTo_succ, hr, List.append_assoc]⟩
/-- where a loose sector stands in the list -/
theorem looseTo_at (d : DiskD) (n s : Nat) (h : s < n) (hp : 0 < (d.sec s).loose.length) :
    (looseTo d s).length < (looseTo d n).length ∧ (looseTo d n).getD (looseTo d s).length (0, 0) = (s, (d.sec s).loose.length) ∧ (looseTo d (s + 1)).length = (looseTo d s).length + 1 := by
  obtain ⟨r, hr⟩ := looseTo_prefix d (s + 1) n h
  have h1 := looseTo_succ d s
  rw [if_pos hp] at h1
  rw [h1] at hr
  refine ⟨by rw [hr]; simp, ?_, by rw [h1]; simp⟩
  rw [hr, List.append_assoc, List.getD_eq_getElem?_getD, List.getElem?_append_right (Nat.le_refl _)]
  simp
theorem looseTo_none (d : DiskD) (s : Nat) (hp : (d.sec s).loose.length = 0) : looseTo d (s + 1) = looseTo d s := by rw [looseTo_succ, hp]; simp
theorem looseTo_empty (d : DiskD) (n : Nat) (h : ∀ s, s < n → (d.sec s).loose.length = 0) : looseTo d n = [] := by
  induction n with
  | zero => rfl
  | succ n ih => rw [looseTo_none d n (h n (by omega)), ih fun s hs => h s (by omega)]

/-- six numbers' cells -/
def arr6 (c : Nat → Nat) : Array Value := #[.int .i64 (c 0 : Nat), .int .i64 (c 1 : Nat), .int .i64 (c 2 : Nat), .int .i64 (c 3 : Nat), .int .i64 (c 4 : Nat), .int .i64 (c 5 : Nat)]
def A6 (A : Nat) (c : Nat → Nat) (w : World) : Prop := w.heap[A]? = some (.cells (arr6 c) 37 (0, 0))
theorem A6.cell {A : Nat} {c : Nat → Nat} {w : World} (h : A6 A c w) {i : Nat} (hi : i < 6) : w.cell? ⟨A, i, none⟩ = some (.int .i64 (c i : Nat)) := by
  rw [cell_of_row w A _ _ _ (0, 0) h]
  match i, hi with
  | 0, _ | 1, _ | 2, _ | 3, _ | 4, _ | 5, _ => rfl
  | i + 6, h => omega
theorem A6.frozen {A : Nat} {c : Nat → Nat} {w : World} (h : A6 A c w) (i : Nat) : w.frozen? ⟨A, i, none⟩ = false := rowFrozen h i
theorem A6.set {A : Nat} {c : Nat → Nat} {w : World} (h : A6 A c w) {k : Nat} (hk : k < 6) (x : Nat) : A6 A (upd c k x) (w.setCell ⟨A, k, none⟩ (.int .i64 (x : Nat))) := by
  unfold A6
  rw [setCell_rowD h]
  match k, hk with
  | 0, _ | 1, _ | 2, _ | 3, _ | 4, _ | 5, _ => rfl
  | k + 6, h => omega

/-- how things stand between the writes -/
structure LState (w0 : World) (H A m : Nat) (w : World) (d : DiskD) (g : DG) (c : Nat → Nat) : Prop where
  dk : Dk w H d g
  bel : Below w0.heap.size w0 w
  low : ∀ b, g.F H d.l.length b → w0.heap.size ≤ b
  notA : ¬ g.F H d.l.length A
  lowA : w0.heap.size ≤ A
  row : A6 A c w
  len : d.l.length = 6
  off : d.off = false
  fuse : d.fuse = -1
  lo : ∀ s, s < 6 → (d.sec s).loose.length = c s
  le : ∀ s, s < 6 → c s ≤ m
theorem LState.ltA {w0 w : World} {H A m : Nat} {d : DiskD} {g : DG} {c : Nat → Nat} (h : LState w0 H A m w d g c) : A < w.heap.size := (Array.getElem?_eq_some_iff.1 h.row).1
theorem LState.below {w0 w w' : World} {H A m : Nat} {d : DiskD} {g : DG} {c : Nat → Nat} (h : LState w0 H A m w d g c) (hb : Below w.heap.size w w') : LState w0 H A m w' d g c :=
  ⟨h.dk.below hb, h.bel.trans (hb.mono h.bel.size), h.low, h.notA, h.lowA, by unfold A6; rw [hb.block A h.ltA]; exact h.row, h.len, h.off, h.fuse, h.lo, h.le⟩
theorem A6.zero {A : Nat} {c : Nat → Nat} {w : World} (h : A6 A c w) : A6 A (fun _ => 0) ((((((w.setCell ⟨A, 0, none⟩ (.int .i64 0)).setCell ⟨A, 1, none⟩ (.int .i64 0)).setCell ⟨A, 2, none⟩ (.int .i64 0)).setCell ⟨A, 3, none⟩ (.int .i64 0)).setCell ⟨A, 4, none⟩ (.int .i64 0)).setCell ⟨A, 5, none⟩ (.int .i64 0)) := by
  unfold A6
  rw [setCell_rowD (setCell_rowD (setCell_rowD (setCell_rowD (setCell_rowD (setCell_rowD h 0 _) 1 _) 2 _) 3 _) 4 _) 5 _]
  rfl
theorem ext_zero {A : Nat} (w : World) : Ext (fun b => b = A) w (fun b => b = A) ((((((w.setCell ⟨A, 0, none⟩ (.int .i64 0)).setCell ⟨A, 1, none⟩ (.int .i64 0)).setCell ⟨A, 2, none⟩ (.int .i64 0)).setCell ⟨A, 3, none⟩ (.int .i64 0)).setCell ⟨A, 4, none⟩ (.int .i64 0)).setCell ⟨A, 5, none⟩ (.int .i64 0)) :=
  have h := fun (w : World) (i : Nat) => ext_setCell (F := fun b => b = A) (w := w) rfl i (.int .i64 0)
  ((((((h w 0).trans (h _ 1)).trans (h _ 2)).trans (h _ 3)).trans (h _ 4)).trans (h _ 5))
/-- behind a call of the disk's, and what is written to the six numbers -/
theorem LState.turn {w0 w w' : World} {H A m m' : Nat} {d d' : DiskD} {g g' : DG} {c c' : Nat → Nat} (h : LState w0 H A m w d g c) (hd : Dk w' H d' g') (hx : Ext (g.F H d.l.length) w (g'.F H d'.l.length) w') (hl : d'.l.length = 6) (ho : d'.off = false) (hf : d'.fuse = -1)
    (w2 : World) (hw : Ext (fun b => b = A) w' (fun b => b = A) w2) (hr : A6 A c' w2) (hlo : ∀ s, s < 6 → (d'.sec s).loose.length = c' s) (hle : ∀ s, s < 6 → c' s ≤ m') : LState w0 H A m' w2 d' g' c' := by
  have hB := h.bel.trans (hx.below h.low h.bel.size)
  have hL := hx.low h.low h.bel.size
  have hN : ¬ g'.F H d'.l.length A := fun hf => (hx.grow A hf).elim h.notA fun hle => by have := h.ltA; omega
  exact ⟨hd.apart hw fun b hb e => hN (by rw [← e]; exact hb), hB.trans (hw.below (fun k e => by rw [e]; exact h.lowA) hB.size), hL, hN, h.lowA, hr, hl, ho, hf, hlo, hle⟩
theorem LState.noOff {ea : Nat → Addr} {w0 w : World} {H A m : Nat} {d : DiskD} {g : DG} {c : Nat → Nat} (h : LState w0 H A m w d g c) (hs : D3 ea w0) : ¬ g.F H d.l.length 0 := fun hf => by
  have h1 := h.low _ hf
  have h2 := Below.lt hs.o
  simp only at h2
  omega
theorem A6.ext {A : Nat} {c : Nat → Nat} {w w' : World} {F F' : Nat → Prop} (h : A6 A c w) (hx : Ext F w F' w') (hn : ¬ F A) : A6 A c w' := by
  unfold A6
  rw [hx.block A (Array.getElem?_eq_some_iff.1 h).1 hn]; exact h

theorem syncD_plain {d : DiskD} (ho : d.off = false) (hf : d.fuse = -1) : syncC d = 0 ∧ (syncD d).off = false ∧ (syncD d).fuse = -1 ∧ (∀ s, ((syncD d).sec s).loose.length = 0) := by
  have hs : spendB d = true := by simp [spendB, hf]
  have hsp : spendD d = d := by unfold spendD; rw [if_pos (by omega)]
  have hd : syncD d = { d with l := d.l.map syncS } := by simp [syncD, ho, hs, hsp]
  refine ⟨by simp [syncC, ho, hs], by rw [hd]; exact ho, by rw [hd]; exact hf, fun s => ?_⟩
  rw [hd]
  unfold DiskD.sec
  rw [List.getD_eq_getElem?_getD, List.getElem?_map]
  cases d.l[s]? <;> rfl
theorem writeD_plain {d : DiskD} (ho : d.off = false) (hf : d.fuse = -1) (k : Nat) (hk : k < d.l.length) (b : List Int) (hb : b.length = 256) :
    writeC d (k : Int) b = 0 ∧ writeD d (k : Int) b = addL d k b := by
  have hs : spendB d = true := by simp [spendB, hf]
  have hh : d.has (k : Int) = true := by simp [DiskD.has]; omega
  have hsp : spendD (addL d k b) = addL d k b := by unfold spendD; rw [if_pos (by show d.fuse < 0; omega)]
  exact ⟨by simp [writeC, ho, hh, hb, hs], by simp [writeD, ho, hh, hb, hsp]⟩
theorem addL_sec {d : DiskD} {k : Nat} (hk : k < d.l.length) (b : List Int) (s : Nat) : (addL d k b).sec s = if s = k then ⟨(d.sec k).fast, (d.sec k).loose ++ [b]⟩ else d.sec s := by
  unfold addL DiskD.sec
  simp only [List.getD_eq_getElem?_getD, List.getElem?_set]
  by_cases e : s = k
  · subst e; simp [hk]
  · rw [if_neg (Ne.symm e), if_neg e]

theorem newD_empty6 (i : Nat) : ((newD 6).sec i).loose.length = 0 := by
  by_cases h : i < newN 6
  · rw [newD_sec h]; rfl
  · have : (newD 6).l.length ≤ i := by rw [newD_len]; omega
    unfold DiskD.sec
    rw [getD_ge this]; rfl

theorem diskLoose_idle {ea : Nat → Addr} (v : Value) (l : List Int) (every : Int) (w : World) (hs : D3 ea w) (hv : Ns .i64 w v l) (hbig : (40 : Int) < l.length) :
    Calls Tryd.prog 4 #[v, .int .i64 every] w fun e w' => e = .returned (.bool true) ∧ Below w.heap.size w w' := by
  obtain ⟨_, o, cap, rfl, hc1, hc2, hc3, _⟩ := hv
  unfold maxLen at hc2
  have HF := Lib.hid (dskFirst w hs)
  clear hs
  generalize l.length = n at *
  go_enter Tryd.func4, Tryd.ntmps4
  go_wp2_with fail
  refine HF.out.mono ?_
  rintro e w1 ⟨rfl, hb1⟩
  have HB1 := Lib.hid hb1
  clear hb1
  go_wp2_with fail
  go_ret
  exact ⟨rfl, HB1.out⟩

set_option maxRecDepth 20000 in
set_option maxHeartbeats 4000000 in
theorem diskLoose_walk0 {ea : Nat → Addr} (v : Value) (l : List Int) (every : Int) (e1 : -9223372036854775808 ≤ every) (e2 : every ≤ 9223372036854775807) (w : World) (hs : D3 ea w) (hv : Ns .i64 w v l) (hl : (l.length : Int) ≤ 40) :
    Calls Tryd.prog 4 #[v, .int .i64 every] w fun e w' => e = .returned (.bool true) ∧ Below w.heap.size w w' := by
  have HV := Lib.hid hv
  obtain ⟨hwf, o, cap, rfl, hc1, hc2, hc3, hcell⟩ := hv
  unfold maxLen at hc2
  have HF := Lib.hid (dskFirst w hs)
  have HS := Lib.hid hs
  have hne := fun W => number every 20 W (by omega) (by omega) e1 e2
  obtain ⟨q, hq⟩ := Int.eq_ofNat_of_zero_le (Int.emod_nonneg every (show (20 : Int) ≠ 0 by omega))
  have hq1 := Int.emod_lt_of_pos every (show (0 : Int) < 20 by omega)
  rw [hq] at hne hq1
  have HNE := Lib.hid hne
  have HCELL := Lib.hid (fun i (hi : i < l.length) => Ns.at_ hwf hcell hi)
  have hnew := fun W => dskNew 6 W
  have h6 : (newD 6).l.length = 6 := newD_len 6
  have h6o : (newD 6).off = false := rfl
  have h6f : (newD 6).fuse = -1 := rfl
  have h6e := newD_empty6
  generalize newD 6 = d0 at hnew h6 h6o h6f h6e
  have HNEW := Lib.hid hnew
  obtain ⟨n, hn⟩ : ∃ n, n = l.length := ⟨_, rfl⟩
  rw [← hn] at hc1 hl ⊢
  have HN := Lib.hid hn
  have HD0 := Lib.hid (And.intro h6 (And.intro h6o (And.intro h6f h6e)))
  clear hq hne hs hwf hcell hnew hn h6 h6o h6f h6e e1 e2
  go_enter Tryd.func4, Tryd.ntmps4
  go_wp2_with fail
  refine HF.out.mono ?_
  clear HF
  rintro e w1 ⟨rfl, hb1⟩
  have HB1 := Lib.hid hb1
  clear hb1
  go_wp2_with fail
  refine (HNE.out _).mono ?_
  clear HNE
  rintro e w2 ⟨rfl, rfl⟩
  go_wp2_with fail
  refine (HNEW.out _).mono ?_
  clear HNEW
  rintro e w2 ⟨⟨H, g, rfl, hd2, hlow⟩, hb2⟩
  have hal : Below w2.heap.size w2 (w2.alloc (.cells #[.int .i64 0, .int .i64 0, .int .i64 0, .int .i64 0, .int .i64 0, .int .i64 0] 37)) := (Below.refl _ _).alloc (Nat.le_refl _) _
  have hbw2 := HB1.out.trans (hb2.mono HB1.out.size)
  have HST0 : Hid (LState w H w2.heap.size 0 (w2.alloc (.cells #[.int .i64 0, .int .i64 0, .int .i64 0, .int .i64 0, .int .i64 0, .int .i64 0] 37)) d0 g (fun _ => 0)) := Lib.hid
    ⟨hd2.below hal, hbw2.trans (hal.mono hbw2.size), fun b hb => Nat.le_trans HB1.out.size (hlow b hb), fun hf => by have := hd2.low hf; omega, hbw2.size, heap_alloc_new w2 _, HD0.out.1, HD0.out.2.1, HD0.out.2.2.1, fun s _ => HD0.out.2.2.2 s, fun s _ => Nat.le_refl _⟩
  clear hd2 hlow hb2 hal hbw2 HB1 HD0
  go_wp2_with fail
  generalize (w2.alloc (.cells #[.int .i64 0, .int .i64 0, .int .i64 0, .int .i64 0, .int .i64 0, .int .i64 0] 37)) = w3 at HST0 ⊢
  generalize w2.heap.size = A at HST0 ⊢
  go_loopw [8] (fun i wr => ∃ k : Nat, i = .int .i64 k ∧ (k : Int) ≤ n ∧ ∃ d g c, Hid (LState w H A k wr d g c)) (fun i _ => n - (intOf i).toNat)
  case atStart => exact ⟨0, rfl, by omega, d0, g, _, HST0⟩
  case round =>
    obtain ⟨k, rfl, hk, d, g, c, HST⟩ := hrel
    by_cases hk2 : (k : Int) < n
    · have htm : (k : Int).tmod ((q : Int) + 2) = ((k % (q + 2) : Nat) : Int) := by exact_mod_cast (Int.ofNat_tmod k (q + 2)).symm
      obtain ⟨r, hr⟩ : ∃ r, r = k % (q + 2) := ⟨_, rfl⟩
      rw [← hr] at htm
      have hq0 : ¬ ((q : Int) + 2 = 0) := by omega
      clear hr
      go_upto_if 37 with fail
      go_cut [] from 26 to 95 (fun wx => ∃ d' g' c', Hid (LState w H A k wx d' g' c'))
      case first =>
        cases hb : ((r : Int) == (q : Int) + 2 - 1) with
        | true =>
          have hsy := dskSync HST.out.dk (HS.out.below HST.out.bel) (HST.out.noOff HS.out)
          obtain ⟨p1, p2, p3, p4⟩ := syncD_plain HST.out.off HST.out.fuse
          rw [p1, eC_zero] at hsy
          have HSY := Lib.hid hsy
          have HLE : Hid (looseD (syncD d) = []) := Lib.hid (looseTo_empty _ _ fun s _ => p4 s)
          have HP2 := Lib.hid p2
          have HP3 := Lib.hid p3
          have HP4 := Lib.hid p4
          have HLN : Hid ((syncD d).l.length = 6) := Lib.hid (by rw [syncD_len]; exact HST.out.len)
          clear hsy p1 p2 p3 p4
          go_wp2_with fail
          refine HSY.out.mono ?_
          clear HSY
          rintro e w4 ⟨rfl, g4, hd4, hx4⟩
          have HD4 := Lib.hid hd4
          have HX4 := Lib.hid hx4
          have HR4 := Lib.hid (HST.out.row.ext hx4 HST.out.notA)
          clear hd4 hx4
          go_wp2_with fail
          refine (dskLoose HD4.out).mono ?_
          rintro e w5 ⟨⟨v5, rfl, hp5⟩, hb5⟩
          rw [HLE.out] at hp5
          obtain ⟨o5, k5, hv5, h51, h52⟩ := hp5.form
          rw [List.length_nil] at hv5 h51
          subst hv5
          unfold maxLen at h52
          have hrow5 : A6 A c w5 := by unfold A6; rw [hb5.block A (Array.getElem?_eq_some_iff.1 HR4.out).1]; exact HR4.out
          have HFIN := Lib.hid (HST.out.turn (HD4.out.below hb5) (HX4.out.trans (Ext.of_below hb5)) HLN.out HP2.out HP3.out _ (ext_zero w5) hrow5.zero (m' := k) (fun s _ => HP4.out s) (fun s _ => Nat.zero_le _))
          have r0 := hrow5.cell (i := 0) (by omega)
          have r1 := hrow5.cell (i := 1) (by omega)
          have r2 := hrow5.cell (i := 2) (by omega)
          have r3 := hrow5.cell (i := 3) (by omega)
          have r4 := hrow5.cell (i := 4) (by omega)
          have r5 := hrow5.cell (i := 5) (by omega)
          have rf := hrow5.frozen
          clear hp5 hb5 hrow5 HD4 HX4 HR4 HP2 HP3 HP4 HLE HLN
          go_wp2_with fail
          go_meet
          exact ⟨_, _, _, HFIN⟩
        | false =>
          go_wp2_with fail
          go_meet
          exact ⟨d, g, c, HST⟩
      obtain ⟨d1, g1, c1, HST1⟩ := hcut
      clear HST htm hq0
      generalize wc = w5 at HST1 ⊢
      obtain ⟨a, x, ha, hxc, _, hxw⟩ := HCELL.out k (by rw [← HN.out]; omega)
      subst ha
      have hxc1 : w5.cell? (a.add k) = some (.int .i64 x) := (HST1.out.bel.cell (Below.lt hxc)).trans hxc
      have hxb := wf_i64 hxw
      have hnx := fun W => number x 6 W (by omega) (by omega) hxb.1 hxb.2
      obtain ⟨t, ht⟩ := Int.eq_ofNat_of_zero_le (Int.emod_nonneg x (show (6 : Int) ≠ 0 by omega))
      have ht1 := Int.emod_lt_of_pos x (show (0 : Int) < 6 by omega)
      rw [ht] at hnx ht1
      have HNX := Lib.hid hnx
      have ht6 : t < 6 := by omega
      clear hnx ht hxb hxw hxc
      go_wp2_with fail
      refine (HNX.out _).mono ?_
      clear HNX
      rintro e w6 ⟨rfl, rfl⟩
      clear hxc1
      go_wp2_with fail
      refine (filled (k : Int) _).mono ?_
      rintro e w7 ⟨⟨f, rfl, hf⟩, hb7⟩
      have HST7 := Lib.hid (HST1.out.below hb7)
      have hfl : (List.replicate 256 ((k : Int) % 256)).length = 256 := List.length_replicate
      have hfb := hf.bs
      generalize List.replicate 256 ((k : Int) % 256) = fb at hfl hfb
      obtain ⟨w1', w2'⟩ := writeD_plain HST7.out.off HST7.out.fuse t (by rw [HST7.out.len]; exact ht6) fb hfl
      have hwr := dskWrite HST7.out.dk (HS.out.below HST7.out.bel) (HST7.out.noOff HS.out) (t : Int) (by omega) (by omega) f fb hfb (by rw [Int.toNat_natCast, HST7.out.lo t ht6]; have := HST7.out.le t ht6; omega)
      rw [w1', w2', eC_zero] at hwr
      have HWR := Lib.hid hwr
      have HFL := Lib.hid hfl
      clear hf hb7 hfb hwr w1' w2' HST1 hfl
      go_wp2_with fail
      refine HWR.out.mono ?_
      clear HWR
      rintro e w8 ⟨rfl, g8, hd8, hx8⟩
      have hrow8 := HST7.out.row.ext hx8 HST7.out.notA
      have hct : c1 t ≤ 40 := by have := HST7.out.le t ht6; omega
      have hst9 := HST7.out.turn hd8 hx8 (by rw [addL_len]; exact HST7.out.len) HST7.out.off HST7.out.fuse _ (ext_setCell (F := fun b => b = A) rfl t (.int .i64 ((c1 t + 1 : Nat) : Int))) (hrow8.set ht6 (c1 t + 1)) (m' := k + 1)
        (fun s hs => by
          rw [addL_sec (by rw [HST7.out.len]; exact ht6)]
          by_cases e : s = t
          · subst e; rw [if_pos rfl, upd_at]; simp [HST7.out.lo s hs]
          · rw [if_neg e, upd_ne _ _ e]; exact HST7.out.lo s hs)
        (fun s hs => by
          by_cases e : s = t
          · subst e; rw [upd_at]; have := HST7.out.le s hs; omega
          · rw [upd_ne _ _ e]; have := HST7.out.le s hs; omega)
      have ecast : ((c1 t + 1 : Nat) : Int) = (c1 t : Int) + 1 := by push_cast; rfl
      rw [ecast] at hst9
      have HST9 := Lib.hid hst9
      have rc := hrow8.cell ht6
      have rf := hrow8.frozen t
      generalize addL d1 t fb = D at hst9 HST9 hd8
      generalize upd c1 t (c1 t + 1) = c2 at hst9 HST9
      clear hd8 hx8 hrow8 hst9 HST7 ecast HFL
      go_wp2_with fail
      generalize (w8.setCell ⟨A, t, none⟩ (.int .i64 ((c1 t : Int) + 1))) = w9 at HST9 ⊢
      clear rc rf hct
      refine (dskLoose HST9.out.dk).mono ?_
      rintro e w10 ⟨⟨vp, rfl, hp⟩, hb10⟩
      have HST10 := Lib.hid (HST9.out.below hb10)
      unfold looseD at hp
      rw [HST9.out.len] at hp
      obtain ⟨op, kp, hvp, hp1, hp2⟩ := hp.form
      subst hvp
      unfold maxLen at hp2
      have HP := Lib.hid hp
      have HLO : Hid (∀ s, s < 6 → (D.sec s).loose.length = c2 s) := Lib.hid HST9.out.lo
      have hnl := looseTo_len D 6
      obtain ⟨nl, hnle⟩ : ∃ nl, nl = (looseTo D 6).length := ⟨_, rfl⟩
      rw [← hnle] at hp1 hnl ⊢
      have HNL := Lib.hid hnle
      clear hp hb10 HST9 hnle
      go_wp2_with fail
      go_loopw [10, 12] (fun at_ s wx => ∃ s' : Nat, s = .int .i64 s' ∧ (s' : Int) ≤ 6 ∧ at_ = .int .i64 ((looseTo D s').length : Nat) ∧ Hid (Below w10.heap.size w10 wx)) (fun _ s _ => 6 - (intOf s).toNat)
      case atStart => exact ⟨0, rfl, by omega, rfl, Lib.hid (Below.refl _ _)⟩
      case round =>
        obtain ⟨s', rfl, hs', rfl, HBX⟩ := hrel
        have hsl := looseTo_len D s'
        by_cases hs6 : (s' : Int) < 6
        · have hs6n : s' < 6 := by omega
          have hrx := (HST10.out.below HBX.out).row.cell hs6n
          have hlo := HLO.out s' hs6n
          by_cases hz : c2 s' = 0
          · have e := looseTo_none D s' (by rw [hlo, hz])
            rw [hz] at hrx
            have HE := Lib.hid e
            clear hz hlo e hsl
            go_wp2_with fail
            go_roundw
            case rel => exact ⟨s' + 1, by go_num, by omega, by rw [HE.out], HBX⟩
            case measure => simp [intOf]; omega
          · obtain ⟨hat1, hat2, hat3⟩ := looseTo_at D 6 s' hs6n (by rw [hlo]; omega)
            obtain ⟨gb, kb, hvb, _, hgl, hq1, hq2⟩ := PrAt.at_ HP.out (i := (looseTo D s').length) hat1
            simp only [Value.slice.injEq] at hvb
            obtain ⟨rfl, _, rfl⟩ := hvb
            rw [hat2, hlo] at hq1 hq2
            simp only at hq1 hq2
            have hq1' := (HBX.out.cell (p := ⟨gb, (looseTo D s').length * 2, none⟩) hgl).trans hq1
            have hq2' := (HBX.out.cell (p := ⟨gb, (looseTo D s').length * 2 + 1, none⟩) hgl).trans hq2
            have hneq := fun W => neqPair (s' : Int) (c2 s' : Int) W
            have hc2 : ((c2 s' : Int) == 0) = false := by simp; omega
            rw [← HNL.out] at hat1
            have hat1' : ((looseTo D s').length : Int) < (nl : Int) := by exact_mod_cast hat1
            have HAT3 := Lib.hid hat3
            generalize (looseTo D s').length = ix at *
            clear hq1 hq2 hat2 hat3 hlo hz
            have hge : decide (nl ≤ ix) = false := by simp; omega
            go_wp2_with fail
            go_region
            all_goals
              go_wp2_with fail
              go_roundw
              case rel => exact ⟨s' + 1, by go_num, by omega, by rw [HAT3.out]; go_num, Lib.hid (HBX.out.trans (bdrew _ _ _))⟩
              case measure => simp [intOf]; omega
        · obtain rfl : s' = 6 := by omega
          have HST11 := Lib.hid (HST10.out.below HBX.out)
          rw [← HNL.out]
          clear HBX
          go_wp2_with fail
          go_roundw
          case rel => exact ⟨k + 1, by go_num, by omega, D, g8, c2, HST11⟩
          case measure => simp [intOf]; omega
    · go_wp2_with fail
      go_ret
      exact ⟨rfl, HST.out.bel⟩

theorem diskLoose_walk {ea : Nat → Addr} (v : Value) (l : List Int) (every : Int) (e1 : -9223372036854775808 ≤ every) (e2 : every ≤ 9223372036854775807) (w : World) (hs : D3 ea w) (hv : Ns .i64 w v l) :
    Calls Tryd.prog 4 #[v, .int .i64 every] w fun e w' => e = .returned (.bool true) ∧ Below w.heap.size w w' := by
  by_cases h : (40 : Int) < l.length
  · exact diskLoose_idle v l every w hs hv h
  · exact diskLoose_walk0 v l every e1 e2 w hs hv (by omega)
end Go.Proofs.YtcpicfahajhplaaDoor
