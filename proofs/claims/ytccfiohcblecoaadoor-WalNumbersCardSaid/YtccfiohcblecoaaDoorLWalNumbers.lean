/- The walk of the law WalNumbers. -/
import Derived.Test.YtccfiohcblecoaaDoorWalD
import Derived.Test.YtccfiohcblecoaaDoorMkx
import Derived.Test.YtccfiohcblecoaaDoorRecS
import Derived.Test.YtccfiohcblecoaaDoorNum
namespace Go.Proofs.YtccfiohcblecoaaDoor
open Go.RowKit
set_option linter.unusedVariables false

theorem roomN_of {c : LogC} {bl b : Int} (h1 : c.blocks = bl) (h2 : c.base = b) (h3 : b ≤ 1000) (k : Nat) (hk : (k : Int) ≤ bl * 6) (hbl : bl ≤ 12) : roomN c k = bl * 6 - k := by
  unfold roomN; rw [h1, h2]; omega
/-- a log and a Seq, apart, above what was -/
structure WN (w0 w : World) (X q : Nat) (c : LogC) (v sv : Value) (p : Int) (L : List RecD) : Prop where
  lg : Lg 102 w X c v L
  seq : SeqAt w q sv p
  bel : Below w0.heap.size w0 w
  lx : ∀ b, LogC.F X v b → w0.heap.size ≤ b
  hq : w0.heap.size ≤ q
  qx : ¬ LogC.F X v q
theorem WN.below {w0 w w' : World} {X q : Nat} {c : LogC} {v sv : Value} {p : Int} {L : List RecD} (h : WN w0 w X q c v sv p L) (hb : Below w.heap.size w w') : WN w0 w' X q c v sv p L :=
  ⟨h.lg.below hb, by unfold SeqAt; rw [hb.block q (Array.getElem?_eq_some_iff.1 h.seq).1]; exact h.seq, h.bel.trans (hb.mono h.bel.size), h.lx, h.hq, h.qx⟩
theorem WN.made {w0 w w' : World} {X q : Nat} {c : LogC} {v sv : Value} {p p' : Int} {L : List RecD} (h : WN w0 w X q c v sv p L) (hs : SeqAt w' q sv p') (he : Ext (fun b => b = q) w (fun b => b = q) w') : WN w0 w' X q c v sv p' L :=
  ⟨h.lg.apart he (fun b h1 (h2 : b = q) => h.qx (by rw [← h2]; exact h1)), hs, h.bel.trans (he.below (fun k hk => by rw [hk]; exact h.hq) h.bel.size), h.lx, h.hq, h.qx⟩
theorem WN.put {w0 w w' : World} {X q : Nat} {c : LogC} {v v' sv : Value} {p : Int} {L M : List RecD} (h : WN w0 w X q c v sv p L) (hl : Lg 102 w' X c v' M) (he : Ext (LogC.F X v) w (LogC.F X v') w') : WN w0 w' X q c v' sv p M :=
  ⟨hl, by unfold SeqAt; rw [he.block q (Array.getElem?_eq_some_iff.1 h.seq).1 h.qx]; exact h.seq, h.bel.trans (he.below h.lx h.bel.size), he.low h.lx h.bel.size, h.hq, fun hf => by
    rcases he.grow q hf with h1 | h1
    · exact h.qx h1
    · have := (Array.getElem?_eq_some_iff.1 h.seq).1; omega⟩

theorem walNumbers_idle (blocks base : Int) (v : Value) (l : List Int) (w : World) (hv : Ns .i64 w v l) (hbig : (200 : Int) < l.length) :
    Calls Tryd.prog 3 #[.int .i64 blocks, .int .i64 base, v] w fun e w' => e = .returned (.bool true) ∧ Below w.heap.size w w' := by
  obtain ⟨_, o, cap, rfl, hc1, hc2, hc3, _⟩ := hv
  unfold maxLen at hc2
  have HF := Lib.hid (walFirst w)
  generalize l.length = n at *
  go_enter Tryd.func3, Tryd.ntmps3
  go_wp2_with fail
  refine HF.out.mono ?_
  rintro e w1 ⟨rfl, hb1⟩
  have HB1 := Lib.hid hb1
  clear hb1
  go_wp2_with fail
  go_ret
  exact ⟨rfl, HB1.out⟩

set_option maxRecDepth 20000 in
set_option maxHeartbeats 4000000 in
theorem walNumbers_walk0 {ea : Nat → Addr} (blocks base : Int) (v : Value) (l : List Int) (b1 : -9223372036854775808 ≤ blocks) (b2 : blocks ≤ 9223372036854775807) (c1 : -9223372036854775808 ≤ base) (c2 : base ≤ 9223372036854775807) (w : World) (hs : Sen ea w) (hv : Ns .i64 w v l) (hl : (l.length : Int) ≤ 200) :
    Calls Tryd.prog 3 #[.int .i64 blocks, .int .i64 base, v] w fun e w' => e = .returned (.bool true) ∧ Below w.heap.size w w' := by
  have HS := Lib.hid hs
  have HV := Lib.hid hv
  have HF := Lib.hid (walFirst w)
  have hm0 := Int.emod_nonneg blocks (show (12 : Int) ≠ 0 by omega)
  have hm1 := Int.emod_lt_of_pos blocks (show (0 : Int) < 12 by omega)
  have HN1 := Lib.hid (fun W => number blocks 12 W (by omega) (by omega) b1 b2)
  generalize blocks % 12 = q at hm0 hm1 HN1
  have hb0 := Int.emod_nonneg base (show (1000 : Int) ≠ 0 by omega)
  have hb1 := Int.emod_lt_of_pos base (show (0 : Int) < 1000 by omega)
  have HN2 := Lib.hid (fun W => number base 1000 W (by omega) (by omega) c1 c2)
  generalize base % 1000 = b at hb0 hb1 HN2
  obtain ⟨bl, hbl⟩ : ∃ bl, bl = q + 1 := ⟨_, rfl⟩
  have hbl1 : 1 ≤ bl := by omega
  have hbl2 : bl ≤ 12 := by omega
  have HBL := Lib.hid hbl
  obtain ⟨_, o, cap, rfl, hc1, hc2, hc3, hcell⟩ := hv
  have HVL : Hid (l ≠ [] → ∀ b, (Value.slice o l.length cap).ownBlock = some b → b < w.heap.size) := Lib.hid (fun hne b e => by
    obtain ⟨a, rfl, hc⟩ := hcell hne
    have h := Below.lt (hc 0 (List.length_pos_iff.2 hne))
    have e1 : (a.add 0).block = a.block := by unfold Addr.add; split <;> rfl
    rw [e1] at h
    have e2 : a.block = b := by simpa [Value.ownBlock] using e
    omega)
  unfold maxLen at hc2
  obtain ⟨n, hn⟩ : ∃ n, n = l.length := ⟨_, rfl⟩
  rw [← hn] at hc1 hl HVL ⊢
  have HN := Lib.hid hn
  clear hs hn hcell hc3 b1 b2 c1 c2 hbl
  go_enter Tryd.func3, Tryd.ntmps3
  go_wp2_with fail
  refine HF.out.mono ?_
  clear HF
  rintro e w1 ⟨rfl, hbb⟩
  have HB1 := Lib.hid hbb
  clear hbb
  go_wp2_with fail
  refine (HN1.out _).mono ?_
  clear HN1
  rintro e w1' ⟨rfl, rfl⟩
  go_upto_region 7 with fail
  rw [← HBL.out]
  go_wp2_with fail
  refine (HN2.out _).mono ?_
  clear HN2
  rintro e w1' ⟨rfl, rfl⟩
  go_wp2_with fail
  refine (dskNew bl w1).mono ?_
  rintro e w2 ⟨⟨H, g, rfl, _, _⟩, hbb⟩
  have HB2 := Lib.hid (HB1.out.trans (hbb.mono HB1.out.size))
  clear hbb
  go_wp2_with fail
  refine (walNew (.pointer (some ⟨H, 0, none⟩)) 0 bl b 1 w2 _ rfl).mono ?_
  rintro e w3 ⟨rfl, rfl⟩
  have hcx : LogC.Ok ⟨.pointer (some ⟨H, 0, none⟩), 0, bl, b, 1, 0⟩ := ⟨hb0, by simp; omega, by simp; omega, by simp; omega, by simp, by simp⟩
  obtain ⟨c, hc⟩ : ∃ c : LogC, c = ⟨.pointer (some ⟨H, 0, none⟩), 0, bl, b, 1, 0⟩ := ⟨_, rfl⟩
  have HCB : Hid (c.base = b ∧ c.blocks = bl ∧ c.done = 0) := Lib.hid (by rw [hc]; exact ⟨rfl, rfl, rfl⟩)
  rw [← hc] at hcx ⊢
  have hx3 := Lg.new 102 w2 c hcx
  have hb3 : Below w.heap.size w (w2.alloc (.cells (headCs c (.slice none 0 0)) 102)) := HB2.out.alloc HB2.out.size _
  have hX : w.heap.size ≤ w2.heap.size := HB2.out.size
  generalize (w2.alloc (.cells (headCs c (.slice none 0 0)) 102)) = w3 at hx3 hb3 ⊢
  generalize w2.heap.size = X at hx3 hX ⊢
  have HX3 := Lib.hid hx3
  have HB3 := Lib.hid hb3
  have HXL := Lib.hid hX
  clear hx3 hb3 hX hcx hc HB1 HB2
  go_upto_region 15 with fail
  have hal : Below w3.heap.size w3 (w3.alloc (.cells #[.slice o n cap, .int .i64 0] 31)) := (Below.refl _ _).alloc (Nat.le_refl _) _
  have HW4 : Hid (WN w (w3.alloc (.cells #[.slice o n cap, .int .i64 0] 31)) X w3.heap.size c (.slice none 0 0) (.slice o n cap) 0 []) := Lib.hid
    ⟨HX3.out.below hal, heap_alloc_new w3 _, HB3.out.trans (hal.mono HB3.out.size), fun bb hb => by
      rcases hb with rfl | hb
      · exact HXL.out
      · simp [Value.ownBlock] at hb, HB3.out.size, fun hf => by
      rcases hf with h | h
      · have := HX3.out.low (.inl rfl); omega
      · simp [Value.ownBlock] at h⟩
  have HVN : Hid (Ns .i64 w (.slice o n cap) l) := Lib.hid (by rw [HN.out]; exact HV.out)
  have HVQ : Hid (l ≠ [] → (Value.slice o n cap).ownBlock ≠ some w3.heap.size) := Lib.hid (fun hne e => by
    have h1 := HVL.out hne _ e
    have h2 := HB3.out.size
    omega)
  generalize (w3.alloc (.cells #[.slice o n cap, .int .i64 0] 31)) = w4 at HW4 ⊢
  generalize w3.heap.size = Q at HW4 HVQ ⊢
  clear hal HX3 HB3 HXL HV
  go_wp2_with fail
  go_loopw [11] (fun s wr => ∃ k : Nat, s = .int .i64 ((k : Int) + 1) ∧ (k : Int) ≤ bl * 6 ∧ ∃ vx p L, Hid (L.length = k) ∧ 0 ≤ p ∧ p ≤ 10 * (k : Int) ∧ Hid (WN w wr X Q c vx (.slice o n cap) p L)) (fun s _ => (bl * 6 + 1 - intOf s).toNat)
  case atStart => exact ⟨0, by go_num, by omega, _, 0, [], Lib.hid rfl, by omega, by omega, HW4⟩
  case round =>
    obtain ⟨k, rfl, hk, vx, p, L, HLL, hp0, hp1, HWN⟩ := hrel
    clear HW4
    by_cases hkb : (k : Int) < bl * 6
    · have hle : (k : Int) + 1 ≤ bl * 6 := by omega
      have HMX := Lib.hid (makeX Q (.slice o n cap) l wr p HWN.out.seq (HVN.out.below HWN.out.bel) HVQ.out (by have := HN.out; omega) hp0 (by omega))
      go_wp2_with fail
      refine HMX.out.mono ?_
      clear HMX
      rintro e w5 ⟨r, p2, rfl, hrw, hrok, hp2a, hp2b, hs5, he5⟩
      have HW5 := Lib.hid (HWN.out.made hs5 he5)
      have hal : Below w5.heap.size w5 (w5.alloc (.cells (recCs r) 33)) := (Below.refl _ _).alloc (Nat.le_refl _) _
      obtain ⟨W6, hW6⟩ : ∃ W6, W6 = w5.alloc (.cells (recCs r) 33) := ⟨_, rfl⟩
      have hrw6 : RW w5.heap.size (recCs r) W6 := by rw [hW6]; exact RW.new w5 _
      rw [← hW6] at hal
      have HW6 := Lib.hid (HW5.out.below hal)
      have HR6 := Lib.hid hrw6
      have HWW := Lib.hid hW6
      have HAF : Hid (¬ LogC.F X vx w5.heap.size) := Lib.hid (fun hf => by have := HW5.out.lg.low hf; omega)
      have hroom := walRoom HW6.out.lg
      rw [HLL.out, roomN_of HCB.out.2.1 HCB.out.1 (by omega) k hk hbl2, show bl * 6 - (k : Int) = bl * 6 - ((k : Int) + 1) + 1 by omega] at hroom
      have HROOM := Lib.hid hroom
      have happ := fun W vx' (h : Lg 102 W X c vx' L) (hs : Sen ea W) => walAppend h hs r hrw hrok (by rw [HLL.out, roomN_of HCB.out.2.1 HCB.out.1 (by omega) k hk hbl2]; omega) (by rw [HLL.out]; omega)
      rw [HCB.out.1, HLL.out, show b + (k : Int) + 1 = b + ((k : Int) + 1) by omega] at happ
      have HAPP := Lib.hid happ
      have hrec : recAtN c.base (L ++ [r]) (b + ((k : Int) + 1)) = some r := by
        unfold recAtN
        rw [HCB.out.1, if_pos (by rw [List.length_append, HLL.out]; simp; omega)]
        have e : (b + ((k : Int) + 1) - b - 1).toNat = L.length := by rw [HLL.out]; omega
        rw [e]; simp
      have HREC := Lib.hid hrec
      have HLL2 : Hid ((L ++ [r]).length = k + 1) := Lib.hid (by rw [List.length_append, HLL.out]; rfl)
      have hsame := fun W => sameRec r r W
      have hsme : sameRB r r = true := (sameRB_iff _ _).2 rfl
      rw [hsme] at hsame
      have HSAME := Lib.hid hsame
      clear hs5 he5 hrw hrok hal hW6 hrw6 HWN hroom happ hrec hsame hsme HW5
      obtain ⟨a0, a1, a2, a3, a4, a5, a6, a7, a8, a9⟩ := r
      dsimp only [recV, recCs] at HR6 HWW HAPP HSAME ⊢
      go_upto_region 19 with fail
      rw [← HWW.out]
      generalize w5.heap.size = A at HR6 HAF ⊢
      clear HWW
      go_wp2_with fail
      refine HROOM.out.mono ?_
      clear HROOM
      rintro e w7 ⟨rfl, hq7⟩
      have hb7 : Below W6.heap.size W6 w7 := hq7.below _
      have HW7 := Lib.hid (HW6.out.below hb7)
      have HR7 := Lib.hid (HR6.out.below hb7)
      obtain ⟨c0, c1, c2, c3, c4, c5, c6, c7, c8, c9⟩ := HR7.out.cells
      clear hq7 hb7 HW6 HR6
      go_wp2_with fail
      refine (HAPP.out _ _ HW7.out.lg (HS.out.below HW7.out.bel)).mono ?_
      clear HAPP
      rintro e w8 ⟨rfl, vx8, hx8, he8⟩
      have HR8 := Lib.hid (show RW A #[.int .i64 a0, .int .i64 a1, .int .i64 a2, .int .i64 a3, .int .i64 a4, .int .i64 a5, .bool a6, .bool a7, .int .i64 a8, .int .i64 a9] w8 by
        unfold RW; rw [he8.block A HR7.out.lt HAF.out]; exact HR7.out)
      have HW8 := Lib.hid (HW7.out.put hx8 he8)
      have HRY := Lib.hid (walRecYes HW8.out.lg _ _ HREC.out)
      dsimp only [recV] at HRY
      clear hx8 he8 HW7 HR7 HREC HAF c0 c1 c2 c3 c4 c5 c6 c7 c8 c9
      go_wp2_with fail
      refine HRY.out.mono ?_
      clear HRY
      rintro e w9 ⟨rfl, hb9⟩
      have hal : Below w9.heap.size w9 (w9.alloc (.cells #[.int .i64 a0, .int .i64 a1, .int .i64 a2, .int .i64 a3, .int .i64 a4, .int .i64 a5, .bool a6, .bool a7, .int .i64 a8, .int .i64 a9] 33)) := (Below.refl _ _).alloc (Nat.le_refl _) _
      obtain ⟨W10, hW10⟩ : ∃ W, W = w9.alloc (.cells #[.int .i64 a0, .int .i64 a1, .int .i64 a2, .int .i64 a3, .int .i64 a4, .int .i64 a5, .bool a6, .bool a7, .int .i64 a8, .int .i64 a9] 33) := ⟨_, rfl⟩
      have hs10 : RW w9.heap.size #[.int .i64 a0, .int .i64 a1, .int .i64 a2, .int .i64 a3, .int .i64 a4, .int .i64 a5, .bool a6, .bool a7, .int .i64 a8, .int .i64 a9] W10 := by rw [hW10]; exact RW.new w9 _
      rw [← hW10] at hal
      have hb10 := hb9.trans (hal.mono hb9.size)
      have HW10 := Lib.hid (HW8.out.below hb10)
      have HR10 := Lib.hid (HR8.out.below hb10)
      have HS10 := Lib.hid hs10
      have HWW := Lib.hid hW10
      clear hb9 hal hb10 hs10 hW10 HW8 HR8
      go_upto_region 23 with fail
      rw [← HWW.out]
      generalize w9.heap.size = A2 at HS10 ⊢
      clear HWW
      have hlast := walLast HW10.out.lg
      rw [HCB.out.1, HLL2.out, show b + ((k + 1 : Nat) : Int) = b + ((k : Int) + 1) by omega] at hlast
      have HLAST := Lib.hid hlast
      clear hlast
      go_wp2_with fail
      refine HLAST.out.mono ?_
      clear HLAST
      rintro e w11 ⟨rfl, hq11⟩
      have hb11 : Below W10.heap.size W10 w11 := hq11.below _
      have HW11 := Lib.hid (HW10.out.below hb11)
      obtain ⟨c0, c1, c2, c3, c4, c5, c6, c7, c8, c9⟩ := (HR10.out.below hb11).cells
      obtain ⟨d0, d1, d2, d3, d4, d5, d6, d7, d8, d9⟩ := (HS10.out.below hb11).cells
      clear hq11 hb11 HW10 HR10 HS10
      go_wp2_with fail
      refine (HSAME.out _).mono ?_
      clear HSAME
      rintro e w12 ⟨rfl, hb12⟩
      have HW12 := Lib.hid (HW11.out.below hb12)
      have hdone := walDone HW12.out.lg (by rw [HCB.out.2.2]; omega) (by rw [HCB.out.2.2]; omega)
      rw [HCB.out.1, HCB.out.2.2, show b + (0 : Int) = b by omega] at hdone
      have HDONE := Lib.hid hdone
      clear hdone hb12 HW11 c0 c1 c2 c3 c4 c5 c6 c7 c8 c9 d0 d1 d2 d3 d4 d5 d6 d7 d8 d9
      go_wp2_with fail
      refine HDONE.out.mono ?_
      clear HDONE
      rintro e w13 ⟨rfl, hq13⟩
      have HW13 := Lib.hid (HW12.out.below (hq13.below _))
      clear hq13 HW12
      go_wp2_with fail
      go_roundw
      case rel => exact ⟨k + 1, by (congr 1 <;> omega), by omega, _, p2, _, HLL2, by omega, by omega, HW13⟩
      case measure => simp [intOf]; omega
    · have hk6 : (k : Int) = bl * 6 := by omega
      have hgt : ¬ ((k : Int) + 1 ≤ bl * 6) := by omega
      have hroom0 : roomN c L.length = 0 := by rw [HLL.out, roomN_of HCB.out.2.1 HCB.out.1 (by omega) k hk hbl2]; omega
      have HR0 := Lib.hid hroom0
      have hf1 := walAppendFull HWN.out.lg (HS.out.below HWN.out.bel) ⟨7, 0, 0, 0, 0, 0, false, false, 0, 0⟩ (by decide) (by rw [hroom0]; omega)
      dsimp only [recV] at hf1
      have HF1 := Lib.hid hf1
      have HI8 := Lib.hid (fun W (hb : Below w.heap.size w W) => (show Calls Tryd.prog 26 #[eC ea 109, .int .i64 109] W fun e w' => e = .returned (.bool true) ∧ Below W.heap.size W w' from isC W (HS.out.below hb) 109 (by unfold OkC; omega) 109))
      have HI1 := Lib.hid (fun W (hb : Below w.heap.size w W) => (show Calls Tryd.prog 26 #[eC ea 102, .int .i64 102] W fun e w' => e = .returned (.bool true) ∧ Below W.heap.size W w' from isC W (HS.out.below hb) 102 (by unfold OkC; omega) 102))
      have hf2 := fun W (hb : Below w.heap.size w W) => walAppendBad (X := X) (HS.out.below hb) ⟨0, 0, 0, 0, 0, 0, false, false, 0, 0⟩ (by decide)
      dsimp only [recV] at hf2
      have HF2 := Lib.hid hf2
      generalize eC ea 109 = e8 at HF1 HI8
      generalize eC ea 102 = e1 at HF2 HI1
      clear hroom0 hf1 hf2 hk6
      go_wp2_with fail
      refine HF1.out.mono ?_
      clear HF1
      rintro e w5 ⟨rfl, hb5⟩
      have HW5 := Lib.hid (HWN.out.below hb5)
      clear hb5 HWN
      go_wp2_with fail
      refine (HF2.out _ HW5.out.bel).mono ?_
      clear HF2
      rintro e w6 ⟨rfl, hb6⟩
      have HW6 := Lib.hid (HW5.out.below hb6)
      clear hb6 HW5
      have hrn := walRecNo HW6.out.lg b (by omega) (by omega) (.inl (by rw [HCB.out.1]; omega))
      dsimp only [recV, rec00] at hrn
      have HRN := Lib.hid hrn
      clear hrn
      go_wp2_with fail
      refine HRN.out.mono ?_
      clear HRN
      rintro e w7 ⟨rfl, hb7⟩
      have hal : Below w7.heap.size w7 (w7.alloc (.cells #[.int .i64 0, .int .i64 0, .int .i64 0, .int .i64 0, .int .i64 0, .int .i64 0, .bool false, .bool false, .int .i64 0, .int .i64 0] 33)) := (Below.refl _ _).alloc (Nat.le_refl _) _
      have HW8 := Lib.hid (HW6.out.below (hb7.trans (hal.mono hb7.size)))
      clear hb7 hal HW6
      go_wp2_with fail
      refine (HI8.out _ HW8.out.bel).mono ?_
      rintro e w9 ⟨rfl, hb9⟩
      have HW9 := Lib.hid (HW8.out.below hb9)
      clear hb9 HW8 HI8
      go_wp2_with fail
      refine (HI1.out _ HW9.out.bel).mono ?_
      rintro e w10 ⟨rfl, hb10⟩
      have HW10 := Lib.hid (HW9.out.below hb10)
      clear hb10 HW9 HI1
      have hroom := walRoom HW10.out.lg
      rw [HR0.out] at hroom
      have HROOM := Lib.hid hroom
      clear hroom
      go_wp2_with fail
      refine HROOM.out.mono ?_
      rintro e w11 ⟨rfl, hq11⟩
      have HB11 := Lib.hid (HW10.out.bel.trans (hq11.below _))
      clear hq11 HROOM HW10
      go_wp2_with fail
      go_ret
      exact ⟨rfl, HB11.out⟩

theorem walNumbers_walk {ea : Nat → Addr} (blocks base : Int) (v : Value) (l : List Int) (b1 : -9223372036854775808 ≤ blocks) (b2 : blocks ≤ 9223372036854775807) (c1 : -9223372036854775808 ≤ base) (c2 : base ≤ 9223372036854775807) (w : World) (hs : Sen ea w) (hv : Ns .i64 w v l) :
    Calls Tryd.prog 3 #[.int .i64 blocks, .int .i64 base, v] w fun e w' => e = .returned (.bool true) ∧ Below w.heap.size w w' := by
  by_cases h : (200 : Int) < l.length
  · exact walNumbers_idle blocks base v l w hv h
  · exact walNumbers_walk0 blocks base v l b1 b2 c1 c2 w hs hv (by omega)
end Go.Proofs.YtccfiohcblecoaaDoor
