/- The walk of the law ChainSays. -/
import Derived.Test.YtccfiohcblecoaaDoorChL
import Derived.Test.YtccfiohcblecoaaDoorRefN
import Derived.Test.YtccfiohcblecoaaDoorSameI
import Derived.Test.YtccfiohcblecoaaDoorMkRecs
import Derived.Test.YtccfiohcblecoaaDoorNum
namespace Go.Proofs.YtccfiohcblecoaaDoor
open Go.RowKit
set_option linter.unusedVariables false

theorem chainF_err {base : Int} {L : List RecD} : ∀ (n : Nat) (out : List Int) (next : Int) (l : List Int) (p : Int), chainF base L n out next = (l, some p) → l = [] := by
  intro n
  induction n with
  | zero => intro out next l p h; simp [chainF] at h
  | succ n ih =>
    intro out next l p h
    unfold chainF at h
    cases hn : norm base L next with
    | mk k e =>
      rw [hn] at h
      cases e with
      | some q => simp at h; exact h.1
      | none =>
        dsimp only at h
        by_cases h0 : k = 0
        · rw [if_pos h0] at h; simp at h
        · rw [if_neg h0] at h
          by_cases hg : prevN base L k ≥ k
          · rw [if_pos hg] at h; simp at h; exact h.1
          · rw [if_neg hg] at h; exact ih _ _ _ _ h

def fcode : Option Int → Int
  | none => 0
  | some _ => 108
def fplaced : Option Int → Bool
  | none => false
  | some _ => true
def fpos : Option Int → Int
  | none => 0
  | some p => p
theorem faultV_eq (o : Option Int) : faultV o = .agg #[.int .i64 (fcode o), .bool (fplaced o), .int .i64 (fpos o)] := by cases o <;> rfl

theorem normAny {ea : Nat → Addr} {w : World} {X : Nat} {c : LogC} {v : Value} {L : List RecD} (h : Lg 102 w X c v L) (hs : Sen ea w) (lsn : Int) (hl1 : -9223372036854775808 ≤ lsn) (hl2 : lsn ≤ 9223372036854775807) :
    Calls Tryd.prog 38 #[.pointer (some ⟨X, 0, none⟩), .int .i64 lsn] w fun e w' => ∃ ev, e = .returned (.tuple #[.int .i64 (norm c.base L lsn).1, ev]) ∧ Below w.heap.size w w' ∧ ErV ea w' ev (erAt (norm c.base L lsn).2) := by
  refine (chainNorm h hs lsn hl1 hl2).mono ?_
  rintro e w' ⟨hb, h'⟩
  rcases h' with ⟨hx, rfl⟩ | ⟨p, a, hp, rfl, hev⟩
  · exact ⟨_, rfl, hb, by rw [hx]; rfl⟩
  · have h1 : (norm c.base L lsn).1 = 0 := norm_err (p := p) h.ok.b0 _ (Nat.lt_succ_self _) (by rw [← hp])
    exact ⟨_, by rw [h1], hb, by rw [hp]; exact hev⟩
theorem allAny {ea : Nat → Addr} {w : World} {X : Nat} {c : LogC} {v : Value} {L : List RecD} (h : Lg 102 w X c v L) (hs : Sen ea w) (lsn : Int) (hl1 : -9223372036854775808 ≤ lsn) (hl2 : lsn ≤ 9223372036854775807) :
    Calls Tryd.prog 39 #[.pointer (some ⟨X, 0, none⟩), .int .i64 lsn] w fun e w' => ∃ o n cap ev, e = .returned (.tuple #[.slice o n cap, ev]) ∧ Below w.heap.size w w' ∧ Ns .i64 w' (.slice o n cap) (chain c.base L [] lsn).1 ∧ ErV ea w' ev (erAt (chain c.base L [] lsn).2) := by
  refine (chainAll h hs lsn hl1 hl2).mono ?_
  rintro e w' ⟨hb, h'⟩
  rcases h' with ⟨hx, o, cap, rfl, hv⟩ | ⟨p, a, hp, rfl, hev⟩
  · exact ⟨o, _, cap, _, rfl, hb, hv, by rw [hx]; rfl⟩
  · have h1 : (chain c.base L [] lsn).1 = [] := chainF_err _ _ _ _ p (by rw [← hp]; rfl)
    exact ⟨none, 0, 0, _, rfl, hb, by rw [h1]; exact Ns.nil _ _, by rw [hp]; exact hev⟩
theorem sameF {ea : Nat → Addr} (w : World) (h : Sen ea w) (v : Value) (o : Option Int) (hv : ErV ea w v (erAt o)) :
    Calls Tryd.prog 40 #[v, .agg #[.int .i64 (fcode o), .bool (fplaced o), .int .i64 (fpos o)]] w fun e w' => e = .returned (.bool true) ∧ Below w.heap.size w w' := by
  refine (sameAny w h v (erAt o) hv _ _ _).mono ?_
  rintro e w' ⟨rfl, hb⟩
  refine ⟨?_, hb⟩
  cases o <;> simp [erAt, Er.code, Er.placed, Er.pos, fcode, fplaced, fpos]

theorem chainSays_idle {ea : Nat → Addr} (v : Value) (l : List Int) (base : Int) (w : World) (hs : Sen ea w) (hv : Ns .i64 w v l) (hbig : (300 : Int) < l.length) :
    Calls Tryd.prog 6 #[v, .int .i64 base] w fun e w' => e = .returned (.bool true) ∧ Below w.heap.size w w' := by
  obtain ⟨_, o, cap, rfl, hc1, hc2, hc3, _⟩ := hv
  unfold maxLen at hc2
  have HF := Lib.hid (chainFirst w hs)
  clear hs
  generalize l.length = n at *
  go_enter Tryd.func6, Tryd.ntmps6
  go_wp2_with fail
  refine HF.out.mono ?_
  rintro e w1 ⟨rfl, hb1⟩
  have HB1 := Lib.hid hb1
  clear hb1
  go_wp2_with fail
  go_ret
  exact ⟨rfl, HB1.out⟩

set_option maxRecDepth 20000 in
set_option maxHeartbeats 4000000 in
theorem chainSays_walk0 {ea : Nat → Addr} (v : Value) (l : List Int) (base : Int) (b1 : -9223372036854775808 ≤ base) (b2 : base ≤ 9223372036854775807) (w : World) (hs : Sen ea w) (hv : Ns .i64 w v l) (hl : (l.length : Int) ≤ 300) :
    Calls Tryd.prog 6 #[v, .int .i64 base] w fun e w' => e = .returned (.bool true) ∧ Below w.heap.size w w' := by
  have HS := Lib.hid hs
  have HV := Lib.hid hv
  have HF := Lib.hid (chainFirst w hs)
  have hm0 := Int.emod_nonneg base (show (12 : Int) ≠ 0 by omega)
  have hm1 := Int.emod_lt_of_pos base (show (0 : Int) < 12 by omega)
  have HN1 := Lib.hid (fun W => number base 12 W (by omega) (by omega) b1 b2)
  generalize base % 12 = q at hm0 hm1 HN1
  obtain ⟨_, o, cap, rfl, hc1, hc2, hc3, hcell⟩ := hv
  have HVL : Hid (l ≠ [] → ∀ b, (Value.slice o l.length cap).ownBlock = some b → b < w.heap.size) := Lib.hid (fun hne b e => by
    obtain ⟨a, rfl, hc⟩ := hcell hne
    have h := Below.lt (hc 0 (List.length_pos_iff.2 hne))
    have e1 : (a.add 0).block = a.block := by unfold Addr.add; split <;> rfl
    rw [e1] at h
    have e2 : a.block = b := by simpa [Value.ownBlock] using e
    omega)
  unfold maxLen at hc2
  obtain ⟨n, hn⟩ : ∃ n, n = l.length := ⟨_, rfl⟩
  rw [← hn] at hc1 hl HVL ⊢
  have HN := Lib.hid hn
  clear hs hn hcell hc3 b1 b2
  go_enter Tryd.func6, Tryd.ntmps6
  go_wp2_with fail
  refine HF.out.mono ?_
  clear HF
  rintro e w1 ⟨rfl, hb1⟩
  have HB1 := Lib.hid hb1
  clear hb1
  go_wp2_with fail
  refine (HN1.out _).mono ?_
  clear HN1
  rintro e w1' ⟨rfl, rfl⟩
  have hal : Below w1.heap.size w1 (w1.alloc (.cells #[.slice o n cap, .int .i64 0] 31)) := (Below.refl _ _).alloc (Nat.le_refl _) _
  have HB2 := Lib.hid (HB1.out.trans (hal.mono HB1.out.size))
  have hv1 := (HV.out.below HB1.out).below hal
  rw [← HN.out] at hv1
  have HR := Lib.hid (mkRecs w1.heap.size (.slice o n cap) l (w1.alloc (.cells #[.slice o n cap, .int .i64 0] 31)) 0 40 (heap_alloc_new w1 _) hv1 (fun hne e => by have h1 := HVL.out hne _ e; have h2 := HB1.out.size; omega) (by have := HN.out; omega) (by omega) (by omega) (by omega) (by omega))
  clear hal hv1
  go_wp2_with fail
  refine HR.out.mono ?_
  clear HR
  rintro e w3 ⟨L, o3, cap3, p3, rfl, ho3, hok3, hl3, _, _, _, he3⟩
  have hge : ∀ k, k = w1.heap.size → w.heap.size ≤ k := fun k h => by rw [h]; exact HB1.out.size
  have HB3 := Lib.hid (HB2.out.trans (he3.below (B := w.heap.size) hge HB2.out.size))
  have hform := ho3.form
  have HL := Lib.hid (chainLogs (ea := ea) _ L q w3 (HS.out.below HB3.out) ho3.gs hok3 (by omega) hm0 (by omega))
  obtain ⟨o3', cap3', hv3, hca, hcb, _, _⟩ := hform
  simp only [Value.slice.injEq] at hv3
  obtain ⟨rfl, _, rfl⟩ := hv3
  unfold maxLen at hcb
  clear he3 hge hok3 ho3 HB2 HB1
  obtain ⟨m, hm⟩ : ∃ m, m = L.length := ⟨_, rfl⟩
  rw [← hm] at HL hl3 hca ⊢
  have HM := Lib.hid hm
  clear hm
  go_wp2_with fail
  refine HL.out.mono ?_
  clear HL
  rintro e w4 ⟨X, Y, dx, dy, vx, vy, rfl, ht⟩
  have HT := Lib.hid (And.intro ht.x ht.y)
  have HB4 := Lib.hid (HB3.out.trans (ht.bel.mono HB3.out.size))
  clear ht HB3
  go_wp2_with fail
  go_loopw [10] (fun i wr => ∃ k : Nat, i = .int .i64 (q - 1 + k) ∧ (k : Int) ≤ m + 3 ∧ Hid (Below w4.heap.size w4 wr)) (fun i _ => (q + m + 2 - intOf i).toNat)
  case atStart => exact ⟨0, by go_num, by omega, Lib.hid (Below.refl _ _)⟩
  case round =>
    obtain ⟨k, rfl, hk, HBR⟩ := hrel
    by_cases hkm : (k : Int) < m + 3
    · have hle : q - 1 + (k : Int) ≤ q + m + 1 := by omega
      obtain ⟨lsn, hlsn⟩ : ∃ x, x = q - 1 + (k : Int) := ⟨_, rfl⟩
      rw [← hlsn] at hle ⊢
      have hs1 : -1 ≤ lsn := by omega
      have hs2 : lsn ≤ 1000 := by omega
      have HLSN := Lib.hid hlsn
      clear hlsn
      have HSB := Lib.hid (HB4.out.trans (HBR.out.mono HB4.out.size))
      have hA := normAny (HT.out.1.below HBR.out) (HS.out.below HSB.out) lsn (by omega) (by omega)
      have hC := fun W (hb : Below w4.heap.size w4 W) => refNorm (HT.out.2.below hb) lsn (by omega) (by omega)
      have hD := fun W (hb : Below w4.heap.size w4 W) => allAny (HT.out.1.below hb) (HS.out.below (HB4.out.trans (hb.mono HB4.out.size))) lsn (by omega) (by omega)
      have hE := fun W (hb : Below w4.heap.size w4 W) => refChain (HT.out.2.below hb) lsn (by omega) (by omega)
      dsimp only at hA hC hD hE
      generalize norm q L lsn = nr at hA hC
      generalize chain q L [] lsn = cr at hD hE
      obtain ⟨k1, nx⟩ := nr
      obtain ⟨cl, cx⟩ := cr
      simp only [faultV_eq] at hC
      dsimp only at hA hC hD
      have HA := Lib.hid hA
      have HC := Lib.hid hC
      have HD := Lib.hid hD
      have HE := Lib.hid hE
      clear hA hC hD hE
      go_wp2_with fail
      refine HA.out.mono ?_
      clear HA
      rintro e w5 ⟨ev, rfl, hb5, hev⟩
      have HB5 := Lib.hid (HBR.out.trans (hb5.mono HBR.out.size))
      have HEV5 := Lib.hid hev
      clear hb5 hev
      go_wp2_with fail
      refine (HC.out _ HB5.out).mono ?_
      clear HC
      rintro e w6 ⟨rfl, hb6⟩
      have hal : Below w6.heap.size w6 (w6.alloc (.cells #[.int .i64 (fcode nx), .bool (fplaced nx), .int .i64 (fpos nx)] 66)) := (Below.refl _ _).alloc (Nat.le_refl _) _
      obtain ⟨W7, hW7⟩ : ∃ W, W = w6.alloc (.cells #[.int .i64 (fcode nx), .bool (fplaced nx), .int .i64 (fpos nx)] 66) := ⟨_, rfl⟩
      have HF7 : Hid (FW w6.heap.size #[.int .i64 (fcode nx), .bool (fplaced nx), .int .i64 (fpos nx)] W7) := Lib.hid (by rw [hW7]; exact FW.new w6 _)
      rw [← hW7] at hal
      have hb7 := hb6.trans (hal.mono hb6.size)
      have HB7 := Lib.hid (HB5.out.trans (hb7.mono HB5.out.size))
      have HEV7 := Lib.hid (HEV5.out.below hb7)
      have HW7 := Lib.hid hW7
      clear hal hb6 hb7 hW7 HB5 HEV5
      go_upto_region 16 with fail
      rw [← HW7.out]
      generalize w6.heap.size = A7 at HF7 ⊢
      clear HW7
      go_wp2_with fail
      refine (HD.out _ HB7.out).mono ?_
      clear HD
      rintro e w8 ⟨o8, n8, cap8, ev8, rfl, hb8, hns8, hev8⟩
      have HB8 := Lib.hid (HB7.out.trans (hb8.mono HB7.out.size))
      have HEV8 := Lib.hid (HEV7.out.below hb8)
      have HF8 := Lib.hid (HF7.out.below hb8)
      have HNS8 := Lib.hid hns8
      have HEW8 := Lib.hid hev8
      clear hb8 hns8 hev8 HB7 HEV7 HF7
      go_wp2_with fail
      refine (HE.out _ HB8.out).mono ?_
      clear HE
      rintro e w9 ⟨hb9, o9, cap9, rfl, hns9⟩
      dsimp only at hns9 ⊢
      rw [faultV_eq]
      obtain ⟨W10, hW10⟩ : ∃ W, W = w9.alloc (.cells #[.int .i64 (fcode cx), .bool (fplaced cx), .int .i64 (fpos cx)] 66) := ⟨_, rfl⟩
      have hal : Below w9.heap.size w9 W10 := by rw [hW10]; exact (Below.refl _ _).alloc (Nat.le_refl _) _
      have HG10 : Hid (FW w9.heap.size #[.int .i64 (fcode cx), .bool (fplaced cx), .int .i64 (fpos cx)] W10) := Lib.hid (by rw [hW10]; exact FW.new w9 _)
      have hb10 := hb9.trans (hal.mono hb9.size)
      have HB10 := Lib.hid (HB8.out.trans (hb10.mono HB8.out.size))
      have HEV10 := Lib.hid (HEV8.out.below hb10)
      have HEW10 := Lib.hid (HEW8.out.below hb10)
      have HF10 := Lib.hid (HF8.out.below hb10)
      have HNS10 := Lib.hid (HNS8.out.below hb10)
      have HNT10 := Lib.hid (hns9.below hal)
      have HW10 := Lib.hid hW10
      clear hal hb9 hb10 hW10 hns9 HB8 HEV8 HEW8 HF8 HNS8
      go_upto_region 18 with fail
      rw [← HW10.out]
      generalize w9.heap.size = A10 at HG10 ⊢
      clear HW10
      obtain ⟨f0, f1, f2⟩ := HF10.out.cells
      have HS1 := Lib.hid (sameF W10 (HS.out.below (HB4.out.trans (HB10.out.mono HB4.out.size))) ev nx HEV10.out)
      go_wp2_with fail
      refine HS1.out.mono ?_
      clear HS1
      rintro e w11 ⟨rfl, hb11⟩
      have HB11 := Lib.hid (HB10.out.trans (hb11.mono HB10.out.size))
      have HEW11 := Lib.hid (HEW10.out.below hb11)
      have HG11 := Lib.hid (HG10.out.below hb11)
      have hsi := sameIntsQ _ _ cl cl w11 (HNS10.out.below hb11) (HNT10.out.below hb11)
      rw [show sameB cl cl = true by simp [sameB]] at hsi
      have HSI := Lib.hid hsi
      clear hb11 hsi HB10 HEV10 HEW10 HF10 HG10 HNS10 HNT10 f0 f1 f2
      go_wp2_with fail
      refine HSI.out.mono ?_
      clear HSI
      rintro e w12 ⟨rfl, hq12⟩
      have hb12 : Below w11.heap.size w11 w12 := hq12.below _
      have HB12 := Lib.hid (HB11.out.trans (hb12.mono HB11.out.size))
      have HS2 := Lib.hid (sameF w12 (HS.out.below (HB4.out.trans (HB12.out.mono HB4.out.size))) ev8 cx (HEW11.out.below hb12))
      obtain ⟨f0, f1, f2⟩ := (HG11.out.below hb12).cells
      clear hq12 hb12 HB11 HEW11 HG11
      go_wp2_with fail
      refine HS2.out.mono ?_
      clear HS2
      rintro e w13 ⟨rfl, hb13⟩
      have HB13 := Lib.hid (HB12.out.trans (hb13.mono HB12.out.size))
      clear hb13 HB12 f0 f1 f2
      go_wp2_with fail
      go_roundw
      case rel => exact ⟨k + 1, by rw [HLSN.out]; congr 1; omega, by omega, HB13⟩
      case measure => simp [intOf]; omega
    · have hgt : ¬ (q - 1 + (k : Int) ≤ q + m + 1) := by omega
      go_wp2_with fail
      go_ret
      exact ⟨rfl, HB4.out.trans (HBR.out.mono HB4.out.size)⟩

theorem chainSays_walk {ea : Nat → Addr} (v : Value) (l : List Int) (base : Int) (b1 : -9223372036854775808 ≤ base) (b2 : base ≤ 9223372036854775807) (w : World) (hs : Sen ea w) (hv : Ns .i64 w v l) :
    Calls Tryd.prog 6 #[v, .int .i64 base] w fun e w' => e = .returned (.bool true) ∧ Below w.heap.size w w' := by
  by_cases h : (300 : Int) < l.length
  · exact chainSays_idle v l base w hs hv h
  · exact chainSays_walk0 v l base b1 b2 w hs hv (by omega)
end Go.Proofs.YtccfiohcblecoaaDoor
