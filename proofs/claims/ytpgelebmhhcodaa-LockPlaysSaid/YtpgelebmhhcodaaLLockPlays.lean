/- The walk of the law LockPlays. -/
import Derived.Test.YtpgelebmhhcodaaLLockModes
import Derived.Test.YtpgelebmhhcodaaLrE
import Derived.Test.YtpgelebmhhcodaaDoR
import Derived.Test.YtpgelebmhhcodaaNum
import Derived.Deep.CutBlock
namespace Go.Proofs.Ytpgelebmhhcodaa
open Go.RowKit
set_option linter.unusedVariables false

/-- the program's table and the document's, beside each other -/
structure PP (w0 w : World) (X : Nat) (v : Value) (T : List HoldD) (Y : Nat) (u : Value) (U : List HoldD) : Prop where
  tw : TW w0 w X v T
  tr : TWr w0 w Y u U
  dj : ∀ b, Tb.F X v b → Tr.F Y u b → False
theorem PP.below {w0 w w' : World} {X Y : Nat} {v u : Value} {T U : List HoldD} (h : PP w0 w X v T Y u U) (hb : Below w.heap.size w w') : PP w0 w' X v T Y u U := ⟨h.tw.below hb, h.tr.below hb, h.dj⟩
theorem PP.turn1 {w0 w w' : World} {X Y : Nat} {v v' u : Value} {T T' U : List HoldD} (h : PP w0 w X v T Y u U) (ht : Tb w' X v' T') (hx : Ext (Tb.F X v) w (Tb.F X v') w') : PP w0 w' X v' T' Y u U := by
  have h1 := h.tw.turn ht hx
  obtain ⟨a1, a2, a3, a4, a5, a6⟩ := hx
  refine ⟨h1, ⟨h.tr.tb.same fun b hb => a5 b (h.tr.tb.low hb) fun e => h.dj b e hb, h1.bel, h.tr.low⟩, fun b e1 e2 => ?_⟩
  rcases a6 b e1 with e | e
  · exact h.dj b e e2
  · have := h.tr.tb.low e2; omega
theorem PP.turn2 {w0 w w' : World} {X Y : Nat} {v u u' : Value} {T U U' : List HoldD} (h : PP w0 w X v T Y u U) (ht : Tr w' Y u' U') (hx : Ext (Tr.F Y u) w (Tr.F Y u') w') : PP w0 w' X v T Y u' U' := by
  have h1 := h.tr.turn ht hx
  obtain ⟨a1, a2, a3, a4, a5, a6⟩ := hx
  refine ⟨⟨h.tw.tb.same fun b hb => a5 b (h.tw.tb.low hb) fun e => h.dj b hb e, h1.bel, h.tw.low⟩, h1, fun b e1 e2 => ?_⟩
  rcases a6 b e2 with e | e
  · exact h.dj b e1 e
  · have := h.tw.tb.low e1; omega
theorem PP.new {w0 w : World} (hb : Below w0.heap.size w0 w) : PP w0 ((w.alloc (.cells #[.slice none 0 0] 26)).alloc (.cells #[.slice none 0 0] 61)) w.heap.size (.slice none 0 0) [] (w.alloc (.cells #[.slice none 0 0] 26)).heap.size (.slice none 0 0) [] := by
  have h1 := TW.new hb
  refine ⟨h1.below ((Below.refl _ _).alloc (Nat.le_refl _) _), TWr.new h1.bel, fun b e1 e2 => ?_⟩
  have := h1.tb.low e1
  rcases e2 with rfl | e
  · exact Nat.lt_irrefl _ this
  · simp [Value.ownBlock] at e
theorem sameSelf {v u : Value} {l : List Int} {w : World} (hv : Ns .i64 w v l) (hu : Ns .i64 w u l) :
    Calls Try.prog 23 #[v, u] w fun e w' => e = .returned (.bool true) ∧ Below w.heap.size w w' :=
  (sameInts v u l l w hv hu).mono fun e w' ⟨he, n, hw⟩ => by
    refine ⟨by rw [he]; simp [sameB], ?_⟩
    rw [hw]
    exact bdrew _ _ _

set_option maxRecDepth 20000 in
set_option maxHeartbeats 4000000 in
theorem lockPlays_walk {w : World} {o : Option Addr} {n cap : Nat} (h0 : Do4 w o n cap) :
    Calls Try.prog 7 #[.slice o n cap] w fun e w' => e = .returned (.bool true) ∧ Below w.heap.size w w' := by
  have HF := Lib.hid (lockFirst w)
  obtain ⟨h1, h2, h3⟩ := h0
  have HC := Lib.hid h3
  unfold maxLen at h2
  clear h3
  by_cases hl : (n : Int) > 80
  · go_enter Try.func7, Try.ntmps7
    go_wp2_with fail
    refine HF.out.mono ?_
    clear HF
    rintro e w1 ⟨rfl, hb1⟩
    have HB1 := Lib.hid hb1
    clear hb1
    go_wp2_with fail
    go_ret
    exact ⟨rfl, HB1.out⟩
  · go_enter Try.func7, Try.ntmps7
    go_wp2_with fail
    refine HF.out.mono ?_
    clear HF
    rintro e w1 ⟨rfl, hb1⟩
    have HPP := Lib.hid (PP.new hb1)
    clear hb1
    go_upto_region 8 with fail
    generalize (w1.alloc (.cells #[.slice none 0 0] 26)).alloc (.cells #[.slice none 0 0] 61) = w2 at HPP ⊢
    rw [show (w1.alloc (.cells #[.slice none 0 0] 26)).heap.size = w1.heap.size + 1 from by simp] at HPP
    generalize w1.heap.size = X at HPP ⊢
    generalize (X + 1) = Y at HPP ⊢
    go_wp2_with fail
    go_loopw [6] (fun s6 wr => ∃ (i : Nat) (v u : Value) (T : List HoldD), s6 = .int .i64 i ∧ i ≤ n ∧ Hid (PP w wr X v T Y u T) ∧ Hid (OneH T) ∧ T.length ≤ i) (fun s6 _ => n - (intOf s6).toNat)
    case atStart => exact ⟨0, _, _, _, rfl, by omega, HPP, Lib.hid (by simp [OneH]), by simp⟩
    case round =>
      obtain ⟨i, v, u, T, rfl, hi, HT, HK, hTl⟩ := hrel
      clear HPP
      by_cases hin : (i : Int) < n
      · obtain ⟨g, off, x0, x1, x2, x3, rfl, hx0, hx1, hx2, hx3, c0, c1, c2, c3⟩ := HC.out i (by omega)
        have HC0 := Lib.hid c0
        have d1 := (HT.out.tw.bel.cell (Below.lt c1)).trans c1
        have d2 := (HT.out.tw.bel.cell (Below.lt c2)).trans c2
        have d3 := (HT.out.tw.bel.cell (Below.lt c3)).trans c3
        obtain ⟨s, hs⟩ : ∃ s : Nat, x1 % 5 = s := ⟨(x1 % 5).toNat, by omega⟩
        obtain ⟨k, hk⟩ : ∃ k : Nat, x2 % 6 = k := ⟨(x2 % 6).toNat, by omega⟩
        have hs5 : s < 5 := by omega
        have hk6 : k < 6 := by omega
        have n1 := number x1 5 wr (by omega) (by omega) hx1.1 hx1.2
        have n2 := number x2 6 wr (by omega) (by omega) hx2.1 hx2.2
        have n3 := number x3 5 wr (by omega) (by omega) hx3.1 hx3.2
        obtain ⟨m5, hm5⟩ : ∃ m : Int, x3 % 5 = m := ⟨_, rfl⟩
        have hm0 : 0 ≤ m5 := by omega
        have hm1 : m5 < 5 := by omega
        rw [hs] at n1
        rw [hk] at n2
        rw [hm5] at n3
        have N1 := Lib.hid n1
        have N2 := Lib.hid n2
        have N3 := Lib.hid n3
        have HX0 := Lib.hid hx0
        clear c0 c1 c2 c3 hx1 hx2 hx3 hs hk hm5 n1 n2 n3 hx0
        go_upto_region 13 with (go_at_call 14; ((with_reducible first | refine N1.out.mono ?_ | refine N2.out.mono ?_); rintro e w3 ⟨rfl, rfl⟩))
        go_cut [9] from 17 to 92 (fun s9 wx => ∃ m : Int, s9 = .int .i64 m ∧ wr = wx)
        case first =>
          go_wp2_with fail
          refine N3.out.mono ?_
          rintro e w3 ⟨rfl, rfl⟩
          go_wp2_with fail
          go_meet
          exact ⟨_, rfl, rfl⟩
        obtain ⟨m, rfl, rfl⟩ := hcut
        have hI1 := I64L_small (n := (s : Int)) (by omega) (by omega)
        have hI2 := I64L_small (n := (k : Int)) (by omega) (by omega)
        have HI1 := Lib.hid hI1
        have HI2 := Lib.hid hI2
        have hw1 := tabWho HT.out.tw.tb s k m
        have hw2 := fun W (hb : Below wr.heap.size wr W) => refWho (HT.out.below hb).tr.tb HK.out (by omega) s k m
        have hw1' := hw1
        generalize whoT T s k m = L at hw1 hw2
        have HW1 := Lib.hid hw1
        have HW2 := Lib.hid hw2
        clear hw1 hw2 hw1' N1 N2 N3 d1 d2 d3 hm0 hm1 hI1 hI2
        go_wp2_with fail
        refine HW1.out.mono ?_
        clear HW1
        rintro e w3 ⟨⟨o3, c3, rfl, hn3⟩, hb3⟩
        have HN3 := Lib.hid hn3.ns
        have HB3 := Lib.hid hb3
        clear hn3 hb3
        go_wp2_with fail
        refine (HW2.out _ HB3.out).mono ?_
        clear HW2
        rintro e w4 ⟨⟨o4, c4, rfl, hn4⟩, hb4⟩
        have HS := Lib.hid (sameSelf (HN3.out.below hb4) hn4)
        have HB4 := Lib.hid (HB3.out.trans (hb4.mono HB3.out.size))
        clear hn4 hb4 HN3 HB3
        go_wp2_with fail
        refine HS.out.mono ?_
        clear HS
        rintro e w5 ⟨rfl, hb5⟩
        have HT5 := Lib.hid (HT.out.below (HB4.out.trans (hb5.mono HB4.out.size)))
        clear hb5 HB4 HT
        have d0 := (HT5.out.tw.bel.cell (Below.lt HC0.out)).trans HC0.out
        obtain ⟨q, hq⟩ : ∃ q : Int, x0 % 5 = q := ⟨_, rfl⟩
        have n0 := number x0 5 w5 (by omega) (by omega) HX0.out.1 HX0.out.2
        rw [hq] at n0
        have N0 := Lib.hid n0
        clear hq n0
        go_upto_if 58 with (go_at_call 14; ((with_reducible refine N0.out.mono ?_); rintro e w6 ⟨rfl, rfl⟩))
        go_cut [] from 17 to 92 (fun wx => ∃ v' u' T', Hid (PP w wx X v' T' Y u' T') ∧ Hid (OneH T') ∧ T'.length ≤ i + 1)
        case first =>
          by_cases hq4 : q < 4
          · have ht1 := tabTake HT5.out.tw.tb s k m HI1.out HI2.out (by omega)
            have ht2 := fun W v' T' (hp : PP w W X v' T' Y u T) => refTake hp.tr.tb HK.out (by omega) s k m HI1.out HI2.out
            have hsp := takeT_spec HK.out (s := s) (key := k) (mode := m)
            have hone : OneH (takeT T s k m).2 ∧ (takeT T s k m).2.length ≤ i + 1 := by
              rcases hsp with ⟨e, _⟩ | ⟨_, _, _, e1, e2, _⟩
              · rw [e]; exact ⟨HK.out, by dsimp only; omega⟩
              · exact ⟨e1, by omega⟩
            generalize takeT T s k m = R at ht1 ht2 hone
            obtain ⟨b, V⟩ := R
            dsimp only at ht1 ht2 hone
            have HT1 := Lib.hid ht1
            have HT2 := Lib.hid ht2
            have HONE := Lib.hid hone
            clear ht1 ht2 hsp hone N0 d0
            go_wp2_with fail
            refine HT1.out.mono ?_
            clear HT1
            rintro e w6 ⟨rfl, v6, ht6, hx6⟩
            have HT6 := Lib.hid (HT5.out.turn1 ht6 hx6)
            clear ht6 hx6
            go_wp2_with fail
            refine (HT2.out _ _ _ HT6.out).mono ?_
            clear HT2
            rintro e w7 ⟨rfl, u7, ht7, hx7⟩
            have HT7 := Lib.hid (HT6.out.turn2 ht7 hx7)
            clear ht7 hx7 HT6
            go_wp2_with fail
            go_meet
            exact ⟨_, _, _, HT7, Lib.hid HONE.out.1, HONE.out.2⟩
          · have ht1 := tabFree HT5.out.tw.tb s
            have ht2 := fun W v' T' (hp : PP w W X v' T' Y u T) => refFree hp.tr.tb (by omega) s
            have hone : OneH (freeT T s) ∧ (freeT T s).length ≤ i + 1 := ⟨HK.out.free s, by have := freeT_len T s; omega⟩
            generalize freeT T s = V at ht1 ht2 hone
            have HT1 := Lib.hid ht1
            have HT2 := Lib.hid ht2
            have HONE := Lib.hid hone
            clear ht1 ht2 hone N0 d0
            go_wp2_with fail
            refine HT1.out.mono ?_
            clear HT1
            rintro e w6 ⟨rfl, v6, ht6, hx6⟩
            have HT6 := Lib.hid (HT5.out.turn1 ht6 hx6)
            clear ht6 hx6
            go_wp2_with fail
            refine (HT2.out _ _ _ HT6.out).mono ?_
            clear HT2
            rintro e w7 ⟨rfl, u7, ht7, hx7⟩
            have HT7 := Lib.hid (HT6.out.turn2 ht7 hx7)
            clear ht7 hx7 HT6
            go_wp2_with fail
            go_meet
            exact ⟨_, _, _, HT7, Lib.hid HONE.out.1, HONE.out.2⟩
        obtain ⟨v', u', T', HT', HK', hTl'⟩ := hcut
        have hm1 := fun W (hp : PP w W X v' T' Y u' T') => tabMode hp.tw.tb s k
        have hm2 := fun W (hp : PP w W X v' T' Y u' T') => refMode hp.tr.tb s k
        have hk1 := fun W (hp : PP w W X v' T' Y u' T') => tabKeys hp.tw.tb s
        have hk2 := fun W (hp : PP w W X v' T' Y u' T') => refKeys hp.tr.tb (by omega) s
        have hh1 := fun W (hp : PP w W X v' T' Y u' T') => tabHeld hp.tw.tb
        have hh2 := fun W (hp : PP w W X v' T' Y u' T') => refHeld hp.tr.tb (by omega)
        generalize modeT T' s k = q0 at hm1 hm2
        generalize keysT (fun h => h.s == (s : Int)) T' = q1 at hk1 hk2
        generalize keysT (fun h => h.mode == 2) T' = q2 at hh1 hh2
        have HM1 := Lib.hid hm1
        have HM2 := Lib.hid hm2
        have HK1 := Lib.hid hk1
        have HK2 := Lib.hid hk2
        have HH1 := Lib.hid hh1
        have HH2 := Lib.hid hh2
        clear hm1 hm2 hk1 hk2 hh1 hh2 N0 d0 HT5 HK
        go_wp2_with fail
        refine (HM1.out _ HT'.out).mono ?_
        clear HM1
        rintro e w8 ⟨rfl, hb8⟩
        have HT8 := Lib.hid (HT'.out.below hb8)
        clear hb8 HT'
        go_wp2_with fail
        refine (HM2.out _ HT8.out).mono ?_
        clear HM2
        rintro e w9 ⟨rfl, rfl⟩
        go_wp2_with fail
        refine (HK1.out _ HT8.out).mono ?_
        clear HK1
        rintro e w9 ⟨⟨o9, rfl, hn9⟩, hb9⟩
        have HT9 := Lib.hid (HT8.out.below hb9)
        have HN9 := Lib.hid hn9
        clear hb9 hn9 HT8
        go_wp2_with fail
        refine (HK2.out _ HT9.out).mono ?_
        clear HK2
        rintro e wa ⟨⟨oa, ma, ca, rfl, hna⟩, hba⟩
        have HTa := Lib.hid (HT9.out.below hba)
        have HSa := Lib.hid (sameSelf (HN9.out.below hba) hna)
        clear hba hna HT9 HN9
        go_wp2_with fail
        refine HSa.out.mono ?_
        clear HSa
        rintro e wb ⟨rfl, hbb⟩
        have HTb := Lib.hid (HTa.out.below hbb)
        clear hbb HTa
        go_wp2_with fail
        refine (HH1.out _ HTb.out).mono ?_
        clear HH1
        rintro e wd ⟨⟨od, rfl, hnd⟩, hbd⟩
        have HTd := Lib.hid (HTb.out.below hbd)
        have HNd := Lib.hid hnd
        clear hbd hnd HTb
        go_wp2_with fail
        refine (HH2.out _ HTd.out).mono ?_
        clear HH2
        rintro e we ⟨⟨oe, me, ce, rfl, hne⟩, hbe⟩
        have HTe := Lib.hid (HTd.out.below hbe)
        have HSe := Lib.hid (sameSelf (HNd.out.below hbe) hne)
        clear hbe hne HTd HNd
        go_wp2_with fail
        refine HSe.out.mono ?_
        clear HSe
        rintro e wf ⟨rfl, hbf⟩
        have HTf := Lib.hid (HTe.out.below hbf)
        clear hbf HTe
        go_wp2_with fail
        go_roundw
        case rel => exact ⟨i + 1, v', u', T', by go_num, by omega, HTf, HK', by omega⟩
        case measure => simp [intOf]; omega
      · obtain rfl : i = n := by omega
        go_wp2_with fail
        go_ret
        exact ⟨rfl, HT.out.tw.bel⟩
end Go.Proofs.Ytpgelebmhhcodaa
