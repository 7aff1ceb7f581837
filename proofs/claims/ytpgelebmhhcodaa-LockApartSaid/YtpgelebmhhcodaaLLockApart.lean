/- The walk of the law LockApart. -/
import Derived.Test.YtpgelebmhhcodaaLLockModes
import Derived.Test.YtpgelebmhhcodaaLkR
import Derived.Test.YtpgelebmhhcodaaDoR
import Derived.Test.YtpgelebmhhcodaaNum
import Derived.Deep.CutBlock
import Derived.Deep.RegionHeld3
namespace Go.Proofs.Ytpgelebmhhcodaa
open Go.RowKit
set_option linter.unusedVariables false

theorem zero45 (W : World) : (zeroValue 28).run Try.prog W = .ok (.agg ((modesL []).map (Value.int .i64)).toArray) W := by kernel_rfl
theorem zero5 (W : World) : (zeroValue 27).run Try.prog W = .ok (.agg #[.int .i64 0, .int .i64 0, .int .i64 0, .int .i64 0, .int .i64 0]) W := by kernel_rfl
theorem I64L_nat {n : Nat} (h : n < 1000000) : I64L (n : Int) := ⟨by omega, by omega⟩

/-- Take as the law sees it -/
theorem take_may {T : List HoldD} (h : KA T) {s k m : Int} (hm : m = 1 ∨ m = 2) (hs : 0 ≤ s ∧ s < 4) : (takeT T s k m).1 = mayT T s k m 4 ∧ (((whoT (takeT T s k m).2 s k m).length : Int) == 0) = mayT T s k m 4 ∧
    (takeT T s k m).2.length ≤ T.length + 1 ∧ (mayT T s k m 4 = false → (takeT T s k m).2 = T) ∧ (mayT T s k m 4 = true → ∀ o j, modeT (takeT T s k m).2 o j = if o = s ∧ j = k then max (modeT T s k) m else modeT T o j) := by
  have hmm : isM m = true := by unfold isM; simpa using hm
  have hwho : ∀ U : List HoldD, KA U → (((whoT U s k m).length : Int) == 0) = mayT U s k m 4 := fun U hU => by
    have := mayT_who hU.one hU.lay (s := s) (k := k) hm
    rw [whoT_len]
    cases hmay : mayT U s k m 4
    · rw [hmay] at this
      simp only [Bool.false_eq_true, false_iff] at this
      have : (whoL U s k m).length ≠ 0 := fun e => this (List.eq_nil_of_length_eq_zero e)
      simp only [beq_eq_false_iff_ne, ne_eq]
      omega
    · rw [(this.1 hmay)]
      rfl
  have hiff := mayT_who h.one h.lay (s := s) (k := k) hm
  have hK := h.take (k := k) hm hs
  rcases takeT_spec h.one s k m with ⟨e, h1⟩ | ⟨_, h1, h2, _, h4, h5, _⟩
  · have hmay : mayT T s k m 4 = false := by
      rcases h1 with h1 | h1
      · rw [hmm] at h1; simp at h1
      · cases hc : mayT T s k m 4
        · rfl
        · exact absurd (hiff.1 hc) h1
    rw [e, hwho T h, hmay]
    exact ⟨rfl, rfl, by simp, fun _ => rfl, fun e => by simp at e⟩
  · have hmay := hiff.2 h1
    rw [h2, hwho _ hK, hmay]
    refine ⟨rfl, ?_, h4, fun e => by simp at e, fun _ => h5⟩
    rw [← hmay]
    unfold mayT
    refine congrArg (List.all (List.range 4)) (funext fun o => ?_)
    unfold mayO
    cases hc : ((o : Int) == s)
    · have hc : ¬ (o : Int) = s := by simpa using hc
      rw [h5, if_neg fun e => hc e.1]
    · rfl

set_option maxRecDepth 20000 in
set_option maxHeartbeats 4000000 in
theorem lockApart_walk {w : World} {o : Option Addr} {n cap : Nat} (h0 : Do4 w o n cap) :
    Calls Try.prog 3 #[.slice o n cap] w fun e w' => e = .returned (.bool true) ∧ Below w.heap.size w w' := by
  have HF := Lib.hid (lockFirst w)
  obtain ⟨h1, h2, h3⟩ := h0
  have HC := Lib.hid h3
  unfold maxLen at h2
  clear h3
  by_cases hl : (n : Int) > 60
  · go_enter Try.func3, Try.ntmps3
    go_wp2_with fail
    refine HF.out.mono ?_
    clear HF
    rintro e w1 ⟨rfl, hb1⟩
    have HB1 := Lib.hid hb1
    clear hb1
    go_wp2_with fail
    go_ret
    exact ⟨rfl, HB1.out⟩
  · go_enter Try.func3, Try.ntmps3
    go_wp2_with fail
    refine HF.out.mono ?_
    clear HF
    rintro e w1 ⟨rfl, hb1⟩
    have HT0 : Hid (TW w (w1.alloc (.cells #[.slice none 0 0] 26)) w1.heap.size (.slice none 0 0) []) := Lib.hid (TW.new hb1)
    have HTR := Lib.hid (TR.new HT0.out 28 ((modesL []).map (Value.int .i64)))
    have hz := zero45
    obtain ⟨zs, hzs⟩ : ∃ zs, zs = ((modesL []).map (Value.int .i64)).toArray := ⟨_, rfl⟩
    rw [← hzs] at hz HTR
    clear hb1 hzs HT0
    go_upto_region 8 with fail
    generalize (w1.alloc (.cells #[.slice none 0 0] 26)).alloc (.cells zs 28) = w2 at HTR ⊢
    rw [show (w1.alloc (.cells #[.slice none 0 0] 26)).heap.size = w1.heap.size + 1 from by simp] at HTR
    generalize w1.heap.size = X at HTR ⊢
    clear hz
    generalize (X + 1) = B at HTR ⊢
    go_wp2_with fail
    go_loopw [6] (fun s6 wr => ∃ (i : Nat) (v : Value) (T : List HoldD), s6 = .int .i64 i ∧ i ≤ n ∧ Hid (TR w wr X v T B 28 ((modesL T).map (Value.int .i64))) ∧ Hid (KA T) ∧ T.length ≤ i) (fun s6 _ => n - (intOf s6).toNat)
    case atStart => exact ⟨0, _, _, rfl, by omega, HTR, Lib.hid KA.nil, by simp⟩
    case round =>
      obtain ⟨i, v, T, rfl, hi, HT, HK, hTl⟩ := hrel
      clear HTR
      by_cases hin : (i : Int) < n
      · obtain ⟨g, off, x0, x1, x2, x3, rfl, _, hx1, hx2, hx3, c0, c1, c2, c3⟩ := HC.out i (by omega)
        have d0 := (HT.out.tw.bel.cell (Below.lt c0)).trans c0
        have d1 := (HT.out.tw.bel.cell (Below.lt c1)).trans c1
        have d2 := (HT.out.tw.bel.cell (Below.lt c2)).trans c2
        have d3 := (HT.out.tw.bel.cell (Below.lt c3)).trans c3
        obtain ⟨s, hs⟩ : ∃ s : Nat, x1 % 4 = s := ⟨(x1 % 4).toNat, by omega⟩
        obtain ⟨k, hk⟩ : ∃ k : Nat, x2 % 5 = k := ⟨(x2 % 5).toNat, by omega⟩
        obtain ⟨m2, hm2⟩ : ∃ m : Nat, x3 % 2 = m := ⟨(x3 % 2).toNat, by omega⟩
        have hs4 : s < 4 := by omega
        have hk5 : k < 5 := by omega
        have hm22 : m2 < 2 := by omega
        have n1 := number x1 4 wr (by omega) (by omega) hx1.1 hx1.2
        have n2 := number x2 5 wr (by omega) (by omega) hx2.1 hx2.2
        have n3 := number x3 2 wr (by omega) (by omega) hx3.1 hx3.2
        rw [hs] at n1
        rw [hk] at n2
        rw [hm2] at n3
        have N1 := Lib.hid n1
        have N2 := Lib.hid n2
        have N3 := Lib.hid n3
        clear c0 c1 c2 c3 hx1 hx2 hx3 hs hk hm2 n1 n2 n3
        go_upto_region 13 with (go_at_call 14; ((with_reducible first | refine N1.out.mono ?_ | refine N2.out.mono ?_); rintro e w3 ⟨rfl, rfl⟩))
        go_cut [9] from 21 to 132 (fun s9 wx => ∃ m : Int, s9 = .int .i64 m ∧ (m = 1 ∨ m = 2) ∧ wr = wx)
        case first =>
          go_wp2_with fail
          refine N3.out.mono ?_
          rintro e w3 ⟨rfl, rfl⟩
          go_wp2_with fail
          go_meet
          exact ⟨_, rfl, by omega, rfl⟩
        obtain ⟨m, rfl, hm, rfl⟩ := hcut
        obtain ⟨hta, htb, htc, htd, hte⟩ := take_may HK.out (s := s) (k := k) hm ⟨by omega, by omega⟩
        have hKT := HK.out.take (s := s) (k := k) hm ⟨by omega, by omega⟩
        have htk := tabTake HT.out.tw.tb s k m (I64L_nat (by omega)) (I64L_nat (by omega)) (by omega)
        rw [hta] at htk
        generalize hU : (takeT T s k m).2 = U at htb htc htd hte hKT htk
        generalize hbm : mayT T s k m 4 = bm at htb htd hte htk
        have HTB := Lib.hid htb
        have HTD := Lib.hid htd
        have HTE := Lib.hid hte
        have HKT := Lib.hid hKT
        have HTK := Lib.hid htk
        have HBM := Lib.hid hbm
        clear hta htb htd hte hKT htk hbm hU N1 N2 N3 d1 d2 d3
        obtain ⟨q, hq⟩ : ∃ q, bits BinOp.and IntKind.i64 x0 7 = q := ⟨_, rfl⟩
        go_upto_if 52 with fail
        go_cut [10, 11] from 21 to 132 (fun s10 s11 wx => ∃ v' T', Hid (TR w wx X v' T' B 28 ((modesL T').map (Value.int .i64))) ∧ Hid (KA T') ∧ T'.length ≤ i + 1)
        case first =>
          by_cases hq0 : q = 0
          · subst hq0
            have hfr := tabFree HT.out.tw.tb s
            have HFR := Lib.hid hfr
            clear hfr
            go_wp2_with fail
            refine HFR.out.mono ?_
            clear HFR
            rintro e w4 ⟨rfl, v4, ht4, hx4⟩
            have HT4 := Lib.hid (HT.out.turn ht4 hx4)
            have hcs : ∀ j : Nat, j < 5 → w4.cell? ⟨B, s * 5 + j, none⟩ = some (.int .i64 (modeT T s j)) ∧ w4.frozen? ⟨B, s * 5 + j, none⟩ = false := fun j hj => HT4.out.cell (by rw [List.getElem?_map, modesL_at T hs4 hj]; rfl)
            obtain ⟨p0, f0⟩ := hcs 0 (by omega)
            obtain ⟨p1, f1⟩ := hcs 1 (by omega)
            obtain ⟨p2, f2⟩ := hcs 2 (by omega)
            obtain ⟨p3, f3⟩ := hcs 3 (by omega)
            obtain ⟨p4, f4⟩ := hcs 4 (by omega)
            rw [Nat.add_zero] at p0 f0
            have hput := ((((HT4.out.put (s * 5) (.int .i64 0)).put (s * 5 + 1) (.int .i64 0)).put (s * 5 + 2) (.int .i64 0)).put (s * 5 + 3) (.int .i64 0)).put (s * 5 + 4) (.int .i64 0)
            rw [← List.map_set, ← List.map_set, ← List.map_set, ← List.map_set, ← List.map_set, modesL_free HK.out.one hs4] at hput
            have HPUT := Lib.hid hput
            generalize modeT T s 0 = y0 at p0
            generalize modeT T s 1 = y1 at p1
            generalize modeT T s 2 = y2 at p2
            generalize modeT T s 3 = y3 at p3
            generalize modeT T s 4 = y4 at p4
            clear ht4 hx4 hcs hput
            go_wp2_with fail
            go_meet
            exact ⟨_, _, HPUT, Lib.hid (HK.out.free s), by have := freeT_len T s; omega⟩
          · have hqb : (q == 0) = false := by simp [hq0]
            go_wp2_with fail
            go_loopw [10, 11] (fun s10 s11 wx => ∃ (o : Nat) (b : Bool), s11 = .int .i64 o ∧ o ≤ 4 ∧ s10 = .bool b ∧ Hid (b = mayT T s k m o) ∧ wr = wx) (fun _ s11 _ => 4 - (intOf s11).toNat)
            case atStart => exact ⟨0, true, rfl, by omega, rfl, Lib.hid rfl, rfl⟩
            case round =>
              obtain ⟨o, b, rfl, ho, rfl, HBO, rfl⟩ := hrel
              by_cases ho4 : (o : Int) < 4
              · obtain ⟨p0, _⟩ := HT.out.cell (i := o * 5 + k) (c := .int .i64 (modeT T o k)) (by rw [List.getElem?_map, modesL_at T (by omega) hk5]; rfl)
                have hsu := mayT_succ T s k m o
                rw [← HBO.out] at hsu
                unfold mayO at hsu
                generalize modeT T o k = y at p0 hsu
                cases b with
                | false =>
                  have HBO2 : Hid (false = mayT T s k m (o + 1)) := Lib.hid (by rw [hsu]; rfl)
                  clear hsu HBO p0
                  go_wp2_with fail
                  go_roundw
                  case rel => exact ⟨o + 1, false, by go_num, by omega, rfl, HBO2, trivial⟩
                  case measure => simp [intOf]; omega
                | true =>
                  rw [Bool.true_and] at hsu
                  by_cases e1 : o = s
                  · have HBO2 : Hid (true = mayT T s k m (o + 1)) := Lib.hid (by rw [hsu, e1]; simp)
                    subst e1
                    clear hsu HBO
                    go_wp2_with fail
                    go_roundw
                    case rel => exact ⟨o + 1, true, by go_num, by omega, rfl, HBO2, trivial⟩
                    case measure => simp [intOf]; omega
                  · have e2 : ((o : Int) == (s : Int)) = false := by simp; omega
                    have e3 : (o == s) = false := by simp; omega
                    rw [e2, Bool.false_or] at hsu
                    by_cases y0 : y = 0
                    · have HBO2 : Hid (true = mayT T s k m (o + 1)) := Lib.hid (by rw [hsu, y0]; rfl)
                      subst y0
                      clear hsu HBO
                      go_wp2_with fail
                      go_roundw
                      case rel => exact ⟨o + 1, true, by go_num, by omega, rfl, HBO2, trivial⟩
                      case measure => simp [intOf]; omega
                    · have y0' : (y == 0) = false := by simp [y0]
                      rw [y0', Bool.false_or] at hsu
                      by_cases m1 : m = 1
                      · subst m1
                        by_cases y1 : y = 1
                        · have HBO2 : Hid (true = mayT T s k 1 (o + 1)) := Lib.hid (by rw [hsu, y1]; rfl)
                          subst y1
                          clear hsu HBO
                          go_wp2_with fail
                          go_roundw
                          case rel => exact ⟨o + 1, true, by go_num, by omega, rfl, HBO2, trivial⟩
                          case measure => simp [intOf]; omega
                        · have y1' : (y == 1) = false := by simp [y1]
                          have HBO2 : Hid (false = mayT T s k 1 (o + 1)) := Lib.hid (by rw [hsu, y1']; rfl)
                          clear hsu HBO
                          go_wp2_with fail
                          go_roundw
                          case rel => exact ⟨o + 1, false, by go_num, by omega, rfl, HBO2, trivial⟩
                          case measure => simp [intOf]; omega
                      · have m1' : (m == 1) = false := by simp [m1]
                        have HBO2 : Hid (false = mayT T s k m (o + 1)) := Lib.hid (by rw [hsu, m1']; rfl)
                        clear hsu HBO
                        go_wp2_with fail
                        go_roundw
                        case rel => exact ⟨o + 1, false, by go_num, by omega, rfl, HBO2, trivial⟩
                        case measure => simp [intOf]; omega
              · obtain rfl : o = 4 := by omega
                obtain rfl : b = bm := by rw [HBO.out, HBM.out]
                clear HBO HBM
                go_wp2_with fail
                refine HTK.out.mono ?_
                clear HTK
                rintro e w4 ⟨rfl, v4, ht4, hx4⟩
                have HT4 := Lib.hid (HT.out.turn ht4 hx4)
                have hwho := tabWho ht4 s k m
                have htb := HTB.out
                generalize (whoT U s k m).length = L at hwho htb
                have HWHO := Lib.hid hwho
                clear ht4 hx4 hwho HTB
                cases b with
                | true =>
                  obtain rfl : L = 0 := by simpa using htb
                  clear htb
                  go_wp2_with fail
                  refine HWHO.out.mono ?_
                  clear HWHO
                  rintro e w5 ⟨⟨o5, c5, rfl, _⟩, hb5⟩
                  have HT5 := Lib.hid (HT4.out.below hb5)
                  obtain ⟨p0, f0⟩ := HT5.out.cell (i := s * 5 + k) (c := .int .i64 (modeT T s k)) (by rw [List.getElem?_map, modesL_at T (by omega) hk5]; rfl)
                  have hput := HT5.out.put (s * 5 + k) (.int .i64 (max (modeT T s k) m))
                  rw [← List.map_set, modesL_take hs4 hk5 (by simpa using HTE.out)] at hput
                  have HPUT := Lib.hid hput
                  clear hb5 hput HT4 HTE
                  generalize modeT T s k = y at p0 HPUT
                  have hs4' : (s : Int) < 4 := by omega
                  have hk5' : (k : Int) < 5 := by omega
                  by_cases hmx : y < m
                  · have hmx2 : max y m = m := by omega
                    rw [hmx2] at HPUT
                    go_wp2_with fail
                    go_region_law (fail)
                    all_goals
                      go_wp2_with fail
                      go_meet
                      exact ⟨_, _, Lib.hid (HPUT.out.below ((Below.refl _ _).drew)), HKT, by omega⟩
                  · have hmx2 : max y m = y := by omega
                    rw [hmx2] at HPUT
                    go_wp2_with fail
                    go_region_law (fail)
                    all_goals
                      go_wp2_with fail
                      go_meet
                      exact ⟨_, _, Lib.hid (HPUT.out.below ((Below.refl _ _).drew)), HKT, by omega⟩
                | false =>
                  obtain rfl : U = T := HTD.out rfl
                  go_wp2_with fail
                  refine HWHO.out.mono ?_
                  clear HWHO
                  rintro e w5 ⟨⟨o5, c5, rfl, _⟩, hb5⟩
                  have HT5 := Lib.hid (HT4.out.below hb5)
                  clear hb5 HT4 HTE
                  go_wp2_with fail
                  go_meet
                  exact ⟨_, _, HT5, HKT, by omega⟩
        obtain ⟨v', T', HT', HK', hTl'⟩ := hcut
        clear HT HK HTB HTD HTE HKT HTK HBM
        go_wp2_with fail
        go_loopw [12] (fun s12 wx => ∃ o : Nat, s12 = .int .i64 o ∧ o ≤ 4 ∧ Hid (TR w wx X v' T' B 28 ((modesL T').map (Value.int .i64)))) (fun s12 _ => 4 - (intOf s12).toNat)
        case atStart => exact ⟨0, rfl, by omega, HT'⟩
        case round =>
          obtain ⟨o, rfl, ho, HTo⟩ := hrel
          clear HT'
          by_cases ho4 : (o : Int) < 4
          · go_wp2_with fail
            go_loopw [13] (fun s13 wx => ∃ j : Nat, s13 = .int .i64 j ∧ j ≤ 5 ∧ Hid (TR w wx X v' T' B 28 ((modesL T').map (Value.int .i64)))) (fun s13 _ => 5 - (intOf s13).toNat)
            case atStart => exact ⟨0, rfl, by omega, HTo⟩
            case round =>
              obtain ⟨j, rfl, hj, HTj⟩ := hrel
              clear HTo
              by_cases hj5 : (j : Int) < 5
              · have hmd := tabMode (HTj.out.below ((Below.refl _ _).drew)).tw.tb o j
                have hcell : ∀ W, TR w W X v' T' B 28 ((modesL T').map (Value.int .i64)) → W.cell? ⟨B, o * 5 + j, none⟩ = some (.int .i64 (modeT T' o j)) := fun W hW => (hW.cell (by rw [List.getElem?_map, modesL_at T' (by omega) (by omega)]; rfl)).1
                generalize modeT T' o j = y at hmd hcell
                have HMD := Lib.hid hmd
                have p0 := hcell _ HTj.out
                have HKP := Lib.hid (fun W (hb : Below wr.drew.heap.size wr.drew W) => hcell W (HTj.out.below ((((Below.refl _ _).drew : Below wr.heap.size wr wr.drew)).trans hb)))
                clear hmd hcell
                go_wp2_with fail
                go_region_held3 (fun W' => W'.cell? ⟨B, o * 5 + j, none⟩ = some (.int .i64 y))
                  (first | exact HKP.out _ hb6 | exact HKP.out _ (Below.refl _ _) | go_keep)
                  ((first | (go_at_call 18; with_reducible refine HMD.out.mono ?_; rintro en w6 ⟨rfl, hb6⟩)))
                have HT6 := Lib.hid (HTj.out.below ((((Below.refl _ _).drew : Below wr.heap.size wr wr.drew)).trans hb6))
                clear hb6 HTj HMD HKP
                go_wp2_with fail
                go_roundw
                case rel => exact ⟨j + 1, by go_num, by omega, HT6⟩
                case measure => simp [intOf]; omega
              · obtain rfl : j = 5 := by omega
                go_wp2_with fail
                go_roundw
                case rel => exact ⟨o + 1, by go_num, by omega, HTj⟩
                case measure => simp [intOf]; omega
          · obtain rfl : o = 4 := by omega
            go_wp2_with fail
            go_roundw
            case rel => exact ⟨i + 1, v', T', by go_num, by omega, HTo, HK', by omega⟩
            case measure => simp [intOf]; omega
      · obtain rfl : i = n := by omega
        go_wp2_with fail
        go_ret
        exact ⟨rfl, HT.out.tw.bel⟩
end Go.Proofs.Ytpgelebmhhcodaa
