/- The walk of the law WaitOf. -/
import Derived.Test.YtpgelebmhhcodaaWtL
import Derived.Test.YtpgelebmhhcodaaNum
namespace Go.Proofs.Ytpgelebmhhcodaa
open Go.RowKit
set_option linter.unusedVariables false

/-- ints that can be read, one by one -/
def At1 (w : World) (o : Option Addr) (l : List Int) : Prop := ∀ i, i < l.length → ∃ a x, o = some a ∧ w.cell? (a.add i) = some (.int .i64 x) ∧ l[i]? = some x ∧ I64L x
theorem Ns.at1 {w : World} {o : Option Addr} {n c : Nat} {l : List Int} (h : Ns .i64 w (.slice o n c) l) : At1 w o l := by
  obtain ⟨hwf, o', c', he, _, _, _, h4⟩ := h
  simp only [Value.slice.injEq] at he
  obtain ⟨rfl, _, _⟩ := he
  intro i hi
  obtain ⟨a, x, ha, hc, hx, hxw⟩ := Ns.at_ hwf h4 hi
  exact ⟨a, x, ha, hc, by rw [List.getElem?_eq_getElem hi, ← getD_lt (d := 0) hi, hx.out], wf_i64 hxw⟩
theorem At1.below {w w' : World} {o : Option Addr} {l : List Int} (h : At1 w o l) (hb : Below w.heap.size w w') : At1 w' o l := fun i hi => by
  obtain ⟨a, x, h1, h2, h3⟩ := h i hi
  exact ⟨a, x, h1, (hb.cell (Below.lt h2)).trans h2, h3⟩
theorem sameSelfW {v u : Value} {l : List Int} {w : World} (hv : Ns .i64 w v l) (hu : Ns .i64 w u l) :
    Calls Try.prog 23 #[v, u] w fun e w' => e = .returned (.bool true) ∧ Below w.heap.size w w' :=
  (sameInts v u l l w hv hu).mono fun e w' ⟨he, n, hw⟩ => by
    refine ⟨by rw [he]; simp [sameB], ?_⟩
    rw [hw]
    exact bdrew _ _ _
theorem reach_self {s : Int} {l : List Int} (hs : s ∉ l) {x : Int} (h : Reach (updM (fun _ => []) s l) s x) : x ∈ l := by
  have key : ∀ a y, Reach (updM (fun _ => []) s l) a y → a = s → y ∈ l := fun a y hr => by
    induction hr with
    | one e => intro ea; subst ea; rw [updM_same] at e; exact e
    | more _ e ih =>
      intro ea
      have := ih ea
      rw [updM_other _ _ (fun e2 => hs (by rw [← e2]; exact this))] at e
      simp at e
  exact key s x h rfl

set_option maxRecDepth 20000 in
set_option maxHeartbeats 4000000 in
theorem waitOf_walk {w : World} {s : Int} (hs : I64L s) {v1 v2 : Value} {l m : List Int} (h1 : Ns .i64 w v1 l) (h2 : Ns .i64 w v2 m) :
    Calls Try.prog 4 #[.int .i64 s, v1, v2] w fun e w' => e = .returned (.bool true) ∧ Below w.heap.size w w' := by
  have HF := Lib.hid (waitFirst w)
  have H1 := Lib.hid h1
  have H2 := Lib.hid h2
  have HS := Lib.hid hs
  obtain ⟨_, o1, c1, rfl, q1, q1', _⟩ := h1
  obtain ⟨_, o2, c2, rfl, q2, q2', _⟩ := h2
  unfold maxLen at q1' q2'
  obtain ⟨n1, hn1⟩ : ∃ n, n = l.length := ⟨_, rfl⟩
  obtain ⟨n2, hn2⟩ : ∃ n, n = m.length := ⟨_, rfl⟩
  rw [← hn1] at q1 H1 ⊢
  rw [← hn2] at q2 H2 ⊢
  have HN1 := Lib.hid hn1
  have HN2 := Lib.hid hn2
  clear hn1 hn2 hs
  by_cases hl : (n1 : Int) > 20
  · go_enter Try.func4, Try.ntmps4
    go_wp2_with fail
    refine HF.out.mono ?_
    clear HF
    rintro e w1 ⟨rfl, hb1⟩
    have HB1 := Lib.hid hb1
    clear hb1
    go_wp2_with fail
    go_ret
    exact ⟨rfl, HB1.out⟩
  · by_cases hm : (n2 : Int) > 20
    · go_enter Try.func4, Try.ntmps4
      go_wp2_with fail
      refine HF.out.mono ?_
      clear HF
      rintro e w1 ⟨rfl, hb1⟩
      have HB1 := Lib.hid hb1
      clear hb1
      go_wp2_with fail
      go_ret
      exact ⟨rfl, HB1.out⟩
    · go_enter Try.func4, Try.ntmps4
      go_wp2_with fail
      refine HF.out.mono ?_
      clear HF
      rintro e w1 ⟨rfl, hb1⟩
      have HT := Lib.hid (TG.new hb1)
      clear hb1
      go_upto_region 7 with fail
      generalize w1.alloc (.cells #[.map none] 39) = w2 at HT ⊢
      generalize w1.heap.size = X at HT ⊢
      have HW := Lib.hid (graphWait HT.out.gr HS.out (H1.out.below HT.out.bel) (by rw [← HN1.out]; omega) (by omega))
      go_wp2_with fail
      refine HW.out.mono ?_
      clear HW
      rintro e w3 ⟨rfl, mo3, n3, f3, hg3, hx3, hn3⟩
      have HT3 := Lib.hid (HT.out.turn hg3 hx3)
      clear HT hg3 hx3
      have HW := Lib.hid (graphWait HT3.out.gr HS.out (H2.out.below HT3.out.bel) (by rw [← HN2.out]; omega) (by omega))
      go_wp2_with fail
      refine HW.out.mono ?_
      clear HW
      rintro e w4 ⟨rfl, mo4, n4, f4, hg4, hx4, _⟩
      rw [updM_upd] at hg4
      have HT4 := Lib.hid (HT3.out.turn hg4 hx4)
      clear HT3 hg4 hx4
      have hMG : MG (updM (fun _ => []) s (waitL m s)) m := (MG.nil _).wait s fun x hx => hx
      have hmu := hMG.mu (by rw [← HN2.out]; omega)
      have hno : ¬ Reach (updM (fun _ => []) s (waitL m s)) s s := fun hr => by
        have := reach_self (fun e => ((waitL_mem m s s).1 e).2 rfl) hr
        exact ((waitL_mem m s s).1 this).2 rfl
      have hof := fun W (h : TG w W X mo4 n4 f4 (updM (fun _ => []) s (waitL m s))) => graphOf h.gr HS.out (by rw [updM_same]; have := (hmu.lenM s); rw [updM_same] at this; rw [← HN2.out] at this; omega)
      rw [show updM (fun _ => []) s (waitL m s) s = waitL m s from updM_same _ _ _] at hof
      have hcy := fun W (h : TG w W X mo4 n4 f4 (updM (fun _ => []) s (waitL m s))) => cycNo h.gr hmu HS.out hno
      obtain ⟨O, hO⟩ : ∃ O, O = waitL m s := ⟨_, rfl⟩
      have hOm : ∀ x, x ∈ O ↔ x ∈ m ∧ x ≠ s := fun x => by rw [hO]; exact waitL_mem _ _ _
      have hOr : O.Pairwise (· < ·) := by rw [hO]; exact waitL_rise _ _
      have hOl : O.length ≤ 20 := by
        have h1 := hmu.lenM s
        rw [updM_same, ← hO, ← HN2.out] at h1
        omega
      rw [← hO] at hof hcy HT4
      have HOF := Lib.hid hof
      have HCY := Lib.hid hcy
      have HOM := Lib.hid hOm
      have HOR := Lib.hid hOr
      obtain ⟨L, hL⟩ : ∃ L, L = O.length := ⟨_, rfl⟩
      rw [← hL] at hOl
      have HL := Lib.hid hL
      clear hMG hmu hno hof hcy hO hOm hOr hL
      go_wp2_with fail
      refine (HOF.out _ HT4.out).mono ?_
      rintro e w5 ⟨⟨o5, c5, rfl, ho5⟩, hb5⟩
      have HT5 := Lib.hid (HT4.out.below hb5)
      rw [← HL.out] at ho5 ⊢
      have hc5 : L ≤ c5 ∧ c5 ≤ 9223372036854775807 := by
        obtain ⟨o', c', he, h1, h2, _⟩ := ho5.form
        simp only [Value.slice.injEq] at he
        obtain ⟨_, e1, e2⟩ := he
        unfold maxLen at h2
        omega
      obtain ⟨hc51, hc52⟩ := hc5
      have HO5 := Lib.hid ho5.ns
      have HAO := Lib.hid ho5.ns.at1
      have HAM := Lib.hid ((H2.out.below HT5.out.bel).at1)
      clear hb5 ho5 HT4 H1
      go_wp2_with fail
      go_loopw [10] (fun s10 wx => ∃ i : Nat, s10 = .int .i64 i ∧ i ≤ L ∧ Hid (Below w5.heap.size w5 wx)) (fun s10 _ => L - (intOf s10).toNat)
      case atStart => exact ⟨0, rfl, by omega, Lib.hid (Below.refl _ _)⟩
      case round =>
        obtain ⟨i, rfl, hi, HB⟩ := hrel
        by_cases hiL : (i : Int) < L
        · obtain ⟨a5, x, rfl, _, hx, hxw⟩ := HAO.out i (by rw [← HL.out]; omega)
          have hxm := (HOM.out x).1 (List.mem_of_getElem? hx)
          have HXM := Lib.hid hxm
          have HX := Lib.hid hx
          clear hx hxm hxw
          go_wp2_with fail
          go_loopw [11, 12] (fun s11 s12 wx => ∃ (k : Nat) (b : Bool), s12 = .int .i64 k ∧ s11 = .bool b ∧ k ≤ n2 ∧ Hid (b = decide (x ∈ m.take k)) ∧ Hid (Below w5.heap.size w5 wx)) (fun _ s12 _ => n2 - (intOf s12).toNat)
          case atStart => exact ⟨0, false, rfl, rfl, by omega, Lib.hid (by simp), HB⟩
          case round =>
            obtain ⟨k, b, rfl, rfl, hk, HBB, HBW⟩ := hrel
            clear HB
            by_cases hkn : (k : Int) < n2
            · obtain ⟨a2, y, rfl, d2, hy, _⟩ := (HAM.out.below HBW.out) k (by rw [← HN2.out]; omega)
              obtain ⟨a5', x', e5, d5, hx', _⟩ := (HAO.out.below HBW.out) i (by rw [← HL.out]; omega)
              obtain rfl : a5 = a5' := by simpa using e5
              obtain rfl : x = x' := by have := HX.out; rw [hx'] at this; simpa using this.symm
              have htk : decide (x ∈ m.take (k + 1)) = (decide (x ∈ m.take k) || y == x) := by
                rw [List.take_add_one, hy, Option.toList_some, Bool.eq_iff_iff]
                simp
                constructor
                · rintro (h | h)
                  · exact .inl h
                  · exact .inr h.symm
                · rintro (h | h)
                  · exact .inl h
                  · exact .inr h.symm
              rw [← HBB.out] at htk
              have HTK := Lib.hid htk
              clear htk hy hx' e5
              cases b with
              | true =>
                have HBB2 : Hid (true = decide (x ∈ m.take (k + 1))) := Lib.hid (by rw [HTK.out]; rfl)
                clear HBB HTK
                go_wp2_with fail
                go_quiet (fail)
                go_wp2_with fail
                go_roundw
                case rel => exact ⟨k + 1, true, by go_num, rfl, by omega, HBB2, Lib.hid (HBW.out.trans (bdrew _ _ _))⟩
                case measure => simp [intOf]; omega
              | false =>
                have HBB2 : Hid ((y == x) = decide (x ∈ m.take (k + 1))) := Lib.hid (by rw [HTK.out]; simp)
                clear HBB HTK
                go_wp2_with fail
                go_quiet (fail)
                go_wp2_with fail
                go_roundw
                case rel => exact ⟨k + 1, y == x, by go_num, rfl, by omega, HBB2, Lib.hid (HBW.out.trans (bdrew _ _ _))⟩
                case measure => simp [intOf]; omega
            · obtain rfl : k = n2 := by omega
              obtain rfl : b = true := by rw [HBB.out, List.take_of_length_le (by rw [← HN2.out]; omega)]; simp [HXM.out.1]
              obtain ⟨a5', x', e5, d5, hx', _⟩ := (HAO.out.below HBW.out) i (by rw [← HL.out]; omega)
              obtain rfl : a5 = a5' := by simpa using e5
              obtain rfl : x = x' := by have := HX.out; rw [hx'] at this; simpa using this.symm
              have hxs : (x == s) = false := by simp [HXM.out.2]
              clear hx' e5 HBB
              go_upto_region 18 with fail
              go_cut [85] from 42 to 85 (fun s85 wx => s85 = .bool false ∧ ∃ q, wx = wr.drewN q)
              case first =>
                by_cases hi0 : i = 0
                · subst hi0
                  have d5' : wr.cell? a5 = some (.int .i64 x) := d5
                  go_quiet (fail)
                  go_wp2_with fail
                  go_meet
                  exact ⟨rfl, _, rfl⟩
                · have hi1 : (0 : Int) < i := by omega
                  have hi1n : 0 < i := by omega
                  obtain ⟨a6, x6, e6, d6, hx6, _⟩ := (HAO.out.below HBW.out) (i - 1) (by rw [← HL.out]; omega)
                  obtain rfl : a5 = a6 := by simpa using e6
                  have hlt : x6 < x := by
                    have hp := List.pairwise_iff_getElem.1 HOR.out (i - 1) i (by rw [← HL.out]; omega) (by rw [← HL.out]; omega) (by omega)
                    have e1 := (List.getElem?_eq_some_iff.1 hx6).2
                    have e2 := (List.getElem?_eq_some_iff.1 HX.out).2
                    rw [e1, e2] at hp
                    exact hp
                  have hle : decide (x ≤ x6) = false := by simp; omega
                  have hwr : IntKind.i64.wrap ((i : Int) - 1) = (i : Int) - 1 := by rw [IntKind.wrap_i64]; omega
                  have hn1 : ((i : Int) - 1).toNat = i - 1 := by omega
                  have hge : (1 : Int) ≤ i := by omega
                  have hge2 : (0 : Int) ≤ (i : Int) - 1 := by omega
                  have hlt2 : (i : Int) - 1 < L := by omega
                  clear hx6 e6 hlt
                  go_quiet (fail)
                  go_wp2_with fail
                  go_meet
                  exact ⟨rfl, _, rfl⟩
              obtain ⟨rfl, q, rfl⟩ := hcut
              have HB2 := Lib.hid (HBW.out.trans (bdrew w5.heap.size wr q))
              clear HBW d5
              generalize wr.drewN q = wz at HB2 ⊢
              go_wp2_with fail
              go_roundw
              case rel => exact ⟨i + 1, by go_num, by omega, HB2⟩
              case measure => simp [intOf]; omega
        · obtain rfl : i = L := by omega
          go_wp2_with fail
          go_loopw [13] (fun s13 wx => ∃ k : Nat, s13 = .int .i64 k ∧ k ≤ n2 ∧ Hid (Below w5.heap.size w5 wx)) (fun s13 _ => n2 - (intOf s13).toNat)
          case atStart => exact ⟨0, rfl, by omega, HB⟩
          case round =>
            obtain ⟨k, rfl, hk, HB⟩ := hrel
            by_cases hkn : (k : Int) < n2
            · obtain ⟨a2, y, rfl, d2, hy, _⟩ := (HAM.out.below HB.out) k (by rw [← HN2.out]; omega)
              have HYM := Lib.hid hy
              have hyo : y ≠ s → y ∈ O := fun e => (HOM.out y).2 ⟨List.mem_of_getElem? hy, e⟩
              have HYO := Lib.hid hyo
              clear hy hyo
              go_wp2_with fail
              go_loopw [14, 15] (fun s14 s15 wx => ∃ (j : Nat) (b : Bool), s15 = .int .i64 j ∧ s14 = .bool b ∧ j ≤ i ∧ Hid (b = (y == s || decide (y ∈ O.take j))) ∧ Hid (Below w5.heap.size w5 wx)) (fun _ s15 _ => i - (intOf s15).toNat)
              case atStart => exact ⟨0, y == s, rfl, rfl, by omega, Lib.hid (by simp), HB⟩
              case round =>
                obtain ⟨j, b, rfl, rfl, hj, HBB, HBW⟩ := hrel
                clear HB d2
                by_cases hji : (j : Int) < i
                · obtain ⟨a2', y', e2, d2, hy', _⟩ := (HAM.out.below HBW.out) k (by rw [← HN2.out]; omega)
                  obtain rfl : a2 = a2' := by simpa using e2
                  obtain rfl : y = y' := by have := HYM.out; rw [hy'] at this; simpa using this.symm
                  obtain ⟨a5, x, rfl, d5, hx, _⟩ := (HAO.out.below HBW.out) j (by rw [← HL.out]; omega)
                  have htk : (y == s || decide (y ∈ O.take (j + 1))) = ((y == s || decide (y ∈ O.take j)) || y == x) := by
                    rw [List.take_add_one, hx, Option.toList_some, Bool.eq_iff_iff]
                    simp
                    constructor
                    · rintro (h | h | h)
                      · exact .inl (.inl h)
                      · exact .inl (.inr h)
                      · exact .inr h
                    · rintro ((h | h) | h)
                      · exact .inl h
                      · exact .inr (.inl h)
                      · exact .inr (.inr h)
                  rw [← HBB.out] at htk
                  have HTK := Lib.hid htk
                  clear htk hx hy' e2
                  cases b with
                  | true =>
                    have HBB2 : Hid (true = (y == s || decide (y ∈ O.take (j + 1)))) := Lib.hid (by rw [HTK.out]; rfl)
                    clear HBB HTK
                    go_wp2_with fail
                    go_quiet (fail)
                    go_wp2_with fail
                    go_roundw
                    case rel => exact ⟨j + 1, true, by go_num, rfl, by omega, HBB2, Lib.hid (HBW.out.trans (bdrew _ _ _))⟩
                    case measure => simp [intOf]; omega
                  | false =>
                    have HBB2 : Hid ((y == x) = (y == s || decide (y ∈ O.take (j + 1)))) := Lib.hid (by rw [HTK.out]; simp)
                    clear HBB HTK
                    go_wp2_with fail
                    go_quiet (fail)
                    go_wp2_with fail
                    go_roundw
                    case rel => exact ⟨j + 1, y == x, by go_num, rfl, by omega, HBB2, Lib.hid (HBW.out.trans (bdrew _ _ _))⟩
                    case measure => simp [intOf]; omega
                · obtain rfl : j = i := by omega
                  obtain rfl : b = true := by
                    rw [HBB.out, List.take_of_length_le (by rw [← HL.out]; omega)]
                    by_cases e : y = s
                    · simp [e]
                    · simp [HYO.out e]
                  clear HBB
                  go_wp2_with fail
                  go_roundw
                  case rel => exact ⟨k + 1, by go_num, by omega, HBW⟩
                  case measure => simp [intOf]; omega
            · obtain rfl : k = n2 := by omega
              have HT6 := Lib.hid (HT5.out.below HB.out)
              go_wp2_with fail
              refine (HCY.out _ HT6.out).mono ?_
              rintro e w7 ⟨rfl, hb7⟩
              have HT7 := Lib.hid (HT6.out.below hb7)
              have HB7 := Lib.hid (HB.out.trans (hb7.mono HB.out.size))
              clear HT6 hb7
              go_wp2_with fail
              refine (HOF.out _ HT7.out).mono ?_
              rintro e w8 ⟨⟨o8, c8, rfl, ho8⟩, hb8⟩
              have HT8 := Lib.hid (HT7.out.below hb8)
              have hno8 : Ns .i64 w8 (.slice o5 i c5) O := HO5.out.below (HB7.out.trans (hb8.mono HB7.out.size))
              have HSA := Lib.hid (sameSelfW ho8.ns hno8)
              rw [← HL.out] at HSA ⊢
              clear HT7 hb8 ho8 hno8
              go_wp2_with fail
              refine HSA.out.mono ?_
              rintro e w9 ⟨rfl, hb9⟩
              have HT9 := Lib.hid (HT8.out.below hb9)
              clear HT8 hb9
              go_wp2_with fail
              go_ret
              exact ⟨rfl, HT9.out.bel⟩
end Go.Proofs.Ytpgelebmhhcodaa
