/- The walk of the law WaitTrees. -/
import Derived.Test.YtpgelebmhhcodaaLWaitOf
namespace Go.Proofs.Ytpgelebmhhcodaa
open Go.RowKit
set_option linter.unusedVariables false

def U100 : List Int := (List.range 101).map Int.ofNat
theorem U100_mem {x : Int} (h1 : 0 ≤ x) (h2 : x ≤ 100) : x ∈ U100 := List.mem_map.2 ⟨x.toNat, List.mem_range.2 (by omega), by show ((x.toNat : Nat) : Int) = x; omega⟩
theorem U100_len : U100.length ≤ 1000 := by simp [U100]
/-- each waits for ones ahead of it alone, the one just ahead among them -/
structure TM (M : Int → List Int) (n : Nat) : Prop where
  lo : ∀ k x, x ∈ M k → 0 ≤ x ∧ x < k ∧ k < n
  prev : ∀ i : Int, 1 ≤ i → i < n → (i - 1) ∈ M i
theorem TM.nil : TM (fun _ => []) 1 := ⟨fun k x h => by simp at h, fun i h1 h2 => by omega⟩
theorem TM.mg {M : Int → List Int} {n : Nat} (h : TM M n) (hr : ∀ k, (M k).Pairwise (· < ·)) (hn : n ≤ 100) : MG M U100 := ⟨hr, fun k x hx => by have := h.lo k x hx; exact U100_mem (by omega) (by omega)⟩
theorem TM.add {M : Int → List Int} {n : Nat} (h : TM M n) {ws : List Int} (h1 : ∀ x ∈ ws, 0 ≤ x ∧ x < n) (h2 : (n : Int) - 1 ∈ ws) : TM (updM M n (waitL ws n)) (n + 1) := by
  refine ⟨fun k x hx => ?_, fun i hi1 hi2 => ?_⟩
  · by_cases e : k = n
    · subst e
      rw [updM_same] at hx
      have := h1 x ((waitL_mem _ _ _).1 hx).1
      omega
    · rw [updM_other _ _ e] at hx
      have := h.lo k x hx
      omega
  · by_cases e : i = n
    · subst e
      rw [updM_same, waitL_mem]
      exact ⟨h2, by omega⟩
    · rw [updM_other _ _ e]
      exact h.prev i hi1 (by omega)
theorem TM.down {M : Int → List Int} {n : Nat} (h : TM M n) {a b : Int} (hr : Reach M a b) : b < a := by
  induction hr with
  | one e => exact (h.lo _ _ e).2.1
  | more _ e ih => have := (h.lo _ _ e).2.1; omega
theorem TM.none {M : Int → List Int} {n : Nat} (h : TM M n) (a : Int) : ¬ Reach M a a := fun hr => by have := h.down hr; omega
theorem TM.zero {M : Int → List Int} {n : Nat} (h : TM M n) : M 0 = [] := by
  cases e : M 0 with
  | nil => rfl
  | cons x l => have := h.lo 0 x (by rw [e]; simp); omega
theorem Reach.trans {M : Int → List Int} {a b c : Int} (h : Reach M a b) (k : Reach M b c) : Reach M a c := by
  induction k with
  | one e => exact .more h e
  | more _ e ih => exact .more ih e
/-- the edge back -/
theorem TM.back {M : Int → List Int} {n : Nat} (h : TM M n) {q : Int} (h1 : 1 ≤ q) (h2 : q < n) (a : Int) (ha0 : 0 ≤ a) (ha : a < n) : Reach (updM M 0 [q]) a a ↔ a ≤ q := by
  have hstep : ∀ d : Nat, ∀ c : Int, 1 ≤ d → (d : Int) ≤ c → c < n → Reach (updM M 0 [q]) c (c - d) := fun d => by
    induction d with
    | zero => intro c hd; omega
    | succ d ih =>
      intro c _ hdc hcn
      have hone : ∀ z : Int, 1 ≤ z → z < n → (z - 1) ∈ updM M 0 [q] z := fun z hz1 hz2 => by
        rw [updM_other _ _ (by omega)]
        exact h.prev z hz1 hz2
      by_cases hd0 : d = 0
      · subst hd0
        exact .one (hone c (by omega) hcn)
      · have hr := ih c (by omega) (by omega) hcn
        have := Reach.more hr (hone (c - d) (by omega) (by omega))
        rw [show c - ((d + 1 : Nat) : Int) = c - d - 1 from by omega]
        exact this
  have h0q : Reach (updM M 0 [q]) 0 q := .one (by rw [updM_same]; simp)
  constructor
  · intro hr
    apply Classical.byContradiction
    intro hgt
    have hlt : ∀ c x, Reach (updM M 0 [q]) c x → q < c → x < c := fun c x hx => by
      induction hx with
      | one e =>
        intro hc
        rw [updM_other _ _ (by omega)] at e
        exact (h.lo _ _ e).2.1
      | more _ e ih =>
        intro hc
        have h3 := ih hc
        rename_i y z _
        by_cases ey : y = 0
        · subst ey
          rw [updM_same] at e
          have : z = q := by simpa using e
          omega
        · rw [updM_other _ _ ey] at e
          have := (h.lo _ _ e).2.1
          omega
    have := hlt a a hr (by omega)
    omega
  · intro hle
    have hq : ∀ c : Int, 0 ≤ c → c < q → Reach (updM M 0 [q]) q c := fun c hc0 hcq => by
      have := hstep (q - c).toNat q (by omega) (by omega) h2
      rw [show q - ((q - c).toNat : Int) = c from by omega] at this
      exact this
    have h0a : Reach (updM M 0 [q]) 0 a := by
      by_cases e : a = q
      · subst e; exact h0q
      · exact h0q.trans (hq a ha0 (by omega))
    by_cases e0 : a = 0
    · subst e0; exact h0a
    · have := hstep a.toNat a (by omega) (by omega) ha
      rw [show a - (a.toNat : Int) = 0 from by omega] at this
      exact this.trans h0a
theorem updM_zero {M : Int → List Int} (h : M 0 = []) (l : List Int) : updM (updM M 0 l) 0 [] = M := by
  funext k
  unfold updM
  split
  · rename_i e; rw [e, h]
  · rfl
theorem waitL_one {q s : Int} (h : q ≠ s) : waitL [q] s = [q] := waitL_eq (by simp) fun x => by
  constructor
  · intro hx; have : x = q := by simpa using hx
    subst this; exact ⟨by simp, h⟩
  · rintro ⟨hx, _⟩; exact hx

set_option maxRecDepth 20000 in
set_option maxHeartbeats 4000000 in
theorem waitTrees_walk {w : World} {v1 : Value} {l : List Int} (h1 : Ns .i64 w v1 l) {from_ : Int} (hf : I64L from_) :
    Calls Try.prog 5 #[v1, .int .i64 from_] w fun e w' => e = .returned (.bool true) ∧ Below w.heap.size w w' := by
  have HF := Lib.hid (waitFirst w)
  have HAL0 := Lib.hid h1
  have HFR := Lib.hid hf
  obtain ⟨_, o1, c1, rfl, q1, q1', _⟩ := h1
  unfold maxLen at q1'
  obtain ⟨n, hn⟩ : ∃ n, n = l.length := ⟨_, rfl⟩
  have hal := HAL0.out.at1
  rw [← hn] at q1 ⊢
  have HN := Lib.hid hn
  have HAL := Lib.hid hal
  clear hn hf HAL0 hal
  by_cases hl2 : (n : Int) < 2
  · go_enter Try.func5, Try.ntmps5
    go_wp2_with fail
    refine HF.out.mono ?_
    clear HF
    rintro e w1 ⟨rfl, hb1⟩
    have HB1 := Lib.hid hb1
    clear hb1
    go_wp2_with fail
    go_ret
    exact ⟨rfl, HB1.out⟩
  · by_cases hl : (n : Int) > 12
    · go_enter Try.func5, Try.ntmps5
      go_wp2_with fail
      refine HF.out.mono ?_
      clear HF
      rintro e w1 ⟨rfl, hb1⟩
      have HB1 := Lib.hid hb1
      clear hb1
      go_wp2_with fail
      go_ret
      exact ⟨rfl, HB1.out⟩
    · have hn12 : n ≤ 12 := by omega
      have hn2 : 2 ≤ n := by omega
      go_enter Try.func5, Try.ntmps5
      go_wp2_with fail
      refine HF.out.mono ?_
      clear HF
      rintro e w1 ⟨rfl, hb1⟩
      have HT := Lib.hid (TG.new hb1)
      clear hb1
      go_upto_region 7 with fail
      generalize w1.alloc (.cells #[.map none] 39) = w2 at HT ⊢
      generalize w1.heap.size = X at HT ⊢
      go_wp2_with fail
      go_loopw [7] (fun s7 wr => ∃ (i : Nat) (mo : Option Nat) (nn : Nat) (f : Int → Option Value) (M : Int → List Int), s7 = .int .i64 i ∧ 1 ≤ i ∧ i ≤ n ∧ nn ≤ i ∧ Hid (TG w wr X mo nn f M) ∧ Hid (TM M i) ∧ Hid (∀ k, (M k).Pairwise (· < ·))) (fun s7 _ => n - (intOf s7).toNat)
      case atStart => exact ⟨1, _, _, _, _, rfl, by omega, by omega, by omega, HT, Lib.hid TM.nil, Lib.hid fun k => by simp⟩
      case round =>
        obtain ⟨i, mo, nn, f, M, rfl, hi1, hi, hnn, HG, HM, HR⟩ := hrel
        clear HT
        by_cases hin : (i : Int) < n
        · obtain ⟨wo, hwo⟩ : ∃ wo, wo = wr := ⟨_, rfl⟩
          rw [← hwo] at HG ⊢
          clear hwo
          go_wp2_with fail
          go_loopw [8, 9] (fun s8 s9 wx => ∃ (k : Nat) (ws : List Int) (o8 : Option Addr) (m8 c8 : Nat), s9 = .int .i64 k ∧ s8 = .slice o8 m8 c8 ∧ k ≤ i ∧ Hid (m8 = ws.length) ∧ m8 ≤ k ∧ Hid (Oi wo.heap.size wx (.slice o8 m8 c8) ws) ∧ Hid (Below wo.heap.size wo wx) ∧ Hid (∀ x ∈ ws, 0 ≤ x ∧ x < i) ∧ Hid ((i : Int) - 1 < k → (i : Int) - 1 ∈ ws)) (fun _ s9 _ => i - (intOf s9).toNat)
          case atStart => exact ⟨0, [], none, 0, 0, rfl, rfl, by omega, Lib.hid rfl, by omega, Lib.hid Oi.nil, Lib.hid (Below.refl _ _), Lib.hid (fun x hx => by simp at hx), Lib.hid (fun h => by omega)⟩
          case round =>
            obtain ⟨k, ws, o8, m8, c8, rfl, rfl, hk, HM8, hm8, HO8, HB8, HW1, HW2⟩ := hrel
            by_cases hki : (k : Int) < i
            · obtain ⟨a, x, rfl, d1, _, hxw⟩ := (HAL.out.below (HG.out.bel.trans (HB8.out.mono HG.out.bel.size))) i (by rw [← HN.out]; omega)
              clear hxw
              go_upto_region 14 with fail
              go_cut [50] from 30 to 54 (fun s50 wx => ∃ c : Bool, s50 = .bool c ∧ Hid (k + 1 = i → c = true) ∧ wr = wx)
              case first =>
                by_cases hk1 : k + 1 = i
                · have hk2 : ((k : Int) == (i : Int) - 1) = true := by rw [beq_iff_eq]; omega
                  have HK1 := Lib.hid hk1
                  clear hk1
                  go_wp2_with fail
                  all_goals
                    go_meet
                    exact ⟨true, rfl, Lib.hid (fun _ => rfl), rfl⟩
                · have hk2 : ((k : Int) == (i : Int) - 1) = false := by rw [beq_eq_false_iff_ne]; omega
                  go_wp2_with fail
                  all_goals
                    go_meet
                    exact ⟨_, rfl, Lib.hid (fun e => absurd e hk1), rfl⟩
              obtain ⟨c, rfl, HCC, rfl⟩ := hcut
              clear d1
              cases c with
              | true =>
                have hkw : (Lit.int .i64 (k : Int)).wf = true := wf_of_L (L_small (by omega) (by omega))
                have hsz := HB8.out.size
                obtain ⟨gb, cap9, w9, hrun9, ho9, hg9, _, _, hca9, hcb9⟩ := HO8.out.append1 k hkw hsz (by rw [← HM8.out]; omega) 3 34
                have hba : Below wr.heap.size wr (wr.alloc (.cells #[.int .i64 k] 3)) := (Below.refl _ _).alloc (Nat.le_refl _) _
                have hbb := HB8.out.trans (hba.mono hsz)
                have HB9 := Lib.hid ((HO8.out.below hba).grown hg9 hbb (Nat.le_refl _) hbb.size)
                rw [← HM8.out] at hrun9 ho9
                have HO9 := Lib.hid ho9
                have HM9 : Hid (m8 + 1 = (ws ++ [(k : Int)]).length) := Lib.hid (by rw [List.length_append, ← HM8.out]; rfl)
                have HW19 : Hid (∀ x ∈ ws ++ [(k : Int)], 0 ≤ x ∧ x < i) := Lib.hid (fun x hx => by
                  rcases List.mem_append.1 hx with hx | hx
                  · exact HW1.out x hx
                  · rw [List.mem_singleton.1 hx]; omega)
                have HW29 : Hid ((i : Int) - 1 < (k + 1 : Nat) → (i : Int) - 1 ∈ ws ++ [(k : Int)]) := Lib.hid (fun h => by
                  by_cases e : (i : Int) - 1 < k
                  · exact List.mem_append.2 (.inl (HW2.out e))
                  · exact List.mem_append.2 (.inr (by rw [List.mem_singleton]; omega)))
                clear hkw hsz ho9 hg9 hba hbb hca9 hcb9
                go_wp2_with (at_builtin; refine Lib.wpList_append_run _ rfl _ _ _ _ rfl _ _ rfl rfl _ _ hrun9 ?_)
                go_roundw
                case rel => exact ⟨k + 1, ws ++ [(k : Int)], _, m8 + 1, _, by go_num, rfl, by omega, HM9, by omega, HO9, HB9, HW19, HW29⟩
                case measure => simp [intOf]; omega
              | false =>
                have HW29 : Hid ((i : Int) - 1 < (k + 1 : Nat) → (i : Int) - 1 ∈ ws) := Lib.hid (fun h => HW2.out (by
                  have : ¬ k + 1 = i := fun e => by have := HCC.out e; simp at this
                  omega))
                go_wp2_with fail
                go_roundw
                case rel => exact ⟨k + 1, ws, _, m8, _, by go_num, rfl, by omega, HM8, by omega, HO8, HB8, HW1, HW29⟩
                case measure => simp [intOf]; omega
            · obtain rfl : k = i := by omega
              have HG8 := Lib.hid (HG.out.below HB8.out)
              have hwt := graphWait HG8.out.gr (s := (k : Int)) (L_small (by omega) (by omega)) HO8.out.ns (by rw [← HM8.out]; omega) (by omega)
              have HWT := Lib.hid hwt
              have hTM := HM.out.add HW1.out (HW2.out (by omega))
              have hri : ∀ q, (updM M k (waitL ws k) q).Pairwise (· < ·) := fun q => by
                unfold updM; split
                · exact waitL_rise _ _
                · exact HR.out q
              have HTM := Lib.hid hTM
              have HRI := Lib.hid hri
              clear hwt hTM hri
              go_wp2_with fail
              refine HWT.out.mono ?_
              clear HWT
              rintro e w9 ⟨rfl, mo9, n9, f9, hg9, hx9, hn9⟩
              have HG9 := Lib.hid (HG8.out.turn hg9 hx9)
              clear hg9 hx9
              go_wp2_with fail
              go_roundw
              case rel => exact ⟨k + 1, mo9, n9, f9, _, by go_num, by omega, by omega, by omega, HG9, HTM, HRI⟩
              case measure => simp [intOf]; omega
        · obtain rfl : i = n := by omega
          have hmg := HM.out.mg HR.out (by omega)
          have hmu := hmg.mu U100_len
          have HMU := Lib.hid hmu
          clear hmg hmu
          go_wp2_with fail
          go_loopw [10] (fun s10 wx => ∃ j : Nat, s10 = .int .i64 j ∧ j ≤ i ∧ Hid (TG w wx X mo nn f M)) (fun s10 _ => i - (intOf s10).toNat)
          case atStart => exact ⟨0, rfl, by omega, HG⟩
          case round =>
            obtain ⟨j, rfl, hj, HGj⟩ := hrel
            clear HG
            by_cases hji : (j : Int) < i
            · have HC := Lib.hid (cycNo HGj.out.gr HMU.out (s := (j : Int)) (L_small (by omega) (by omega)) (HM.out.none j))
              go_wp2_with fail
              refine HC.out.mono ?_
              clear HC
              rintro e w9 ⟨rfl, hb9⟩
              have HG9 := Lib.hid (HGj.out.below hb9)
              clear hb9 HGj
              go_wp2_with fail
              go_roundw
              case rel => exact ⟨j + 1, by go_num, by omega, HG9⟩
              case measure => simp [intOf]; omega
            · obtain rfl : j = i := by omega
              obtain ⟨q, hq⟩ : ∃ q : Nat, from_ % ((j : Int) - 1) = q := ⟨(from_ % ((j : Int) - 1)).toNat, by have := Int.emod_nonneg from_ (b := (j : Int) - 1) (by omega); omega⟩
              have hq1 : (q : Int) < (j : Int) - 1 := by rw [← hq]; exact Int.emod_lt_of_pos _ (by omega)
              have hnum := fun W => number from_ ((j : Int) - 1) W (by omega) (by omega) HFR.out.1 HFR.out.2
              rw [hq] at hnum
              have HNUM := Lib.hid hnum
              clear hq hnum
              obtain ⟨p, hp⟩ : ∃ p : Nat, p = 1 + q := ⟨_, rfl⟩
              go_upto_region 22 with fail
              go_cut [1] from 58 to 99 (fun s1 wx => s1 = .int .i64 p ∧ wr = wx)
              case first =>
                go_wp2_with fail
                refine (HNUM.out _).mono ?_
                clear HNUM
                rintro e w9 ⟨rfl, rfl⟩
                go_wp2_with fail
                go_meet
                exact ⟨congrArg (Value.int .i64) (by omega), rfl⟩
              obtain ⟨rfl, rfl⟩ := hcut
              have hp1 : 1 ≤ p := by omega
              have hpj : p < j := by omega
              clear hp HNUM hq1
              have hwt := fun W (hg : TG w W X mo nn f M) (u : Value) (hu : Ns .i64 W u [(p : Int)]) => graphWait hg.gr (s := 0) (L_small (by omega) (by omega)) hu (by simp) (by omega)
              rw [waitL_one (by omega)] at hwt
              have hmg := (HM.out.mg HR.out (by omega))
              have hmg2 : MG (updM M 0 [(p : Int)]) U100 := by
                have := hmg.wait 0 (who := [(p : Int)]) (fun x hx => by rw [List.mem_singleton.1 hx]; exact U100_mem (by omega) (by omega))
                rw [waitL_one (by omega)] at this
                exact this
              have HMG2 := Lib.hid (hmg2.mu U100_len)
              have HWT := Lib.hid hwt
              have hone := Ns.one (w := wr) (e := 3) (x := (p : Int)) (wf_of_L (L_small (by omega) (by omega)))
              have hb1 : Below wr.heap.size wr (wr.alloc (.cells #[.int .i64 p] 3)) := (Below.refl _ _).alloc (Nat.le_refl _) _
              have HG1 := Lib.hid (HGj.out.below hb1)
              have HON := Lib.hid hone
              clear hwt hmg hmg2 hone hb1 HGj
              go_wp2_with fail
              refine (HWT.out _ HG1.out _ HON.out).mono ?_
              clear HWT HON
              rintro e wa ⟨rfl, moa, na, fa, hga, hxa, hna⟩
              have HGa := Lib.hid (HG1.out.turn hga hxa)
              clear hga hxa HG1
              go_wp2_with fail
              go_loopw [11] (fun s11 wx => ∃ i : Nat, s11 = .int .i64 i ∧ i ≤ j ∧ Hid (TG w wx X moa na fa (updM M 0 [(p : Int)]))) (fun s11 _ => j - (intOf s11).toNat)
              case atStart => exact ⟨0, rfl, by omega, HGa⟩
              case round =>
                obtain ⟨i, rfl, hi, HGi⟩ := hrel
                clear HGa
                by_cases hij : (i : Int) < j
                · have hbk := HM.out.back (q := (p : Int)) (by omega) (by omega) i (by omega) (by omega)
                  by_cases hip : i ≤ p
                  · have hip2 : (i : Int) ≤ (p : Int) := by omega
                    have HC := Lib.hid (cycYes HGi.out.gr HMG2.out (s := (i : Int)) (L_small (by omega) (by omega)) (hbk.2 hip2))
                    clear hbk
                    go_wp2_with fail
                    refine HC.out.mono ?_
                    clear HC
                    rintro e wb ⟨rfl, hbb⟩
                    have HGb := Lib.hid (HGi.out.below hbb)
                    clear hbb HGi
                    go_wp2_with fail
                    go_roundw
                    case rel => exact ⟨i + 1, by go_num, by omega, HGb⟩
                    case measure => simp [intOf]; omega
                  · have hip2 : ¬ (i : Int) ≤ (p : Int) := by omega
                    have HC := Lib.hid (cycNo HGi.out.gr HMG2.out (s := (i : Int)) (L_small (by omega) (by omega)) (fun h => hip2 (hbk.1 h)))
                    clear hbk
                    go_wp2_with fail
                    refine HC.out.mono ?_
                    clear HC
                    rintro e wb ⟨rfl, hbb⟩
                    have HGb := Lib.hid (HGi.out.below hbb)
                    clear hbb HGi
                    go_wp2_with fail
                    go_roundw
                    case rel => exact ⟨i + 1, by go_num, by omega, HGb⟩
                    case measure => simp [intOf]; omega
                · obtain rfl : i = j := by omega
                  have hcl := graphClear HGi.out.gr (s := 0) (L_small (by omega) (by omega))
                  rw [updM_zero HM.out.zero] at hcl
                  have HCL := Lib.hid hcl
                  clear hcl
                  go_wp2_with fail
                  refine HCL.out.mono ?_
                  clear HCL
                  rintro e wb ⟨rfl, hgb, hxb⟩
                  have HGb := Lib.hid (HGi.out.turn hgb hxb)
                  clear hgb hxb HGi
                  have HC := Lib.hid (cycNo HGb.out.gr HMU.out (s := (p : Int)) (L_small (by omega) (by omega)) (HM.out.none p))
                  go_wp2_with fail
                  refine HC.out.mono ?_
                  clear HC
                  rintro e wd ⟨rfl, hbd⟩
                  have HGd := Lib.hid (HGb.out.below hbd)
                  clear hbd HGb
                  have hof := graphOf HGd.out.gr (s := 0) (L_small (by omega) (by omega)) (by rw [HM.out.zero]; simp)
                  rw [HM.out.zero] at hof
                  have HOF := Lib.hid hof
                  clear hof
                  go_wp2_with fail
                  refine HOF.out.mono ?_
                  clear HOF
                  rintro e we ⟨⟨oe, ce, rfl, _⟩, hbe⟩
                  have HGe := Lib.hid (HGd.out.below hbe)
                  clear hbe HGd
                  go_wp2_with fail
                  go_ret
                  exact ⟨rfl, HGe.out.bel⟩
end Go.Proofs.Ytpgelebmhhcodaa
