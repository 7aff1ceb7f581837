/- The walk of the law WaitRounds. -/
import Derived.Test.YtpgelebmhhcodaaLWaitTrees
namespace Go.Proofs.Ytpgelebmhhcodaa
open Go.RowKit
set_option linter.unusedVariables false

/-- a round of n, the first i of it -/
def roundM (n i : Nat) : Int → List Int := fun k => if 0 ≤ k ∧ k < i then [(k + 1) % n] else []
theorem roundM_zero (n : Nat) : roundM n 0 = fun _ => [] := by
  funext k; unfold roundM; rw [if_neg (by omega)]
theorem roundM_step {n i : Nat} (hn : 2 ≤ n) (hi : i < n) : updM (roundM n i) i (waitL [((i : Int) + 1) % n] i) = roundM n (i + 1) := by
  rw [waitL_one (by
    by_cases e : i + 1 = n
    · have : ((i : Int) + 1) % n = 0 := by rw [show (i : Int) + 1 = n from by omega]; exact Int.emod_self
      omega
    · have : ((i : Int) + 1) % n = i + 1 := Int.emod_eq_of_lt (by omega) (by omega)
      omega)]
  funext k
  by_cases e : k = i
  · subst e; rw [updM_same]; unfold roundM; rw [if_pos (by omega)]
  · rw [updM_other _ _ e]; unfold roundM
    by_cases h : 0 ≤ k ∧ k < i
    · rw [if_pos h, if_pos (by omega)]
    · rw [if_neg h, if_neg (by omega)]
theorem roundM_mem {n i : Nat} (hn : 2 ≤ n) {k x : Int} (h : x ∈ roundM n i k) : 0 ≤ k ∧ k < i ∧ x = (k + 1) % n ∧ 0 ≤ x ∧ x < n := by
  unfold roundM at h
  split at h
  · have : x = (k + 1) % n := by simpa using h
    have h1 := Int.emod_nonneg (k + 1) (b := (n : Int)) (by omega)
    have h2 := Int.emod_lt_of_pos (k + 1) (b := (n : Int)) (by omega)
    omega
  · simp at h
theorem roundM_mg {n i : Nat} (hn : 2 ≤ n) (hn2 : n ≤ 31) : MG (roundM n i) U100 :=
  ⟨fun k => by unfold roundM; split <;> simp, fun k x hx => by have := roundM_mem hn hx; exact U100_mem (by omega) (by omega)⟩
theorem roundM_path {n i : Nat} (hn : 2 ≤ n) (hi : i < n) {a b : Int} (h : Reach (roundM n i) a b) : a < b := by
  have hs : ∀ k x, x ∈ roundM n i k → x = k + 1 := fun k x hx => by
    have h1 := roundM_mem hn hx
    have h2 : (k + 1) % (n : Int) = k + 1 := Int.emod_eq_of_lt (by omega) (by omega)
    omega
  induction h with
  | one e => have := hs _ _ e; omega
  | more _ e ih => have := hs _ _ e; omega
/-- the whole round, and one that waits for it -/
def roundW (n : Nat) : Int → List Int := updM (roundM n n) 100 [0]
theorem roundW_mem {n : Nat} (hn : 2 ≤ n) {k x : Int} (h : x ∈ roundW n k) : (k = 100 ∧ x = 0) ∨ (0 ≤ k ∧ k < n ∧ x = (k + 1) % n ∧ 0 ≤ x ∧ x < n) := by
  unfold roundW at h
  by_cases e : k = 100
  · subst e; rw [updM_same] at h; left; exact ⟨rfl, by simpa using h⟩
  · rw [updM_other _ _ e] at h; exact .inr (roundM_mem hn h)
theorem roundW_mg {n : Nat} (hn : 2 ≤ n) (hn2 : n ≤ 31) : MG (roundW n) U100 :=
  ⟨fun k => by unfold roundW updM; split
               · simp
               · exact (roundM_mg hn hn2).rise k, fun k x hx => by have := roundW_mem hn hx; exact U100_mem (by omega) (by omega)⟩
theorem roundW_step {n : Nat} (hn : 2 ≤ n) (hn2 : n ≤ 31) {k : Int} (h1 : 0 ≤ k) (h2 : k + 1 < n) : (k + 1) ∈ roundW n k := by
  unfold roundW
  rw [updM_other _ _ (by omega)]
  unfold roundM
  rw [if_pos (by omega), Int.emod_eq_of_lt (by omega) h2]
  simp
theorem roundW_last {n : Nat} (hn : 2 ≤ n) (hn2 : n ≤ 31) : (0 : Int) ∈ roundW n ((n : Int) - 1) := by
  unfold roundW
  rw [updM_other _ _ (by omega)]
  unfold roundM
  rw [if_pos (by omega), show (n : Int) - 1 + 1 = n from by omega, Int.emod_self]
  simp
theorem roundW_up {n : Nat} (hn : 2 ≤ n) (hn2 : n ≤ 31) : ∀ d : Nat, ∀ c : Int, 0 ≤ c → 1 ≤ d → c + d < n → Reach (roundW n) c (c + d)
  | 0, c, _, h, _ => by omega
  | d + 1, c, h0, _, h => by
    by_cases e : d = 0
    · subst e; exact .one (roundW_step hn hn2 h0 (by omega))
    · have := Reach.more (roundW_up hn hn2 d c h0 (by omega) (by omega)) (roundW_step hn hn2 (k := c + d) (by omega) (by omega))
      rw [show c + ((d + 1 : Nat) : Int) = c + d + 1 from by omega]
      exact this
theorem roundW_yes {n : Nat} (hn : 2 ≤ n) (hn2 : n ≤ 31) {i : Int} (h0 : 0 ≤ i) (h1 : i < n) : Reach (roundW n) i i := by
  have hl : Reach (roundW n) i 0 := by
    by_cases e : i = (n : Int) - 1
    · rw [e]; exact .one (roundW_last hn hn2)
    · have := roundW_up hn hn2 ((n : Int) - 1 - i).toNat i h0 (by omega) (by omega)
      rw [show i + (((n : Int) - 1 - i).toNat : Int) = (n : Int) - 1 from by omega] at this
      exact .more this (roundW_last hn hn2)
  by_cases e : i = 0
  · rw [e] at hl ⊢; exact hl
  · have := roundW_up hn hn2 i.toNat 0 (by omega) (by omega) (by omega)
    rw [show (0 : Int) + (i.toNat : Int) = i from by omega] at this
    exact hl.trans this
theorem roundW_no {n : Nat} (hn : 2 ≤ n) (hn2 : n ≤ 31) : ¬ Reach (roundW n) 100 100 := fun h => by
  have : ∀ a b, Reach (roundW n) a b → b < 100 := fun a b h => by
    cases h with
    | one e => have := roundW_mem hn e; omega
    | more _ e => have := roundW_mem hn e; omega
  have := this _ _ h
  omega
/-- .. with one gone -/
def roundG (n : Nat) (g : Int) : Int → List Int := fun k => delI (updM (roundW n) g [] k) g
theorem roundG_mem {n : Nat} (hn : 2 ≤ n) {g k x : Int} (h : x ∈ roundG n g k) : k ≠ g ∧ x ≠ g ∧ x ∈ roundW n k := by
  unfold roundG at h
  rw [delI_mem] at h
  by_cases e : k = g
  · subst e; rw [updM_same] at h; simp at h
  · rw [updM_other _ _ e] at h; exact ⟨e, h.2, h.1⟩
def rankG (n : Nat) (g j : Int) : Int := if g < j then j - g - 1 else j + n - g - 1
theorem roundG_no {n : Nat} (hn : 2 ≤ n) (hn2 : n ≤ 31) {g : Int} (hg0 : 0 ≤ g) (hg : g < n) {i : Int} (h0 : 0 ≤ i) (h1 : i < n) : ¬ Reach (roundG n g) i i := fun h => by
  have hs : ∀ k x, x ∈ roundG n g k → 0 ≤ k → k < n → 0 ≤ x ∧ x < n ∧ rankG n g k < rankG n g x := fun k x hx hk0 hk => by
    obtain ⟨e1, e2, e3⟩ := roundG_mem hn hx
    rcases roundW_mem hn e3 with ⟨e, _⟩ | ⟨_, _, ex, a1, a2⟩
    · omega
    · refine ⟨a1, a2, ?_⟩
      unfold rankG
      by_cases el : k + 1 = n
      · have : x = 0 := by rw [ex, el]; exact Int.emod_self
        subst this
        split <;> split <;> omega
      · have : x = k + 1 := by rw [ex]; exact Int.emod_eq_of_lt (by omega) (by omega)
        subst this
        split <;> split <;> omega
  have key : ∀ a b, Reach (roundG n g) a b → 0 ≤ a → a < n → 0 ≤ b ∧ b < n ∧ rankG n g a < rankG n g b := fun a b hr => by
    induction hr with
    | one e => intro h0 h1; exact hs _ _ e h0 h1
    | more _ e ih =>
      intro h0 h1
      obtain ⟨b1, b2, b3⟩ := ih h0 h1
      obtain ⟨c1, c2, c3⟩ := hs _ _ e b1 b2
      exact ⟨c1, c2, by omega⟩
  have := key i i h h0 h1
  omega
theorem roundG_mg {n : Nat} (hn : 2 ≤ n) (hn2 : n ≤ 31) (g : Int) : MG (roundG n g) U100 := (roundW_mg hn hn2).gone g
theorem waitL_55 : waitL [5, 5] 5 = [] := waitL_eq (by simp) fun x => by simp
theorem Ns.two {w : World} {e : TypeId} {x y : Int} (h : (Lit.int .i64 x).wf = true) (h' : (Lit.int .i64 y).wf = true) : Ns .i64 (w.alloc (.cells #[.int .i64 x, .int .i64 y] e)) (.slice (some ⟨w.heap.size, 0, none⟩) 2 2) [x, y] := by
  refine ⟨fun z hz => ?_, _, 2, rfl, by simp, by simp [maxLen], by simp, fun _ => ⟨_, rfl, fun i hi => ?_⟩⟩
  · rcases List.mem_cons.1 hz with rfl | hz
    · exact h
    · rw [List.mem_singleton.1 hz]; exact h'
  · have h2 : i = 0 ∨ i = 1 := by simp at hi; omega
    rcases h2 with rfl | rfl <;> simp [go_sem, Addr.add]

set_option maxRecDepth 20000 in
set_option maxHeartbeats 4000000 in
theorem waitRounds_walk {w : World} {a0 a1 : Int} (h0 : I64L a0) (h1 : I64L a1) :
    Calls Try.prog 9 #[.int .i64 a0, .int .i64 a1] w fun e w' => e = .returned (.bool true) ∧ Below w.heap.size w w' := by
  have HF := Lib.hid (waitFirst w)
  have H0 := Lib.hid h0
  have H1 := Lib.hid h1
  obtain ⟨q, hq⟩ : ∃ q : Nat, a0 % 30 = q := ⟨(a0 % 30).toNat, by omega⟩
  have hq30 : q < 30 := by omega
  have hnum := fun W => number a0 30 W (by omega) (by omega) H0.out.1 H0.out.2
  rw [hq] at hnum
  have HNUM := Lib.hid hnum
  clear h0 h1 hq hnum
  go_enter Try.func9, Try.ntmps9
  go_wp2_with fail
  refine HF.out.mono ?_
  clear HF
  rintro e w1 ⟨rfl, hb1⟩
  have HB1 := Lib.hid hb1
  clear hb1
  go_upto_region 4 with fail
  go_cut [0] from 10 (fun s0 wx => ∃ n : Nat, s0 = .int .i64 n ∧ 2 ≤ n ∧ n ≤ 31 ∧ w1 = wx)
  case first =>
    go_wp2_with fail
    refine (HNUM.out _).mono ?_
    rintro e w9 ⟨rfl, rfl⟩
    go_wp2_with fail
    go_meet
    exact ⟨q + 2, congrArg (Value.int .i64) (by omega), by omega, by omega, rfl⟩
  obtain ⟨n, rfl, hn2, hn31, rfl⟩ := hcut
  clear HNUM hq30
  obtain ⟨g, hg⟩ : ∃ g : Nat, a1 % (n : Int) = g := ⟨(a1 % (n : Int)).toNat, by have := Int.emod_nonneg a1 (b := (n : Int)) (by omega); omega⟩
  have hgn : (g : Int) < n := by rw [← hg]; exact Int.emod_lt_of_pos _ (by omega)
  have hnum := fun W => number a1 n W (by omega) (by omega) H1.out.1 H1.out.2
  rw [hg] at hnum
  have HNUM := Lib.hid hnum
  have HT := Lib.hid (TG.new HB1.out)
  clear hg hnum
  go_wp2_with fail
  refine (HNUM.out _).mono ?_
  clear HNUM
  rintro e w9 ⟨rfl, rfl⟩
  go_upto_region 7 with fail
  generalize w1.alloc (.cells #[.map none] 39) = w2 at HT ⊢
  generalize w1.heap.size = X at HT ⊢
  rw [← roundM_zero n] at HT
  go_wp2_with fail
  go_loopw [7] (fun s7 wr => ∃ (i : Nat) (mo : Option Nat) (nn : Nat) (f : Int → Option Value), s7 = .int .i64 i ∧ i ≤ n ∧ nn ≤ i ∧ Hid (TG w wr X mo nn f (roundM n i))) (fun s7 _ => n - (intOf s7).toNat)
  case atStart => exact ⟨0, _, _, _, rfl, by omega, by omega, HT⟩
  case round =>
    obtain ⟨i, mo, nn, f, rfl, hi, hnn, HG⟩ := hrel
    clear HT
    by_cases hin : (i : Int) < n
    · have hmu := (roundM_mg (i := i) hn2 hn31).mu U100_len
      obtain ⟨p, hp⟩ : ∃ p : Nat, ((i : Int) + 1) % (n : Int) = p := ⟨(((i : Int) + 1) % (n : Int)).toNat, by have := Int.emod_nonneg ((i : Int) + 1) (b := (n : Int)) (by omega); omega⟩
      have hpn : (p : Int) < n := by rw [← hp]; exact Int.emod_lt_of_pos _ (by omega)
      have hst := roundM_step hn2 (show i < n by omega)
      rw [hp] at hst
      have HST := Lib.hid hst
      have HMU := Lib.hid hmu
      clear hst hmu
      go_upto_region 10 with fail
      go_cut [30] from 19 to 37 (fun s30 wx => s30 = .bool false ∧ Hid (Below wr.heap.size wr wx))
      case first =>
        by_cases hi0 : i = 0
        · subst hi0
          go_wp2_with fail
          go_meet
          exact ⟨rfl, Lib.hid (Below.refl _ _)⟩
        · have hi1 : (0 : Int) < i := by omega
          have hi1n : 0 < i := by omega
          have hge : (1 : Int) ≤ i := by omega
          have HC := Lib.hid (cycNo HG.out.gr HMU.out (s := (i : Int) - 1) (L_small (by omega) (by omega)) (fun h => by have := roundM_path hn2 (show i < n by omega) h; omega))
          clear hp
          go_wp2_with fail
          refine HC.out.mono ?_
          rintro e wb ⟨rfl, hbb⟩
          have HBB := Lib.hid hbb
          clear hbb
          go_wp2_with fail
          go_meet
          exact ⟨rfl, HBB⟩
      obtain ⟨rfl, HBc⟩ := hcut
      have HG2 := Lib.hid (HG.out.below HBc.out)
      have hone := Ns.one (w := wc) (e := 3) (x := (p : Int)) (wf_of_L (L_small (by omega) (by omega)))
      have hb1 : Below wc.heap.size wc (wc.alloc (.cells #[.int .i64 p] 3)) := (Below.refl _ _).alloc (Nat.le_refl _) _
      have HG3 := Lib.hid (HG2.out.below hb1)
      have hwt := graphWait HG3.out.gr (s := (i : Int)) (L_small (by omega) (by omega)) hone (by simp) (by omega)
      rw [HST.out] at hwt
      have HWT := Lib.hid hwt
      have hi0 : (0 : Int) ≤ i := by omega
      clear hone hb1 hwt HG2 HG HBc
      go_wp2_with fail
      refine HWT.out.mono ?_
      clear HWT hp
      rintro e wd ⟨rfl, mod, nd, fd, hgd, hxd, hnd⟩
      have HGd := Lib.hid (HG3.out.turn hgd hxd)
      clear hgd hxd HG3
      go_wp2_with fail
      go_roundw
      case rel => exact ⟨i + 1, mod, nd, fd, by go_num, by omega, by omega, HGd⟩
      case measure => simp [intOf]; omega
    · obtain rfl : i = n := by omega
      have hone := Ns.one (w := wr) (e := 3) (x := 0) (by decide)
      have hb1 : Below wr.heap.size wr (wr.alloc (.cells #[.int .i64 0] 3)) := (Below.refl _ _).alloc (Nat.le_refl _) _
      have HG3 := Lib.hid (HG.out.below hb1)
      have hwt := graphWait HG3.out.gr (s := 100) (L_small (by omega) (by omega)) hone (by simp) (by omega)
      rw [waitL_one (by omega)] at hwt
      rw [show updM (roundM i i) 100 [0] = roundW i from rfl] at hwt
      have HWT := Lib.hid hwt
      have HMU := Lib.hid ((roundW_mg hn2 hn31).mu U100_len)
      clear hone hb1 hwt HG
      go_wp2_with fail
      refine HWT.out.mono ?_
      clear HWT
      rintro e wd ⟨rfl, mod, nd, fd, hgd, hxd, hnd⟩
      have HGd := Lib.hid (HG3.out.turn hgd hxd)
      clear hgd hxd HG3
      go_wp2_with fail
      go_loopw [8] (fun s8 wx => ∃ j : Nat, s8 = .int .i64 j ∧ j ≤ i ∧ Hid (TG w wx X mod nd fd (roundW i))) (fun s8 _ => i - (intOf s8).toNat)
      case atStart => exact ⟨0, rfl, by omega, HGd⟩
      case round =>
        obtain ⟨j, rfl, hj, HGj⟩ := hrel
        clear HGd
        by_cases hji : (j : Int) < i
        · have HC := Lib.hid (cycYes HGj.out.gr HMU.out (s := (j : Int)) (L_small (by omega) (by omega)) (roundW_yes hn2 hn31 (by omega) hji))
          go_wp2_with fail
          refine HC.out.mono ?_
          clear HC
          rintro e wb ⟨rfl, hbb⟩
          have HGb := Lib.hid (HGj.out.below hbb)
          clear hbb HGj
          go_wp2_with fail
          go_roundw
          case rel => exact ⟨j + 1, by go_num, by omega, HGb⟩
          case measure => simp [intOf]; omega
        · obtain rfl : j = i := by omega
          have HC := Lib.hid (cycNo HGj.out.gr HMU.out (s := 100) (L_small (by omega) (by omega)) (roundW_no hn2 hn31))
          go_wp2_with fail
          refine HC.out.mono ?_
          clear HC
          rintro e wb ⟨rfl, hbb⟩
          have HGb := Lib.hid (HGj.out.below hbb)
          clear hbb HGj
          have hgo := graphGone HGb.out.gr (s := (g : Int)) (L_small (by omega) (by omega)) (fun k => by have := HMU.out.lenM k; have := HMU.out.len; omega) (by omega)
          rw [show (fun k => delI (updM (roundW j) (g : Int) [] k) (g : Int)) = roundG j g from rfl] at hgo
          have HGO := Lib.hid hgo
          have HMU3 := Lib.hid ((roundG_mg hn2 hn31 (g : Int)).mu U100_len)
          clear hgo HMU
          go_wp2_with fail
          refine HGO.out.mono ?_
          clear HGO
          rintro e wd ⟨rfl, fe, hge, hxe⟩
          have HGe := Lib.hid (HGb.out.turn hge hxe)
          clear hge hxe HGb
          go_wp2_with fail
          go_loopw [9] (fun s9 wx => ∃ k : Nat, s9 = .int .i64 k ∧ k ≤ j ∧ Hid (TG w wx X mod nd fe (roundG j g))) (fun s9 _ => j - (intOf s9).toNat)
          case atStart => exact ⟨0, rfl, by omega, HGe⟩
          case round =>
            obtain ⟨k, rfl, hk, HGk⟩ := hrel
            clear HGe
            by_cases hkj : (k : Int) < j
            · have HC := Lib.hid (cycNo HGk.out.gr HMU3.out (s := (k : Int)) (L_small (by omega) (by omega)) (roundG_no hn2 hn31 (by omega) hgn (by omega) hkj))
              go_wp2_with fail
              refine HC.out.mono ?_
              clear HC
              rintro e wb ⟨rfl, hbb⟩
              have HGb := Lib.hid (HGk.out.below hbb)
              clear hbb HGk
              go_wp2_with fail
              go_roundw
              case rel => exact ⟨k + 1, by go_num, by omega, HGb⟩
              case measure => simp [intOf]; omega
            · obtain rfl : k = j := by omega
              have htwo := Ns.two (w := wr) (e := 3) (x := 5) (y := 5) (by decide) (by decide)
              have hb1 : Below wr.heap.size wr (wr.alloc (.cells #[.int .i64 5, .int .i64 5] 3)) := (Below.refl _ _).alloc (Nat.le_refl _) _
              have HG3 := Lib.hid (HGk.out.below hb1)
              have hwt := graphWait HG3.out.gr (s := 5) (L_small (by omega) (by omega)) htwo (by simp) (by omega)
              rw [waitL_55] at hwt
              have HWT := Lib.hid hwt
              have hmg := (roundG_mg hn2 hn31 (g : Int)).clear 5
              have HMU4 := Lib.hid (hmg.mu U100_len)
              clear htwo hb1 hwt HGk hmg HMU3
              go_wp2_with fail
              refine HWT.out.mono ?_
              clear HWT
              rintro e wh ⟨rfl, moh, nh, fh, hgh, hxh, hnh⟩
              have HGh := Lib.hid (HG3.out.turn hgh hxh)
              clear hgh hxh HG3
              have hof := graphOf HGh.out.gr (s := 5) (L_small (by omega) (by omega)) (by rw [updM_same]; simp)
              rw [updM_same] at hof
              have HOF := Lib.hid hof
              clear hof
              go_wp2_with fail
              refine HOF.out.mono ?_
              clear HOF
              rintro e wi ⟨⟨oi, ci, rfl, _⟩, hbi⟩
              have HGi := Lib.hid (HGh.out.below hbi)
              clear hbi HGh
              have HC := Lib.hid (cycNo HGi.out.gr HMU4.out (s := 5) (L_small (by omega) (by omega)) (reach_nil (updM_same _ _ _)))
              go_wp2_with fail
              refine HC.out.mono ?_
              clear HC
              rintro e wj ⟨rfl, hbj⟩
              have HGj := Lib.hid (HGi.out.below hbj)
              clear hbj HGi
              go_wp2_with fail
              go_ret
              exact ⟨rfl, HGj.out.bel⟩
end Go.Proofs.Ytpgelebmhhcodaa
