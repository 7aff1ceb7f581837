/- Contract: phoenixref.SameEntries. -/
import Derived.Test.YtpgelebmhhcodaaMdN
import Derived.Deep.RegionHeld3
import Derived.BigQuiet
namespace Go.Proofs.Ytpgelebmhhcodaa
open Go.RowKit
set_option linter.unusedVariables false

def sameEB (p q : Int × Int) : Bool := decide (p = q)
theorem sameEntry (p q : Int × Int) (w : World) :
    Calls Try.prog 88 #[.agg #[.int .i64 p.1, .int .i64 p.2], .agg #[.int .i64 q.1, .int .i64 q.2]] w fun e w' => e = .returned (.bool (sameEB p q)) ∧ Below w.heap.size w w' := by
  obtain ⟨a, b⟩ := p
  obtain ⟨c, d⟩ := q
  by_cases h1 : a = c
  · have e1 : (a == c) = true := by simp [h1]
    by_cases h2 : b = d
    · have e2 : (b == d) = true := by simp [h2]
      have hs : sameEB (a, b) (c, d) = true := by unfold sameEB; simp [h1, h2]
      rw [hs]
      clear hs h1 h2
      dsimp only
      go_enter Try.func88, Try.ntmps88
      go_wp2_with fail
      go_ret
      exact ⟨rfl, ((Below.refl _ _).alloc (Nat.le_refl _) _).alloc (by simp) _⟩
    · have e2 : (b == d) = false := by simp [h2]
      have hs : sameEB (a, b) (c, d) = false := by unfold sameEB; simp [h2]
      rw [hs]
      clear hs h1 h2
      dsimp only
      go_enter Try.func88, Try.ntmps88
      go_wp2_with fail
      go_ret
      exact ⟨rfl, ((Below.refl _ _).alloc (Nat.le_refl _) _).alloc (by simp) _⟩
  · have e1 : (a == c) = false := by simp [h1]
    have hs : sameEB (a, b) (c, d) = false := by unfold sameEB; simp [h1]
    rw [hs]
    clear hs h1
    dsimp only
    go_enter Try.func88, Try.ntmps88
    go_wp2_with fail
    go_ret
    exact ⟨rfl, ((Below.refl _ _).alloc (Nat.le_refl _) _).alloc (by simp) _⟩
theorem sameE_step {L M : List (Int × Int)} {k : Nat} {r s : Int × Int} (hr : L[k]? = some r) (hs : M[k]? = some s) (h : L.take k = M.take k) : (sameEB r s = true → L.take (k + 1) = M.take (k + 1)) ∧ (sameEB r s = false → L ≠ M) := by
  refine ⟨fun e => ?_, fun e he => ?_⟩
  · rw [List.take_add_one, List.take_add_one, hr, hs, h, of_decide_eq_true e]
  · subst he
    rw [hr] at hs
    have : r = s := by simpa using hs
    exact absurd this (of_decide_eq_false e)
set_option maxRecDepth 20000 in
set_option maxHeartbeats 2000000 in
theorem sameEntries {b1 b2 : Nat} {v u : Value} {L M : List (Int × Int)} {w : World} (hv : En b1 w v L) (hu : En b2 w u M) :
    Calls Try.prog 52 #[v, u] w fun e w' => e = .returned (.bool (decide (L = M))) ∧ Below w.heap.size w w' := by
  have hv0 := hv
  have hu0 := hu
  obtain ⟨o1, c1, rfl, hlc1, hcm1, _⟩ := hv.form
  obtain ⟨o2, c2, rfl, hlc2, hcm2, _⟩ := hu.form
  unfold maxLen at hcm1 hcm2
  by_cases hll : L.length = M.length
  · have HC1 := Lib.hid (fun k (hk : k < L.length) => hv0.at_ hk)
    have HC2 := Lib.hid (fun k (hk : k < M.length) => hu0.at_ hk)
    rw [← hll] at hlc2 ⊢
    obtain ⟨n, hn⟩ : ∃ n, n = L.length := ⟨_, rfl⟩
    rw [← hn] at hlc1 hlc2 hll ⊢
    have HN := Lib.hid hn
    have HM := Lib.hid hll
    clear hn hll hv hu hv0 hu0
    go_enter Try.func52, Try.ntmps52
    go_wp2_with fail
    go_loopw [5] (fun s wr => ∃ k : Nat, s = .int .i64 k ∧ (k : Int) ≤ n ∧ Hid (L.take k = M.take k) ∧ Hid (Below w.heap.size w wr)) (fun s _ => n - (intOf s).toNat)
    case atStart => exact ⟨0, rfl, by omega, Lib.hid rfl, Lib.hid (Below.refl _ _)⟩
    case round =>
      obtain ⟨k, rfl, hk, HT, HBR⟩ := hrel
      by_cases hkn : (k : Int) < n
      · obtain ⟨g1, r, rfl, hr, _, _, p0, p1⟩ := HC1.out k (by have := HN.out; omega)
        obtain ⟨g2, s, rfl, hs, _, _, q0, q1⟩ := HC2.out k (by have := HM.out; omega)
        have HST := Lib.hid (sameE_step hr hs HT.out)
        have HSM := Lib.hid (fun W => sameEntry r s W)
        generalize sameEB r s = bb at HST HSM
        obtain ⟨a0, a1⟩ := r
        obtain ⟨d0, d1⟩ := s
        dsimp only at HSM p0 p1 q0 q1
        have K : Hid (∀ W, Below w.heap.size w W → W.cell? ⟨g1, k * 2, none⟩ = some (.int .i64 a0) ∧ W.cell? ⟨g1, k * 2 + 1, none⟩ = some (.int .i64 a1) ∧ W.cell? ⟨g2, k * 2, none⟩ = some (.int .i64 d0) ∧ W.cell? ⟨g2, k * 2 + 1, none⟩ = some (.int .i64 d1)) := Lib.hid (fun W hb => by
          have c := fun {a : Addr} {x : Value} (h : w.cell? a = some x) => (hb.cell (Below.lt h)).trans h
          exact ⟨c p0, c p1, c q0, c q1⟩)
        have HDR : Hid (Below w.heap.size w wr.drew) := Lib.hid (HBR.out.trans (Below.refl _ _).drew)
        clear p0 p1 q0 q1 hr hs HT
        go_wp2_with fail
        go_region_held3 (fun W => W.cell? ⟨g1, k * 2, none⟩ = some (.int .i64 a0) ∧ W.cell? ⟨g1, k * 2 + 1, none⟩ = some (.int .i64 a1) ∧ W.cell? ⟨g2, k * 2, none⟩ = some (.int .i64 d0) ∧ W.cell? ⟨g2, k * 2 + 1, none⟩ = some (.int .i64 d1))
          (first | exact K.out _ HDR.out | exact K.out _ (HDR.out.trans (hb2.mono HDR.out.size)))
          ((first
            | (go_at_call 88; with_reducible refine (HSM.out _).mono ?_; rintro e w2 ⟨rfl, hb2⟩)))
        have HB2 := Lib.hid (HDR.out.trans (hb2.mono HDR.out.size))
        clear hb2 K HSM HDR
        cases bb
        · have HNE := Lib.hid (HST.out.2 rfl)
          go_wp2_with fail
          go_ret
          exact ⟨by rw [decide_eq_false HNE.out]; rfl, HB2.out⟩
        · have HTT := Lib.hid (HST.out.1 rfl)
          go_wp2_with fail
          go_roundw
          case rel => exact ⟨k + 1, by go_num, by omega, HTT, HB2⟩
          case measure => simp [intOf]; omega
      · have hfin : L = M := by
          have h := HT.out
          rwa [List.take_of_length_le (by have := HN.out; omega), List.take_of_length_le (by have := HM.out; omega)] at h
        have HFIN := Lib.hid hfin
        clear hfin
        go_wp2_with fail
        go_ret
        exact ⟨by rw [decide_eq_true HFIN.out]; rfl, HBR.out⟩
  · have hne : L ≠ M := fun e => hll (by rw [e])
    have HNE := Lib.hid hne
    have hll' : ¬ ((L.length : Int) = (M.length : Int)) := by omega
    clear hv hu hv0 hu0 hne
    generalize L.length = n1 at *
    generalize M.length = n2 at *
    go_enter Try.func52, Try.ntmps52
    go_wp2_with fail
    go_ret
    exact ⟨by rw [decide_eq_false HNE.out]; rfl, Below.refl _ _⟩
end Go.Proofs.Ytpgelebmhhcodaa
