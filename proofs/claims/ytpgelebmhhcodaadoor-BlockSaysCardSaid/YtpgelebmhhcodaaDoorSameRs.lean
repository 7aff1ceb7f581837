/- Contract: phoenixref.SameRecs. -/
import Derived.Test.YtpgelebmhhcodaaDoorRecS
import Derived.Test.YtpgelebmhhcodaaDoorGs
import Derived.Deep.RegionHeld3
namespace Go.Proofs.YtpgelebmhhcodaaDoor
open Go.RowKit
set_option linter.unusedVariables false

theorem sameTo_step {L M : List RecD} {k : Nat} {r s : RecD} (hr : L[k]? = some r) (hs : M[k]? = some s) (h : L.take k = M.take k) : (sameRB r s = true → L.take (k + 1) = M.take (k + 1)) ∧ (sameRB r s = false → L ≠ M) := by
  refine ⟨fun e => ?_, fun e he => ?_⟩
  · rw [List.take_add_one, List.take_add_one, hr, hs, h, (sameRB_iff r s).1 e]
  · subst he
    rw [hr] at hs
    have : r = s := by simpa using hs
    rw [(sameRB_iff r s).2 this] at e; cases e

set_option maxRecDepth 20000 in
set_option maxHeartbeats 2000000 in
theorem sameRecs (v u : Value) (L M : List RecD) (w : World) (hv : Gs w v L) (hu : Gs w u M) :
    Calls Tryd.prog 15 #[v, u] w fun e w' => e = .returned (.bool (decide (L = M))) ∧ Below w.heap.size w w' := by
  obtain ⟨hW1, o1, c1, rfl, hlc1, hcm1, hon1, hcell1⟩ := hv
  obtain ⟨hW2, o2, c2, rfl, hlc2, hcm2, hon2, hcell2⟩ := hu
  unfold maxLen at hcm1 hcm2
  by_cases hll : L.length = M.length
  · have HC1 := Lib.hid (fun k (hk : k < L.length) => Gs.at_ hW1 hcell1 hk)
    have HC2 := Lib.hid (fun k (hk : k < M.length) => Gs.at_ hW2 hcell2 hk)
    rw [← hll] at hlc2 ⊢
    obtain ⟨n, hn⟩ : ∃ n, n = L.length := ⟨_, rfl⟩
    rw [← hn] at hlc1 hlc2 hll ⊢
    have HN := Lib.hid hn
    have HM := Lib.hid hll
    clear hn hll hcell1 hcell2 hon1 hon2 hW1 hW2
    go_enter Tryd.func15, Tryd.ntmps15
    go_wp2_with fail
    go_loopw [5] (fun s wr => ∃ k : Nat, s = .int .i64 k ∧ (k : Int) ≤ n ∧ Hid (L.take k = M.take k) ∧ Hid (Below w.heap.size w wr)) (fun s _ => n - (intOf s).toNat)
    case atStart => exact ⟨0, rfl, by omega, Lib.hid rfl, Lib.hid (Below.refl _ _)⟩
    case round =>
      obtain ⟨k, rfl, hk, HT, HBR⟩ := hrel
      by_cases hkn : (k : Int) < n
      · obtain ⟨g1, off1, r, rfl, hr, _, p⟩ := HC1.out k (by have := HN.out; omega)
        obtain ⟨g2, off2, s, rfl, hs, _, q⟩ := HC2.out k (by have := HM.out; omega)
        have HST := Lib.hid (sameTo_step hr hs HT.out)
        have HSM := Lib.hid (fun W => sameRec r s W)
        generalize sameRB r s = bb at HST HSM
        obtain ⟨a0, a1, a2, a3, a4, a5, a6, a7, a8, a9⟩ := r
        obtain ⟨b0, b1, b2, b3, b4, b5, b6, b7, b8, b9⟩ := s
        dsimp only [recV] at HSM
        have K : Hid (∀ W, Below w.heap.size w W → (W.cell? ⟨g1, off1 + k * 10, none⟩ = some (.int .i64 a0) ∧ W.cell? ⟨g1, off1 + k * 10 + 1, none⟩ = some (.int .i64 a1) ∧ W.cell? ⟨g1, off1 + k * 10 + 2, none⟩ = some (.int .i64 a2) ∧ W.cell? ⟨g1, off1 + k * 10 + 3, none⟩ = some (.int .i64 a3) ∧ W.cell? ⟨g1, off1 + k * 10 + 4, none⟩ = some (.int .i64 a4) ∧ W.cell? ⟨g1, off1 + k * 10 + 5, none⟩ = some (.int .i64 a5) ∧ W.cell? ⟨g1, off1 + k * 10 + 6, none⟩ = some (.bool a6) ∧ W.cell? ⟨g1, off1 + k * 10 + 7, none⟩ = some (.bool a7) ∧ W.cell? ⟨g1, off1 + k * 10 + 8, none⟩ = some (.int .i64 a8) ∧ W.cell? ⟨g1, off1 + k * 10 + 9, none⟩ = some (.int .i64 a9)) ∧ (W.cell? ⟨g2, off2 + k * 10, none⟩ = some (.int .i64 b0) ∧ W.cell? ⟨g2, off2 + k * 10 + 1, none⟩ = some (.int .i64 b1) ∧ W.cell? ⟨g2, off2 + k * 10 + 2, none⟩ = some (.int .i64 b2) ∧ W.cell? ⟨g2, off2 + k * 10 + 3, none⟩ = some (.int .i64 b3) ∧ W.cell? ⟨g2, off2 + k * 10 + 4, none⟩ = some (.int .i64 b4) ∧ W.cell? ⟨g2, off2 + k * 10 + 5, none⟩ = some (.int .i64 b5) ∧ W.cell? ⟨g2, off2 + k * 10 + 6, none⟩ = some (.bool b6) ∧ W.cell? ⟨g2, off2 + k * 10 + 7, none⟩ = some (.bool b7) ∧ W.cell? ⟨g2, off2 + k * 10 + 8, none⟩ = some (.int .i64 b8) ∧ W.cell? ⟨g2, off2 + k * 10 + 9, none⟩ = some (.int .i64 b9))) := Lib.hid (fun W hb => by
          obtain ⟨p0, p1, p2, p3, p4, p5, p6, p7, p8, p9⟩ := p
          obtain ⟨q0, q1, q2, q3, q4, q5, q6, q7, q8, q9⟩ := q
          have c := fun {a : Addr} {x : Value} (h : w.cell? a = some x) => (hb.cell (Below.lt h)).trans h
          exact ⟨⟨c p0, c p1, c p2, c p3, c p4, c p5, c p6, c p7, c p8, c p9⟩, ⟨c q0, c q1, c q2, c q3, c q4, c q5, c q6, c q7, c q8, c q9⟩⟩)
        have HDR : Hid (Below w.heap.size w wr.drew) := Lib.hid (HBR.out.trans (Below.refl _ _).drew)
        clear p q hr hs HT
        go_wp2_with fail
        go_region_held3 (fun W => (W.cell? ⟨g1, off1 + k * 10, none⟩ = some (.int .i64 a0) ∧ W.cell? ⟨g1, off1 + k * 10 + 1, none⟩ = some (.int .i64 a1) ∧ W.cell? ⟨g1, off1 + k * 10 + 2, none⟩ = some (.int .i64 a2) ∧ W.cell? ⟨g1, off1 + k * 10 + 3, none⟩ = some (.int .i64 a3) ∧ W.cell? ⟨g1, off1 + k * 10 + 4, none⟩ = some (.int .i64 a4) ∧ W.cell? ⟨g1, off1 + k * 10 + 5, none⟩ = some (.int .i64 a5) ∧ W.cell? ⟨g1, off1 + k * 10 + 6, none⟩ = some (.bool a6) ∧ W.cell? ⟨g1, off1 + k * 10 + 7, none⟩ = some (.bool a7) ∧ W.cell? ⟨g1, off1 + k * 10 + 8, none⟩ = some (.int .i64 a8) ∧ W.cell? ⟨g1, off1 + k * 10 + 9, none⟩ = some (.int .i64 a9)) ∧ (W.cell? ⟨g2, off2 + k * 10, none⟩ = some (.int .i64 b0) ∧ W.cell? ⟨g2, off2 + k * 10 + 1, none⟩ = some (.int .i64 b1) ∧ W.cell? ⟨g2, off2 + k * 10 + 2, none⟩ = some (.int .i64 b2) ∧ W.cell? ⟨g2, off2 + k * 10 + 3, none⟩ = some (.int .i64 b3) ∧ W.cell? ⟨g2, off2 + k * 10 + 4, none⟩ = some (.int .i64 b4) ∧ W.cell? ⟨g2, off2 + k * 10 + 5, none⟩ = some (.int .i64 b5) ∧ W.cell? ⟨g2, off2 + k * 10 + 6, none⟩ = some (.bool b6) ∧ W.cell? ⟨g2, off2 + k * 10 + 7, none⟩ = some (.bool b7) ∧ W.cell? ⟨g2, off2 + k * 10 + 8, none⟩ = some (.int .i64 b8) ∧ W.cell? ⟨g2, off2 + k * 10 + 9, none⟩ = some (.int .i64 b9)))
          (first | exact K.out _ HDR.out | exact K.out _ (HDR.out.trans (hb2.mono HDR.out.size)))
          ((first
            | (go_at_call 35; with_reducible refine (HSM.out _).mono ?_; rintro e w2 ⟨rfl, hb2⟩)))
        have HB2 := Lib.hid (HDR.out.trans (hb2.mono HDR.out.size))
        clear hb2 K HSM HDR
        cases bb
        · have HNE := Lib.hid (HST.out.2 rfl)
          go_wp2_with fail
          go_ret
          exact ⟨by rw [decide_eq_false HNE.out]; rfl, HB2.out⟩
        · have HTT := Lib.hid (HST.out.1 rfl)
          go_wp2_with fail
          go_roundw
          case rel => exact ⟨k + 1, by go_num, by omega, HTT, HB2⟩
          case measure => simp [intOf]; omega
      · have hfin : L = M := by
          have h := HT.out
          rwa [List.take_of_length_le (by have := HN.out; omega), List.take_of_length_le (by have := HM.out; omega)] at h
        have HFIN := Lib.hid hfin
        clear hfin
        go_wp2_with fail
        go_ret
        exact ⟨by rw [decide_eq_true HFIN.out]; rfl, HBR.out⟩
  · have hne : L ≠ M := fun e => hll (by rw [e])
    have HNE := Lib.hid hne
    have hll' : ¬ ((L.length : Int) = (M.length : Int)) := by omega
    clear hcell1 hcell2 hon1 hon2 hW1 hW2 hne
    generalize L.length = n1 at *
    generalize M.length = n2 at *
    go_enter Tryd.func15, Tryd.ntmps15
    go_wp2_with fail
    go_ret
    exact ⟨by rw [decide_eq_false HNE.out]; rfl, Below.refl _ _⟩
end Go.Proofs.YtpgelebmhhcodaaDoor
