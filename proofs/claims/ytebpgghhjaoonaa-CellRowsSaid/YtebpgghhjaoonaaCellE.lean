/- The law CellRows walked. -/
import Derived.Test.YtebpgghhjaoonaaCellD
namespace Go.Proofs.Ytebpgghhjaoonaa
open Go.RowKit
set_option linter.unusedVariables false

theorem getTo_congr {l l' : List Int} (at_ : Int) (m : Nat) (hlen : l.length = l'.length) (h : ∀ i : Nat, i < m → 0 ≤ at_ + i → l.getD (at_ + i).toNat 0 = l'.getD (at_ + i).toNat 0) : getTo l at_ m = getTo l' at_ m := by
  induction m with
  | zero => rfl
  | succ m ih =>
    rw [getTo, getTo, ih (fun i hi => h i (by omega)), hlen]
    split
    · rename_i hc; rw [h m (by omega) hc.1]
    · rfl
theorem get_put_other (l : List Int) (at_ b s n : Int) (h0 : 0 ≤ b) (hd : b + s ≤ at_) (hs : 1 ≤ s) (hs' : s ≤ 8) (hin : b + s ≤ l.length) : getL (putL l at_ s n) b s = getL l b s := by
  have e : sz s = s := by unfold sz; omega
  unfold getL
  rw [e]
  refine getTo_congr _ _ (putL_length _ _ _ _) fun i hi hb => ?_
  rw [putL_get _ _ _ _ _ (by omega), if_neg (by omega)]

/-- the first k numbers stand side by side -/
def RowsTo (b : List Int) (s : Int) (l : List Int) (k : Nat) : Prop := b.length = s.toNat * l.length ∧ ∀ j : Nat, j < k → getL b ((j : Int) * s) s = l.getD j 0
theorem RowsTo.step {b : List Int} {s : Int} {l : List Int} {k : Nat} (h : RowsTo b s l k) (hs : 4 ≤ s) (hs' : s ≤ 8) (hk : k < l.length) (x : Int) (hx : l.getD k 0 = x) (hx0 : 0 ≤ x) (hx1 : x ≤ 4294967295) :
    RowsTo (putL b ((k : Int) * s) s x) s l (k + 1) := by
  refine ⟨by rw [putL_length]; exact h.1, fun j hj => ?_⟩
  obtain ⟨n, rfl⟩ := Int.eq_ofNat_of_zero_le (show 0 ≤ s by omega)
  have hlen : b.length = n * l.length := h.1
  have hkn : (k + 1) * n ≤ l.length * n := Nat.mul_le_mul_right _ hk
  have hjn : (j : Int) * n = ((j * n : Nat) : Int) := by simp
  have hkn' : (k : Int) * n = ((k * n : Nat) : Int) := by simp
  rw [Nat.mul_comm n] at hlen
  rw [Nat.add_mul] at hkn
  rw [hjn, hkn']
  by_cases e : j = k
  · subst e
    rw [get_put_small _ _ _ _ (by omega) (by omega) hx0 (by omega) (by omega), hx]
    refine Int.emod_eq_of_lt hx0 ?_
    have : (2 : Int) ^ 32 ≤ 2 ^ (8 * (n : Int).toNat) := by exact_mod_cast Nat.pow_le_pow_right (show 0 < 2 by decide) (show 32 ≤ 8 * (n : Int).toNat by omega)
    omega
  · have hj2 : (j + 1) * n ≤ k * n := Nat.mul_le_mul_right _ (by omega)
    rw [Nat.add_mul] at hj2
    rw [get_put_other _ _ _ _ _ (by omega) (by omega) (by omega) (by omega) (by omega), ← hjn]
    exact h.2 j (by omega)

theorem cellRows_walk (v : Value) (l : List Int) (size : Int) (w : World) (hv : Ns .u32 w v l) (h3 : -9223372036854775808 ≤ size) (h4 : size ≤ 9223372036854775807) :
    Calls Try.prog 4 #[v, .int .i64 size] w fun e w' => e = .returned (.bool true) ∧ Below w.heap.size w w' := by
  have hv' := hv
  obtain ⟨hl1, o, c, rfl, hlc, hcm, hon, hcell⟩ := hv
  unfold maxLen at hcm
  go_enter Try.func4, Try.ntmps4
  go_wp2_with fail
  refine (first1 w).mono ?_
  rintro e w1 ⟨rfl, hb1⟩
  by_cases hlen : 20 < l.length
  · go_wp2_with fail
    go_ret
    exact ⟨rfl, hb1⟩
  · have g2 : l.length ≤ 20 := by omega
    clear hlen
    go_wp2_with fail
    refine (number size 5 w1 (by omega) (by omega) h3 h4).mono ?_
    rintro e w2 ⟨rfl, rfl⟩
    have hs1 := Int.emod_nonneg size (show (5 : Int) ≠ 0 by omega)
    have hs2 := Int.emod_lt_of_pos size (show (0 : Int) < 5 by omega)
    generalize size % 5 = s0 at hs1 hs2
    obtain ⟨s, rfl⟩ : ∃ s, s0 = s - 4 := ⟨s0 + 4, by omega⟩
    have ha : 4 ≤ s := by omega
    have hb : s ≤ 8 := by omega
    have hp1 : s * (l.length : Int) ≤ 8 * 20 := Int.mul_le_mul hb (by omega) (by omega) (by omega)
    have hp0 : 0 ≤ s * (l.length : Int) := Int.mul_nonneg (by omega) (by omega)
    obtain ⟨cur, hmk, hob⟩ := byteT.make w1 w1.heap.size .i64 .i64 (s * l.length) (s * l.length) hp0 (Int.le_refl _) (by omega) (Nat.le_refl _)
    go_wp2_with fail
    have hb2 : Below w.heap.size w (w1.alloc (.cells cur 5)) := hb1.alloc hb1.size _
    have hr0 : RowsTo (List.replicate (s * (l.length : Int)).toNat 0) s l 0 := ⟨by
      rw [List.length_replicate]
      obtain ⟨n, rfl⟩ := Int.eq_ofNat_of_zero_le (show 0 ≤ s by omega)
      rw [← Int.natCast_mul, Int.toNat_natCast, Int.toNat_natCast], fun j hj => by omega⟩
    have hob' := hob.mono hb1.size
    go_loopw [6, 7] (fun b i wr => ∃ k : Nat, i = .int .i64 k ∧ k ≤ l.length ∧ Below w.heap.size w wr ∧ ∃ bs, RowsTo bs s l k ∧ Ob 5 w.heap.size wr b bs) (fun _ i _ => l.length - (intOf i).toNat)
    case atStart => exact ⟨0, rfl, by omega, hb2, _, hr0, hob'⟩
    case round =>
      obtain ⟨k, rfl, hk, hbr, bs, hrows, hobr⟩ := hrel
      by_cases hlt : k < l.length
      · obtain ⟨a, x, rfl, g0, hx, hx1⟩ := Ns.at_ hl1 hcell hlt
        have hx2 := wf_u32 hx1
        have g : wr.cell? (a.add k) = some (.int .u32 x) := by rw [hbr.cell (Below.lt g0)]; exact g0
        clear g0 hcell
        have hq1 : (k : Int) * s ≤ 20 * 8 := Int.mul_le_mul (by omega) hb (by omega) (by omega)
        have hq0 : 0 ≤ (k : Int) * s := Int.mul_nonneg (by omega) (by omega)
        have hbl : bs.length ≤ 160 := by
          rw [hrows.1]
          obtain ⟨n, rfl⟩ := Int.eq_ofNat_of_zero_le (show 0 ≤ s by omega)
          rw [← Int.natCast_mul] at hp1
          simp; omega
        have hstep := hrows.step ha hb hlt x hx.out hx2.1 hx2.2
        go_wp2_with fail
        refine (put _ bs (k * s) s x _ hobr.bs (by omega) (by omega) (by omega) (by omega) (by omega) (by omega) (by omega)).mono ?_
        rintro e w3 ⟨b', rfl, hb3, hob3⟩
        go_wp2_with fail
        go_roundw
        case rel => exact ⟨k + 1, by go_num, by omega, hbr.trans (hb3.mono hbr.size), _, hstep, hob3.mono hbr.size⟩
        case measure => simp [intOf]; omega
      · obtain rfl : k = l.length := by omega
        clear hlt hk
        have hbl : bs.length ≤ 160 := by
          rw [hrows.1]
          obtain ⟨n, rfl⟩ := Int.eq_ofNat_of_zero_le (show 0 ≤ s by omega)
          rw [← Int.natCast_mul] at hp1
          simp; omega
        have hbsr := hobr.bs
        have hzero := fun w5 (hq : Qw wr w5) => zero u6 bs w5 (hbsr.below (hq.below _))
        go_wp2_with fail
        obtain ⟨w4, rfl⟩ : ∃ w4 : World, w4 = wr := ⟨_, rfl⟩
        go_loopw [8] (fun i wq => ∃ k : Nat, i = .int .i64 k ∧ k ≤ l.length ∧ Qw w4 wq) (fun i _ => l.length - (intOf i).toNat)
        case atStart => exact ⟨0, rfl, by omega, Qw.refl _⟩
        case round =>
          obtain ⟨k, rfl, hk, hq⟩ := hrel
          by_cases hlt : k < l.length
          · obtain ⟨a, x, rfl, g0, hx, hx1⟩ := Ns.at_ hl1 hcell hlt
            have g : wr.cell? (a.add k) = some (.int .u32 x) := by rw [hq.cell, hbr.cell (Below.lt g0)]; exact g0
            clear g0 hcell
            have hq1 : (k : Int) * s ≤ 20 * 8 := Int.mul_le_mul (by omega) hb (by omega) (by omega)
            have hq0 : 0 ≤ (k : Int) * s := Int.mul_nonneg (by omega) (by omega)
            have hget := fun m' => get u6 bs (k * s) s (wr.drewN m') ((hbsr.below (hq.below _)).below (bdrew _ _ _)) (by omega) (by omega) (by omega) (by omega) (by omega)
            rw [hrows.2 k hlt, hx.out] at hget
            have hx2 := wf_u32 hx1
            go_wp2_with fail
            have hwr : IntKind.i64.wrap ((k : Int) * s) = k * s := IntWalk.i64_in _ (by omega)
            go_quiet ((go_at_call 14; exact quiet_eq (hget _)))
            go_wp2_with fail
            go_roundw
            case rel => exact ⟨k + 1, by go_num, by omega, hq.drew _⟩
            case measure => simp [intOf]; omega
          · by_cases h0 : 0 < l.length
            · go_wp2_with fail
              go_ret
              exact ⟨rfl, hbr.trans (hq.below _)⟩
            · have hbs : bs = [] := List.eq_nil_of_length_eq_zero (by rw [hrows.1, show l.length = 0 from by omega, Nat.mul_zero])
              have e1 : allZ bs = true := by rw [hbs]; rfl
              go_wp2_with fail
              refine (hzero _ hq).mono ?_
              rintro e w5 ⟨rfl, rfl⟩
              rw [e1]
              go_wp2_with fail
              go_ret
              exact ⟨rfl, hbr.trans (hq.below _)⟩
end Go.Proofs.Ytebpgghhjaoonaa
