/- Contract: rec.Read. -/
import Derived.Test.YtpgelebmhhcodaaDoorRecB
import Derived.Test.YtpgelebmhhcodaaDoorRecRow
import Derived.Test.YtpgelebmhhcodaaDoorByteT
import Derived.Test.YtpgelebmhhcodaaDoorErr
import Derived.Test.YtpgelebmhhcodaaDoorRecT
import Derived.Deep.Cut
import Derived.Deep.RegionHeld3
import Derived.Outline
namespace Go.Proofs.YtpgelebmhhcodaaDoor
open Go.RowKit
set_option linter.unusedVariables false

theorem getL_small {l : List Int} (hl : IsB l) (at_ size : Int) (hs : size = 1 ∨ size = 2 ∨ size = 4) : 0 ≤ getL l at_ size ∧ getL l at_ size < 4294967296 := by
  unfold getL
  rcases hs with rfl | rfl | rfl
  · have := getTo_bounds hl at_ 1
    have e : (sz 1).toNat = 1 := by decide
    rw [e]; omega
  · have := getTo_bounds hl at_ 2
    have e : (sz 2).toNat = 2 := by decide
    rw [e]; omega
  · have := getTo_bounds hl at_ 4
    have e : (sz 4).toNat = 4 := by decide
    rw [e]; omega
theorem getL_eight {l : List Int} (hl : IsB l) (at_ : Int) : 0 ≤ getL l at_ 8 ∧ getL l at_ 8 < 18446744073709551616 := getTo_bounds hl at_ 8

theorem bits_and_u8_nat (a b : Nat) (ha : a < 256) (hb : b < 256) : bits .and .u8 (a : Int) (b : Int) = ((a &&& b : Nat) : Int) := by
  have hx : a &&& b < 2 ^ 8 := Nat.and_lt_two_pow _ (by omega)
  have h1 : (BitVec.ofInt 8 (a : Int)).toNat = a := by
    rw [BitVec.ofInt_natCast, BitVec.toNat_ofNat]; exact Nat.mod_eq_of_lt (by omega)
  have h2 : (BitVec.ofInt 8 (b : Int)).toNat = b := by
    rw [BitVec.ofInt_natCast, BitVec.toNat_ofNat]; exact Nat.mod_eq_of_lt (by omega)
  show IntKind.u8.wrap ((BitVec.ofInt 8 (a : Int) &&& BitVec.ofInt 8 (b : Int)).toNat : Int) = _
  rw [BitVec.toNat_and, h1, h2, IntKind.wrap_u8]
  omega
theorem and_one (x : Int) (h0 : 0 ≤ x) (h1 : x ≤ 255) : bits .and .u8 x 1 = x % 2 := by
  obtain ⟨a, rfl⟩ := Int.eq_ofNat_of_zero_le h0
  rw [show (1 : Int) = ((1 : Nat) : Int) from rfl, bits_and_u8_nat _ _ (by omega) (by omega), Nat.and_one_is_mod]
  omega
theorem and_two (x : Int) (h0 : 0 ≤ x) (h1 : x ≤ 255) : bits .and .u8 x 2 = x / 2 % 2 * 2 := by
  obtain ⟨a, rfl⟩ := Int.eq_ofNat_of_zero_le h0
  rw [show (2 : Int) = ((2 : Nat) : Int) from rfl, bits_and_u8_nat _ _ (by omega) (by omega)]
  have ha : a < 256 := by omega
  have h : ∀ a : Fin 256, a.val &&& 2 = a.val / 2 % 2 * 2 := by decide +kernel
  have := h ⟨a, ha⟩
  simp only at this
  rw [this]
  omega

/-- a number of a record's bytes -/
theorem recNum (a : Addr) (v : Value) (b : List Int) (w : World) (hc : w.cell? a = some v) (hv : Bs w v b) (hl : b.length ≤ 1000000000000) (at_ size : Int) (hs : size = 1 ∨ size = 2 ∨ size = 4) (h0 : 0 ≤ at_) (h1 : at_ ≤ 40) :
    Calls Tryd.prog 45 #[.int .i64 at_, .int .i64 size, .pointer (some a)] w fun e w' => e = .returned (.int .i64 (getL b at_ size)) ∧ w = w' := by
  have hg := getL_small hv.1 at_ size hs
  have hget := get v b at_ size w hv hl (by omega) (by omega) (by omega) (by omega)
  have HG := Lib.hid hget
  clear hget hs
  generalize getL b at_ size = x at HG hg
  obtain ⟨_, o, c, rfl, _, _, _, _⟩ := hv
  go_enter Tryd.func45, Tryd.ntmps45
  go_wp2_with fail
  refine HG.out.mono ?_
  rintro e w1 ⟨rfl, rfl⟩
  go_wp2_with fail
  go_ret
  exact ⟨rfl, rfl⟩

theorem recReadShort (v : Value) (b : List Int) (w : World) (hv : Bs w v b) (eS : Value) (hE : w.cell? ⟨1, 0, none⟩ = some eS) (hl : b.length ≠ 40) :
    Calls Tryd.prog 30 #[v] w fun e w' => e = .returned (.tuple #[recV rec00, eS]) ∧ Below w.heap.size w w' := by
  have hb : ∀ o1 o2, Below w.heap.size w ((w.alloc o1).alloc o2) := fun o1 o2 => ((Below.refl _ _).alloc (Nat.le_refl _) o1).alloc (by simp) o2
  have hlt := Below.lt hE
  have h1 : ((b.length : Int) != 40) = true := by simp; omega
  obtain ⟨hB, o, cap, rfl, hc1, hc2, hc3, hc4⟩ := hv
  unfold maxLen at hc2
  clear hc4 hc3 hB
  have HB := Lib.hid hb
  clear hb
  generalize b.length = n at *
  have ce : ((w.alloc (.cells #[.slice o n cap] 25)).alloc (.cells #[.int .i64 0, .int .i64 0, .int .i64 0, .int .i64 0, .int .i64 0, .int .i64 0, .bool false, .bool false, .int .i64 0, .int .i64 0] 24)).cell? ⟨1, 0, none⟩ = some eS := by rw [(HB.out _ _).cell hlt]; exact hE
  go_enter Tryd.func30, Tryd.ntmps30
  go_wp2_with fail
  go_region
  go_wp2_with fail
  exact bodyPost_ret (v := .tuple #[recV rec00, eS]) (by simp [results, Tryd.results30, go_sem, recV, rec00]) rfl ⟨rfl, (HB.out _ _).drew⟩

theorem recOf_eq (b : List Int) (hB : IsB b) : recOf b = ⟨getL b 0 1, getL b 2 2, getL b 4 2, getL b 8 4, getL b 12 4, getL b 16 4, (bits .and .u8 (b.getD 1 0) 1 != 0), (bits .and .u8 (b.getD 1 0) 2 != 0), i64 (getL b 24 8), i64 (getL b 32 8)⟩ := by
  have hx := hB.get 1
  rw [and_one _ hx.1 hx.2, and_two _ hx.1 hx.2]
  unfold recOf
  generalize b.getD 1 0 = x at *
  have e1 : (x % 2 == 1) = (x % 2 != 0) := by
    rcases Int.emod_two_eq x with h | h <;> rw [h] <;> rfl
  have e2 : (x / 2 % 2 == 1) = (x / 2 % 2 * 2 != 0) := by
    rcases Int.emod_two_eq (x / 2) with h | h <;> rw [h] <;> rfl
  rw [e1, e2]

set_option maxRecDepth 20000 in
set_option maxHeartbeats 4000000 in
theorem recReadLong {ea : Nat → Addr} (v : Value) (b : List Int) (w : World) (hv : Bs w v b) (hs : E3 ea w) (hl : b.length = 40) :
    Calls Tryd.prog 30 #[v] w fun e w' => e = .returned (.tuple #[recV (readR b).1, eC ea (readR b).2]) ∧ Below w.heap.size w w' := by
  have hv' := hv
  obtain ⟨hB, o, cap, rfl, hc1, hc2, hc3, hc4⟩ := hv
  unfold maxLen at hc2
  obtain ⟨a, rfl, hcell⟩ := hc4 (ne_nil_of_lt (k := 0) (by omega))
  have hc1b := hcell 1 (by omega)
  rw [show a.add 1 = ⟨a.block, a.off + 1, none⟩ by rfl] at hc1b
  have hread : readR b = if okR (recOf b) && sameB (recB (recOf b)) b then (recOf b, 0) else (rec00, 104) := by unfold readR; rw [if_neg (by omega)]
  have HL := Lib.hid hl
  clear hc4 hc3 hcell
  rw [hl] at hc1 hv' ⊢
  have HV := Lib.hid hv'
  have HS := Lib.hid hs
  have HR := Lib.hid hread
  have hmf : ∀ (fn : Fn) (first cap : Array Value) (w : World), (Instr.makeFunc fn first cap).run Tryd.prog w = .ok (.func fn first cap) w := fun _ _ _ _ => rfl
  have hof := recOf_eq b hB
  have hq8 := getL_eight hB 24
  have hq9 := getL_eight hB 32
  clear hv' hs hread hl hB
  generalize b.getD 1 0 = x1 at hc1b hof
  obtain ⟨n8, hn8⟩ : ∃ n, n = i64 (getL b 24 8) := ⟨_, rfl⟩
  obtain ⟨n9, hn9⟩ : ∃ n, n = i64 (getL b 32 8) := ⟨_, rfl⟩
  have hw8 : IntKind.i64.wrap (getL b 24 8) = n8 := by rw [hn8, IntKind.wrap_i64]; unfold i64; split <;> omega
  have hw9 : IntKind.i64.wrap (getL b 32 8) = n9 := by rw [hn9, IntKind.wrap_i64]; unfold i64; split <;> omega
  have hx8 : wrap64 (getL b 24 8) = n8 := by rw [hn8]; unfold wrap64 i64; split <;> omega
  have hx9 : wrap64 (getL b 32 8) = n9 := by rw [hn9]; unfold wrap64 i64; split <;> omega
  rw [← hn8, ← hn9] at hof
  obtain ⟨y1, hy1⟩ : ∃ y, bits .and .u8 x1 1 = y := ⟨_, rfl⟩
  obtain ⟨y2, hy2⟩ : ∃ y, bits .and .u8 x1 2 = y := ⟨_, rfl⟩
  rw [hy1, hy2] at hof
  obtain ⟨hd, hhd⟩ : ∃ q, (y1 != 0) = q := ⟨_, rfl⟩
  obtain ⟨hh, hhh⟩ : ∃ q, (y2 != 0) = q := ⟨_, rfl⟩
  rw [hhd, hhh] at hof
  clear hn8 hn9
  go_enter Tryd.func30, Tryd.ntmps30
  go_wp2_with fail
  obtain ⟨W, hW⟩ : ∃ W, W = ((w.alloc (.cells #[.slice (some a) 40 cap] 25)).alloc (.cells #[.int .i64 0, .int .i64 0, .int .i64 0, .int .i64 0, .int .i64 0, .int .i64 0, .bool false, .bool false, .int .i64 0, .int .i64 0] 24)) := ⟨_, rfl⟩
  rw [← hW]
  have hbw : Below w.heap.size w W := by rw [hW]; exact ((Below.refl _ _).alloc (Nat.le_refl _) _).alloc (by simp) _
  have hcb : W.cell? ⟨w.heap.size, 0, none⟩ = some (.slice (some a) 40 cap) := by rw [hW]; simp [go_sem]
  have hsz : W.heap.size = w.heap.size + 2 := by rw [hW]; simp
  have hrow : RW (w.heap.size + 1) #[.int .i64 0, .int .i64 0, .int .i64 0, .int .i64 0, .int .i64 0, .int .i64 0, .bool false, .bool false, .int .i64 0, .int .i64 0] W := by
    have := heap_alloc_new (w.alloc (.cells #[.slice (some a) 40 cap] 25)) (.cells #[.int .i64 0, .int .i64 0, .int .i64 0, .int .i64 0, .int .i64 0, .int .i64 0, .bool false, .bool false, .int .i64 0, .int .i64 0] 24)
    rw [← hW] at this; unfold RW; simpa using this
  clear hW
  have hd0 : Below W.heap.size W W.drew := (Below.refl _ _).drew
  have hS : ∀ W', Below W.heap.size W W' → W'.cell? ⟨w.heap.size, 0, none⟩ = some (.slice (some a) 40 cap) ∧ W'.cell? ⟨a.block, a.off + 1, none⟩ = some (.int .u8 x1) := fun W' hb =>
    ⟨by rw [hb.cell (by simp; omega)]; exact hcb, by rw [hb.cell (Nat.lt_of_lt_of_le (Below.lt hc1b) hbw.size), hbw.cell (Below.lt hc1b)]; exact hc1b⟩
  have hd1 : Below W.heap.size W (W.alloc (.cells #[.int .i64 0, .int .i64 0, .int .i64 0, .int .i64 0, .int .i64 0, .int .i64 0, .bool false, .bool false, .int .i64 0, .int .i64 0] 24)).drew := ((Below.refl _ _).alloc (Nat.le_refl _) _).drew
  have hd1 : Below W.heap.size W (W.alloc (.cells #[.int .i64 0, .int .i64 0, .int .i64 0, .int .i64 0, .int .i64 0, .int .i64 0, .bool false, .bool false, .int .i64 0, .int .i64 0] 24)).drew := ((Below.refl _ _).alloc (Nat.le_refl _) _).drew
  have hN := fun at_ size (h0 : size = 1 ∨ size = 2 ∨ size = 4) (h1 : 0 ≤ at_) (h2 : at_ ≤ 40) => recNum ⟨w.heap.size, 0, none⟩ _ b _ (hS _ hd0).1 (HV.out.below (hbw.trans (hd0.mono hbw.size))) (by rw [HL.out]; omega) at_ size h0 h1 h2
  have hG := fun at_ size (h1 : 0 ≤ at_) (h2 : at_ ≤ 40) (h3 : 0 ≤ size) (h4 : size ≤ 8) => get (.slice (some a) 40 cap) b at_ size W.drew (HV.out.below (hbw.trans (hd0.mono hbw.size))) (by rw [HL.out]; omega) (by omega) (by omega) (by omega) (by omega)
  have N0 := Lib.hid (hN 0 1 (.inl rfl) (by omega) (by omega))
  have N1 := Lib.hid (hN 2 2 (.inr (.inl rfl)) (by omega) (by omega))
  have N2 := Lib.hid (hN 4 2 (.inr (.inl rfl)) (by omega) (by omega))
  have N3 := Lib.hid (hN 8 4 (.inr (.inr rfl)) (by omega) (by omega))
  have N4 := Lib.hid (hN 12 4 (.inr (.inr rfl)) (by omega) (by omega))
  have N5 := Lib.hid (hN 16 4 (.inr (.inr rfl)) (by omega) (by omega))
  have N8 := Lib.hid (hG 24 8 (by omega) (by omega) (by omega) (by omega))
  have N9 := Lib.hid (hG 32 8 (by omega) (by omega) (by omega) (by omega))
  clear hN hG
  have hN := fun at_ size (h0 : size = 1 ∨ size = 2 ∨ size = 4) (h1 : 0 ≤ at_) (h2 : at_ ≤ 40) => recNum ⟨w.heap.size, 0, none⟩ _ b _ (hS _ hd1).1 (HV.out.below (hbw.trans (hd1.mono hbw.size))) (by rw [HL.out]; omega) at_ size h0 h1 h2
  have hG := fun at_ size (h1 : 0 ≤ at_) (h2 : at_ ≤ 40) (h3 : 0 ≤ size) (h4 : size ≤ 8) => get (.slice (some a) 40 cap) b at_ size (W.alloc (.cells #[.int .i64 0, .int .i64 0, .int .i64 0, .int .i64 0, .int .i64 0, .int .i64 0, .bool false, .bool false, .int .i64 0, .int .i64 0] 24)).drew (HV.out.below (hbw.trans (hd1.mono hbw.size))) (by rw [HL.out]; omega) (by omega) (by omega) (by omega) (by omega)
  have P0 := Lib.hid (hN 0 1 (.inl rfl) (by omega) (by omega))
  have P1 := Lib.hid (hN 2 2 (.inr (.inl rfl)) (by omega) (by omega))
  have P2 := Lib.hid (hN 4 2 (.inr (.inl rfl)) (by omega) (by omega))
  have P3 := Lib.hid (hN 8 4 (.inr (.inr rfl)) (by omega) (by omega))
  have P4 := Lib.hid (hN 12 4 (.inr (.inr rfl)) (by omega) (by omega))
  have P5 := Lib.hid (hN 16 4 (.inr (.inr rfl)) (by omega) (by omega))
  have P8 := Lib.hid (hG 24 8 (by omega) (by omega) (by omega) (by omega))
  have P9 := Lib.hid (hG 32 8 (by omega) (by omega) (by omega) (by omega))
  clear hN hG
  generalize getL b 0 1 = n0 at N0 P0 hof
  generalize getL b 2 2 = n1 at N1 P1 hof
  generalize getL b 4 2 = n2 at N2 P2 hof
  generalize getL b 8 4 = n3 at N3 P3 hof
  generalize getL b 12 4 = n4 at N4 P4 hof
  generalize getL b 16 4 = n5 at N5 P5 hof
  generalize getL b 24 8 = q8 at N8 P8 hw8 hx8
  generalize getL b 32 8 = q9 at N9 P9 hw9 hx9
  have HBW := Lib.hid hbw
  have HROW := Lib.hid hrow
  have HSZ := Lib.hid hsz
  have HSS := Lib.hid hS
  have HD0 := Lib.hid hd0
  have HD1 := Lib.hid hd1
  have HOF := Lib.hid hof
  have s0 := hcb
  have s1 := (hS W (Below.refl _ _)).2
  clear hbw hcb hrow hsz hof hS hc1b hd0 hd1 hmf hq8 hq9
  go_cut [5] from 14 (fun s5 wx => s5 = .pointer (some ⟨W.heap.size, 0, none⟩) ∧ wx = (W.alloc (.cells #[.int .i64 n0, .int .i64 n1, .int .i64 n2, .int .i64 n3, .int .i64 n4, .int .i64 n5, .bool hd, .bool hh, .int .i64 n8, .int .i64 n9] 24)).drew)
  case first =>
   go_region_held3 (fun W' => W'.cell? ⟨w.heap.size, 0, none⟩ = some (.slice (some a) 40 cap) ∧ W'.cell? ⟨a.block, a.off + 1, none⟩ = some (.int .u8 x1))
    (first | exact HSS.out _ HD1.out | exact HSS.out _ HD0.out | exact HSS.out _ (HD0.out.alloc (by simp) _) | go_keep)
    ((first
      | (go_at_call 45; first | (with_reducible refine N0.out.mono ?_; rintro e w1 ⟨rfl, rfl⟩) | (with_reducible refine N1.out.mono ?_; rintro e w1 ⟨rfl, rfl⟩) | (with_reducible refine N2.out.mono ?_; rintro e w1 ⟨rfl, rfl⟩) | (with_reducible refine N3.out.mono ?_; rintro e w1 ⟨rfl, rfl⟩) | (with_reducible refine N4.out.mono ?_; rintro e w1 ⟨rfl, rfl⟩) | (with_reducible refine N5.out.mono ?_; rintro e w1 ⟨rfl, rfl⟩) | (with_reducible refine P0.out.mono ?_; rintro e w1 ⟨rfl, rfl⟩) | (with_reducible refine P1.out.mono ?_; rintro e w1 ⟨rfl, rfl⟩) | (with_reducible refine P2.out.mono ?_; rintro e w1 ⟨rfl, rfl⟩) | (with_reducible refine P3.out.mono ?_; rintro e w1 ⟨rfl, rfl⟩) | (with_reducible refine P4.out.mono ?_; rintro e w1 ⟨rfl, rfl⟩) | (with_reducible refine P5.out.mono ?_; rintro e w1 ⟨rfl, rfl⟩))
      | (go_at_call 29; first | (with_reducible refine N8.out.mono ?_; rintro e w1 ⟨rfl, rfl⟩) | (with_reducible refine N9.out.mono ?_; rintro e w1 ⟨rfl, rfl⟩) | (with_reducible refine P8.out.mono ?_; rintro e w1 ⟨rfl, rfl⟩) | (with_reducible refine P9.out.mono ?_; rintro e w1 ⟨rfl, rfl⟩))))
   all_goals (go_wp2_with fail; go_meet; exact ⟨rfl, rfl⟩)
  obtain ⟨rfl, rfl⟩ := hcut
  obtain ⟨X, hX⟩ : ∃ X, X = (W.alloc (.cells #[.int .i64 n0, .int .i64 n1, .int .i64 n2, .int .i64 n3, .int .i64 n4, .int .i64 n5, .bool hd, .bool hh, .int .i64 n8, .int .i64 n9] 24)).drew := ⟨_, rfl⟩
  rw [← hX]
  have hrx : RW W.heap.size #[.int .i64 n0, .int .i64 n1, .int .i64 n2, .int .i64 n3, .int .i64 n4, .int .i64 n5, .bool hd, .bool hh, .int .i64 n8, .int .i64 n9] X := by rw [hX]; exact RW.new W _
  have hbx : Below W.heap.size W X := by rw [hX]; exact ((Below.refl _ _).alloc (Nat.le_refl _) _).drew
  clear hX
  have hbwx := HBW.out.trans (hbx.mono HBW.out.size)
  have e1 := (HS.out.below hbwx).r
  have hrow := HROW.out.below hbx
  unfold eV at e1
  have HX := Lib.hid hbx
  have HRX := Lib.hid hrx
  have HBX := Lib.hid hbwx
  have HROWX := Lib.hid hrow
  obtain ⟨c0, c1, c2, c3, c4, c5, c6, c7, c8, c9⟩ := hrx.cells
  clear hbx hbwx hrx hrow N0 N1 N2 N3 N4 N5 N8 N9 P0 P1 P2 P3 P4 P5 P8 P9 hw8 hw9 hx8 hx9 hy1 hy2 hhd hhh s0 s1
  by_cases hok : okR (recOf b) = true
  · have hby := recBytes (recOf b) X (recOf_W HV.out.1) _ e1 hok
    rw [HOF.out] at hby
    dsimp only [recV] at hby
    rw [← HOF.out] at hby
    have HBY := Lib.hid hby
    have HOK := Lib.hid hok
    clear hby hok e1
    go_wp2_with fail
    refine HBY.out.mono ?_
    rintro e w2 ⟨⟨v2, rfl, hob⟩, hb2⟩
    clear HBY c0 c1 c2 c3 c4 c5 c6 c7 c8 c9
    have hb3 := HX.out.trans (hb2.mono HX.out.size)
    have hb4 := HBX.out.trans (hb2.mono HBX.out.size)
    have hbs := HV.out.below hb4
    have hcb := (HSS.out _ hb3).1
    obtain ⟨r0, r1, r2, r3, r4, r5, r6, r7, r8, r9⟩ := (HROWX.out.below hb2).cells
    have hfz := (HROWX.out.below hb2).frozen
    obtain ⟨c0, c1, c2, c3, c4, c5, c6, c7, c8, c9⟩ := (HRX.out.below hb2).cells
    have e5 := (HS.out.below hb4).c
    unfold eV at e5
    have hwz : w.heap.size + 1 < W.heap.size := by have := HSZ.out; omega
    have hg2 := Below.lt HS.out.c
    simp only at hg2
    have hBE := bytesEqual v2 _ _ b w2 hob.bs hbs
    have HB4 := Lib.hid hb4
    have HBE := Lib.hid hBE
    clear hb2 hb3 hb4 hob hbs hBE
    generalize hq : sameB (recB (recOf b)) b = q at HBE
    have HQ := Lib.hid hq
    clear hq
    go_wp2_with fail
    refine HBE.out.mono ?_
    rintro e w3 ⟨rfl, rfl⟩
    cases q with
    | true =>
      have hres : readR b = (recOf b, 0) := by rw [HR.out, HOK.out, HQ.out]; rfl
      have HRES := Lib.hid hres
      clear hres
      go_wp2_with fail
      refine bodyPost_ret (v := .tuple #[recV ⟨n0, n1, n2, n3, n4, n5, hd, hh, n8, n9⟩, .nilIface]) (by simp [results, Tryd.results30, go_sem, recV, r0, r1, r2, r3, r4, r5, r6, r7, r8, r9]) rfl ⟨by rw [HRES.out, HOF.out]; rfl, ?_⟩
      have hh := fun (w' : World) (h : Below w.heap.size w w') (i : Nat) (v : Value) => h.setCell (p := ⟨w.heap.size + 1, i, none⟩) (by simp) v
      exact (hh _ (hh _ (hh _ (hh _ (hh _ (hh _ (hh _ (hh _ (hh _ (hh _ HB4.out _ _) _ _) _ _) _ _) _ _) _ _) _ _) _ _) _ _) _ _)
    | false =>
      have hres : readR b = (rec00, 104) := by rw [HR.out, HOK.out, HQ.out]; rfl
      have HRES := Lib.hid hres
      clear hres
      go_wp2_with fail
      go_region
      go_wp2_with fail
      refine bodyPost_ret (v := .tuple #[recV rec00, eV ea 3]) (by simp [results, Tryd.results30, go_sem, recV, rec00, eV, r0, r1, r2, r3, r4, r5, r6, r7, r8, r9]) rfl ⟨by rw [HRES.out]; rfl, ?_⟩
      have hh := fun (w' : World) (h : Below w.heap.size w w') (i : Nat) (v : Value) => h.setCell (p := ⟨w.heap.size + 1, i, none⟩) (by simp) v
      exact ((hh _ (hh _ (hh _ (hh _ (hh _ (hh _ (hh _ (hh _ (hh _ (hh _ HB4.out _ _) _ _) _ _) _ _) _ _) _ _) _ _) _ _) _ _) _ _)).drew
  · have hok2 : okR (recOf b) = false := by simpa using hok
    have hby := recBytesBad (recOf b) X 0 _ _ e1 hok2
    rw [HOF.out] at hby
    dsimp only [recV] at hby
    have HBY := Lib.hid hby
    have hres : readR b = (rec00, 104) := by rw [HR.out, hok2]; rfl
    have HRES := Lib.hid hres
    clear hby hok hok2 e1 hres
    go_wp2_with fail
    refine HBY.out.mono ?_
    rintro e w2 ⟨rfl, hb2⟩
    clear HBY c0 c1 c2 c3 c4 c5 c6 c7 c8 c9
    have hb3 := HX.out.trans (hb2.mono HX.out.size)
    have hb4 := HBX.out.trans (hb2.mono HBX.out.size)
    obtain ⟨r0, r1, r2, r3, r4, r5, r6, r7, r8, r9⟩ := (HROWX.out.below hb2).cells
    have hfz := (HROWX.out.below hb2).frozen
    have e5 := (HS.out.below hb4).c
    unfold eV at e5
    have hwz : w.heap.size + 1 < W.heap.size := by have := HSZ.out; omega
    have hg2 := Below.lt HS.out.c
    simp only at hg2
    have HB4 := Lib.hid hb4
    clear hb2 hb3 hb4
    go_wp2_with fail
    go_region
    go_wp2_with fail
    refine bodyPost_ret (v := .tuple #[recV rec00, eV ea 3]) (by simp [results, Tryd.results30, go_sem, recV, rec00, eV, r0, r1, r2, r3, r4, r5, r6, r7, r8, r9]) rfl ⟨by rw [HRES.out]; rfl, ?_⟩
    have hh := fun (w' : World) (h : Below w.heap.size w w') (i : Nat) (v : Value) => h.setCell (p := ⟨w.heap.size + 1, i, none⟩) (by simp) v
    exact ((hh _ (hh _ (hh _ (hh _ (hh _ (hh _ (hh _ (hh _ (hh _ (hh _ HB4.out _ _) _ _) _ _) _ _) _ _) _ _) _ _) _ _) _ _) _ _)).drew

/-- Read -/
theorem recRead {ea : Nat → Addr} (v : Value) (b : List Int) (w : World) (hv : Bs w v b) (hs : E3 ea w) :
    Calls Tryd.prog 30 #[v] w fun e w' => e = .returned (.tuple #[recV (readR b).1, eC ea (readR b).2]) ∧ Below w.heap.size w w' := by
  by_cases hl : b.length = 40
  · exact recReadLong v b w hv hs hl
  · have h := recReadShort v b w hv _ hs.s hl
    rw [readR_len b hl]
    exact h
theorem readR_okC (b : List Int) : OkC (readR b).2 := by
  unfold readR OkC; split
  · simp
  · split <;> simp
end Go.Proofs.YtpgelebmhhcodaaDoor
