/- Contract: the document's ReadRec. -/
import Derived.Test.YtpgelebmhhcodaaDoorPlain
import Derived.Test.YtpgelebmhhcodaaDoorRecT
import Derived.Test.YtpgelebmhhcodaaDoorRecXFF
import Derived.Test.YtpgelebmhhcodaaDoorRecGD
import Derived.Test.YtpgelebmhhcodaaDoorByteT
import Derived.Deep.Cut
import Derived.Deep.RegionHeld3
import Derived.Outline
namespace Go.Proofs.YtpgelebmhhcodaaDoor
open Go.RowKit
set_option linter.unusedVariables false

theorem getL_one (b : List Int) (hl : b.length = 40) : getL b 0 1 = b.getD 0 0 := by
  have e : (sz 1).toNat = 1 := by decide
  unfold getL
  rw [e, getTo, getTo, if_pos (by omega)]
  simp

theorem recOf_eq2 (b : List Int) (hB : IsB b) (hl : b.length = 40) : recOf b = ⟨b.getD 0 0, getL b 2 2, getL b 4 2, getL b 8 4, getL b 12 4, getL b 16 4, (bits .and .u8 (b.getD 1 0) 1 == 1), (bits .and .u8 (b.getD 1 0) 2 == 2), i64 (getL b 24 8), i64 (getL b 32 8)⟩ := by
  have hx := hB.get 1
  rw [and_oneN _ hx.1 hx.2, and_twoN _ hx.1 hx.2, ← getL_one b hl]
  unfold recOf
  generalize b.getD 1 0 = x at *
  have e2 : (x / 2 % 2 == 1) = (x / 2 % 2 * 2 == 2) := by
    rcases Int.emod_two_eq (x / 2) with h | h <;> rw [h] <;> rfl
  rw [e2]

theorem sameB_commR (l m : List Int) : sameB l m = sameB m l := by unfold sameB; congr 1; simp only [eq_iff_iff]; exact eq_comm

theorem recReadRefShort (v : Value) (b : List Int) (w : World) (hv : Bs w v b) (hl : b.length ≠ 40) :
    Calls Tryd.prog 34 #[v] w fun e w' => e = .returned (.tuple #[recV rec00, .int .i64 103]) ∧ Below w.heap.size w w' := by
  have hb : ∀ o1, Below w.heap.size w (w.alloc o1) := fun o1 => (Below.refl _ _).alloc (Nat.le_refl _) o1
  have h1 : ((b.length : Int) != 40) = true := by simp; omega
  obtain ⟨hB, o, cap, rfl, hc1, hc2, hc3, hc4⟩ := hv
  unfold maxLen at hc2
  clear hc4 hc3 hB
  have HB := Lib.hid hb
  clear hb
  generalize b.length = n at *
  go_enter Tryd.func34, Tryd.ntmps34
  go_wp2_with fail
  exact bodyPost_ret (v := .tuple #[recV rec00, .int .i64 103]) (by simp [results, Tryd.results34, go_sem, recV, rec00]) rfl ⟨rfl, HB.out _⟩

set_option maxRecDepth 20000 in
set_option maxHeartbeats 4000000 in
theorem recReadRefLong (v : Value) (b : List Int) (w : World) (hv : Bs w v b) (hl : b.length = 40) :
    Calls Tryd.prog 34 #[v] w fun e w' => e = .returned (.tuple #[recV (readR b).1, .int .i64 (readR b).2]) ∧ Below w.heap.size w w' := by
  have hv' := hv
  obtain ⟨hB, o, cap, rfl, hc1, hc2, hc3, hc4⟩ := hv
  unfold maxLen at hc2
  obtain ⟨a, rfl, hcell⟩ := hc4 (ne_nil_of_lt (k := 0) (by omega))
  have hc0b := hcell 0 (by omega)
  have hc1b := hcell 1 (by omega)
  rw [show a.add 1 = ⟨a.block, a.off + 1, none⟩ by rfl] at hc1b
  rw [show a.add 0 = a by cases a; rfl] at hc0b
  have hread : readR b = if okR (recOf b) && sameB (recB (recOf b)) b then (recOf b, 0) else (rec00, 104) := by unfold readR; rw [if_neg (by omega)]
  have HL := Lib.hid hl
  clear hc4 hc3 hcell
  have hof := recOf_eq2 b hB hl
  rw [hl] at hc1 hv' ⊢
  have HV := Lib.hid hv'
  have HR := Lib.hid hread
  have hq8 := getL_eightN hB 24
  have hq9 := getL_eightN hB 32
  have hb0 := hB.get 0
  have hs1 := getL_smallN hB 2 2 (by simp)
  have hs2 := getL_smallN hB 4 2 (by simp)
  have hs3 := getL_smallN hB 8 4 (by simp)
  have hs4 := getL_smallN hB 12 4 (by simp)
  have hs5 := getL_smallN hB 16 4 (by simp)
  clear hread hl hB
  have hbw : Below w.heap.size w (w.alloc (.cells #[.int .i64 0, .int .i64 0, .int .i64 0, .int .i64 0, .int .i64 0, .int .i64 0, .bool false, .bool false, .int .i64 0, .int .i64 0] 24)) := (Below.refl _ _).alloc (Nat.le_refl _) _
  have hrow := RW.new w #[.int .i64 0, .int .i64 0, .int .i64 0, .int .i64 0, .int .i64 0, .int .i64 0, .bool false, .bool false, .int .i64 0, .int .i64 0]
  go_enter Tryd.func34, Tryd.ntmps34
  go_wp2_with fail
  generalize (w.alloc (.cells #[.int .i64 0, .int .i64 0, .int .i64 0, .int .i64 0, .int .i64 0, .int .i64 0, .bool false, .bool false, .int .i64 0, .int .i64 0] 24)) = W at hbw hrow ⊢
  have hd0 : Below W.heap.size W W.drew := (Below.refl _ _).drew
  have hbd := hbw.trans (hd0.mono hbw.size)
  have hS : ∀ W', Below W.heap.size W W' → W'.cell? a = some (.int .u8 (b.getD 0 0)) ∧ W'.cell? ⟨a.block, a.off + 1, none⟩ = some (.int .u8 (b.getD 1 0)) := fun W' hb =>
    ⟨by rw [hb.cell (Nat.lt_of_lt_of_le (Below.lt hc0b) hbw.size), hbw.cell (Below.lt hc0b)]; exact hc0b, by rw [hb.cell (Nat.lt_of_lt_of_le (Below.lt hc1b) hbw.size), hbw.cell (Below.lt hc1b)]; exact hc1b⟩
  have hd1 : Below W.heap.size W (W.alloc (.cells #[.int .i64 0, .int .i64 0, .int .i64 0, .int .i64 0, .int .i64 0, .int .i64 0, .bool false, .bool false, .int .i64 0, .int .i64 0] 24)).drew := ((Below.refl _ _).alloc (Nat.le_refl _) _).drew
  have hN := fun (at_ size : Int) (h1 : 0 ≤ at_) (h2 : at_ ≤ 40) (h3 : 0 ≤ size) (h4 : size ≤ 8) => getRef _ b at_ size W.drew (HV.out.below (hbw.trans (hd0.mono hbw.size))) (by rw [HL.out]; omega) (by omega) (by omega) (by omega) (by omega)
  have N1 := Lib.hid (hN 2 2 (by omega) (by omega) (by omega) (by omega))
  have N2 := Lib.hid (hN 4 2 (by omega) (by omega) (by omega) (by omega))
  have N3 := Lib.hid (hN 8 4 (by omega) (by omega) (by omega) (by omega))
  have N4 := Lib.hid (hN 12 4 (by omega) (by omega) (by omega) (by omega))
  have N5 := Lib.hid (hN 16 4 (by omega) (by omega) (by omega) (by omega))
  have N8 := Lib.hid (hN 24 8 (by omega) (by omega) (by omega) (by omega))
  have N9 := Lib.hid (hN 32 8 (by omega) (by omega) (by omega) (by omega))
  clear hN
  have hN := fun (at_ size : Int) (h1 : 0 ≤ at_) (h2 : at_ ≤ 40) (h3 : 0 ≤ size) (h4 : size ≤ 8) => getRef _ b at_ size (W.alloc (.cells #[.int .i64 0, .int .i64 0, .int .i64 0, .int .i64 0, .int .i64 0, .int .i64 0, .bool false, .bool false, .int .i64 0, .int .i64 0] 24)).drew (HV.out.below (hbw.trans (hd1.mono hbw.size))) (by rw [HL.out]; omega) (by omega) (by omega) (by omega) (by omega)
  have P1 := Lib.hid (hN 2 2 (by omega) (by omega) (by omega) (by omega))
  have P2 := Lib.hid (hN 4 2 (by omega) (by omega) (by omega) (by omega))
  have P3 := Lib.hid (hN 8 4 (by omega) (by omega) (by omega) (by omega))
  have P4 := Lib.hid (hN 12 4 (by omega) (by omega) (by omega) (by omega))
  have P5 := Lib.hid (hN 16 4 (by omega) (by omega) (by omega) (by omega))
  have P8 := Lib.hid (hN 24 8 (by omega) (by omega) (by omega) (by omega))
  have P9 := Lib.hid (hN 32 8 (by omega) (by omega) (by omega) (by omega))
  clear hN
  generalize getL b 2 2 = n1 at N1 P1 hof hs1
  generalize getL b 4 2 = n2 at N2 P2 hof hs2
  generalize getL b 8 4 = n3 at N3 P3 hof hs3
  generalize getL b 12 4 = n4 at N4 P4 hof hs4
  generalize getL b 16 4 = n5 at N5 P5 hof hs5
  generalize getL b 24 8 = q8 at N8 P8 hof hq8
  generalize getL b 32 8 = q9 at N9 P9 hof hq9
  generalize b.getD 0 0 = n0 at hof hS hb0 hc0b
  generalize b.getD 1 0 = x1 at hof hS hc1b
  obtain ⟨n8, hn8⟩ : ∃ n, n = i64 q8 := ⟨_, rfl⟩
  obtain ⟨n9, hn9⟩ : ∃ n, n = i64 q9 := ⟨_, rfl⟩
  have hw8 : IntKind.i64.wrap q8 = n8 := by rw [hn8, IntKind.wrap_i64]; unfold i64; split <;> omega
  have hw9 : IntKind.i64.wrap q9 = n9 := by rw [hn9, IntKind.wrap_i64]; unfold i64; split <;> omega
  have hx8 : wrap64 q8 = n8 := by rw [hn8]; unfold wrap64 i64; split <;> omega
  have hx9 : wrap64 q9 = n9 := by rw [hn9]; unfold wrap64 i64; split <;> omega
  rw [← hn8, ← hn9] at hof
  obtain ⟨y1, hy1⟩ : ∃ y, bits .and .u8 x1 1 = y := ⟨_, rfl⟩
  obtain ⟨y2, hy2⟩ : ∃ y, bits .and .u8 x1 2 = y := ⟨_, rfl⟩
  rw [hy1, hy2] at hof
  obtain ⟨hd, hhd⟩ : ∃ q, (y1 == 1) = q := ⟨_, rfl⟩
  obtain ⟨hh, hhh⟩ : ∃ q, (y2 == 2) = q := ⟨_, rfl⟩
  rw [hhd, hhh] at hof
  have u0 : IntKind.i64.wrap n0 = n0 := by rw [IntKind.wrap_i64]; omega
  have u1 : IntKind.i64.wrap n1 = n1 := by rw [IntKind.wrap_i64]; omega
  have u2 : IntKind.i64.wrap n2 = n2 := by rw [IntKind.wrap_i64]; omega
  have u3 : IntKind.i64.wrap n3 = n3 := by rw [IntKind.wrap_i64]; omega
  have u4 : IntKind.i64.wrap n4 = n4 := by rw [IntKind.wrap_i64]; omega
  have u5 : IntKind.i64.wrap n5 = n5 := by rw [IntKind.wrap_i64]; omega
  have HBW := Lib.hid hbw
  have HROW := Lib.hid hrow
  have HSS := Lib.hid hS
  have HD0 := Lib.hid hd0
  have HD1 := Lib.hid hd1
  have HOF := Lib.hid hof
  have s0 := hS W (Below.refl _ _)
  clear hbw hrow hof hS hd0 hd1 hbd hn8 hn9 hc0b hc1b
  go_cut [4] from 9 (fun s4 wx => s4 = .pointer (some ⟨W.heap.size, 0, none⟩) ∧ wx = (W.alloc (.cells #[.int .i64 n0, .int .i64 n1, .int .i64 n2, .int .i64 n3, .int .i64 n4, .int .i64 n5, .bool hd, .bool hh, .int .i64 n8, .int .i64 n9] 24)).drew)
  case first =>
   go_region_held3 (fun W' => W'.cell? a = some (.int .u8 n0) ∧ W'.cell? ⟨a.block, a.off + 1, none⟩ = some (.int .u8 x1))
    (first | exact HSS.out _ HD1.out | exact HSS.out _ HD0.out | exact HSS.out _ (HD0.out.alloc (by simp) _) | go_keep)
    ((first
      | (go_at_call 33; first | (with_reducible refine N1.out.mono ?_; rintro e w1 ⟨rfl, rfl⟩) | (with_reducible refine N2.out.mono ?_; rintro e w1 ⟨rfl, rfl⟩) | (with_reducible refine N3.out.mono ?_; rintro e w1 ⟨rfl, rfl⟩) | (with_reducible refine N4.out.mono ?_; rintro e w1 ⟨rfl, rfl⟩) | (with_reducible refine N5.out.mono ?_; rintro e w1 ⟨rfl, rfl⟩) | (with_reducible refine N8.out.mono ?_; rintro e w1 ⟨rfl, rfl⟩) | (with_reducible refine N9.out.mono ?_; rintro e w1 ⟨rfl, rfl⟩) | (with_reducible refine P1.out.mono ?_; rintro e w1 ⟨rfl, rfl⟩) | (with_reducible refine P2.out.mono ?_; rintro e w1 ⟨rfl, rfl⟩) | (with_reducible refine P3.out.mono ?_; rintro e w1 ⟨rfl, rfl⟩) | (with_reducible refine P4.out.mono ?_; rintro e w1 ⟨rfl, rfl⟩) | (with_reducible refine P5.out.mono ?_; rintro e w1 ⟨rfl, rfl⟩) | (with_reducible refine P8.out.mono ?_; rintro e w1 ⟨rfl, rfl⟩) | (with_reducible refine P9.out.mono ?_; rintro e w1 ⟨rfl, rfl⟩))))
   all_goals (go_wp2_with fail; go_meet; (try rw [u0, u1, u2, u3, u4, u5]); exact ⟨rfl, rfl⟩)
  obtain ⟨rfl, rfl⟩ := hcut
  obtain ⟨X, hX⟩ : ∃ X, X = (W.alloc (.cells #[.int .i64 n0, .int .i64 n1, .int .i64 n2, .int .i64 n3, .int .i64 n4, .int .i64 n5, .bool hd, .bool hh, .int .i64 n8, .int .i64 n9] 24)).drew := ⟨_, rfl⟩
  rw [← hX]
  have hrx : RW W.heap.size #[.int .i64 n0, .int .i64 n1, .int .i64 n2, .int .i64 n3, .int .i64 n4, .int .i64 n5, .bool hd, .bool hh, .int .i64 n8, .int .i64 n9] X := by rw [hX]; exact RW.new W _
  have hbx : Below W.heap.size W X := by rw [hX]; exact ((Below.refl _ _).alloc (Nat.le_refl _) _).drew
  clear hX
  have hbwx := HBW.out.trans (hbx.mono HBW.out.size)
  have hrow := HROW.out.below hbx
  have HX := Lib.hid hbx
  have HRX := Lib.hid hrx
  have HBX := Lib.hid hbwx
  have HROWX := Lib.hid hrow
  obtain ⟨c0, c1, c2, c3, c4, c5, c6, c7, c8, c9⟩ := hrx.cells
  have hgr := goodRec (recOf b) X
  rw [HOF.out] at hgr
  dsimp only [recV] at hgr
  rw [← HOF.out] at hgr
  have hrb := fun Y => recBytesRef (recOf b) Y
  rw [HOF.out] at hrb
  dsimp only [recV] at hrb
  rw [← HOF.out] at hrb
  have HGR := Lib.hid hgr
  have HRB := Lib.hid hrb
  clear hgr hrb hbx hbwx hrx hrow u0 u1 u2 u3 u4 u5 N1 N2 N3 N4 N5 N8 N9 P1 P2 P3 P4 P5 P8 P9 hw8 hw9 hx8 hx9 hy1 hy2 hhd hhh s0 hs1 hs2 hs3 hs4 hs5 hq8 hq9 hb0
  generalize hq : okR (recOf b) = q at HGR
  have HQ := Lib.hid hq
  clear hq
  go_wp2_with fail
  refine HGR.out.mono ?_
  clear HGR
  rintro e w2 ⟨rfl, hb2⟩
  clear c0 c1 c2 c3 c4 c5 c6 c7 c8 c9
  have HB4 := Lib.hid (HBX.out.trans (hb2.mono HBX.out.size))
  have HR2 := Lib.hid (HROWX.out.below hb2)
  have HC2 := Lib.hid (HRX.out.below hb2)
  clear hb2
  cases q with
  | false =>
      have hres : readR b = (rec00, 104) := by rw [HR.out, HQ.out]; rfl
      have HRES := Lib.hid hres
      obtain ⟨r0, r1, r2, r3, r4, r5, r6, r7, r8, r9⟩ := HR2.out.cells
      have hfz := HR2.out.frozen
      clear hres
      go_wp2_with fail
      refine bodyPost_ret (v := .tuple #[recV rec00, .int .i64 104]) (by simp [results, Tryd.results34, go_sem, recV, rec00, r0, r1, r2, r3, r4, r5, r6, r7, r8, r9]) rfl ⟨by rw [HRES.out], ?_⟩
      have hh := fun (w' : World) (h : Below w.heap.size w w') (i : Nat) (v : Value) => h.setCell (p := ⟨w.heap.size, i, none⟩) (by simp) v
      exact (hh _ (hh _ (hh _ (hh _ (hh _ (hh _ (hh _ (hh _ (hh _ (hh _ HB4.out _ _) _ _) _ _) _ _) _ _) _ _) _ _) _ _) _ _) _ _)
  | true =>
      obtain ⟨c0, c1, c2, c3, c4, c5, c6, c7, c8, c9⟩ := HC2.out.cells
      go_wp2_with fail
      refine (HRB.out _).mono ?_
      clear HRB
      rintro e w3 ⟨⟨v3, rfl, hob⟩, hb3⟩
      clear c0 c1 c2 c3 c4 c5 c6 c7 c8 c9
      have HB5 := Lib.hid (HB4.out.trans (hb3.mono HB4.out.size))
      have hsame := same_calls _ _ _ _ w3 hob.bs (HV.out.below HB5.out)
      obtain ⟨c0, c1, c2, c3, c4, c5, c6, c7, c8, c9⟩ := (HC2.out.below hb3).cells
      obtain ⟨r0, r1, r2, r3, r4, r5, r6, r7, r8, r9⟩ := (HR2.out.below hb3).cells
      have hfz := (HR2.out.below hb3).frozen
      have HSAME := Lib.hid hsame
      clear hsame hb3 hob
      generalize hs : sameB (recB (recOf b)) b = s at HSAME
      have HSM := Lib.hid hs
      clear hs
      go_wp2_with fail
      refine HSAME.out.mono ?_
      clear HSAME
      rintro e w4 ⟨rfl, nd, rfl⟩
      cases s with
      | true =>
        have hres : readR b = (recOf b, 0) := by rw [HR.out, HQ.out, HSM.out]; rfl
        have HRES := Lib.hid hres
        clear hres
        go_wp2_with fail
        refine bodyPost_ret (v := .tuple #[recV ⟨n0, n1, n2, n3, n4, n5, hd, hh, n8, n9⟩, .int .i64 0]) (by simp [results, Tryd.results34, go_sem, recV, r0, r1, r2, r3, r4, r5, r6, r7, r8, r9]) rfl ⟨by rw [HRES.out, HOF.out], ?_⟩
        have hh := fun (w' : World) (h : Below w.heap.size w w') (i : Nat) (v : Value) => h.setCell (p := ⟨w.heap.size, i, none⟩) (by simp) v
        exact (hh _ (hh _ (hh _ (hh _ (hh _ (hh _ (hh _ (hh _ (hh _ (hh _ (HB5.out.trans (bdrew _ _ _)) _ _) _ _) _ _) _ _) _ _) _ _) _ _) _ _) _ _) _ _)
      | false =>
        have hres : readR b = (rec00, 104) := by rw [HR.out, HQ.out, HSM.out]; rfl
        have HRES := Lib.hid hres
        clear hres
        go_wp2_with fail
        refine bodyPost_ret (v := .tuple #[recV rec00, .int .i64 104]) (by simp [results, Tryd.results34, go_sem, recV, rec00, r0, r1, r2, r3, r4, r5, r6, r7, r8, r9]) rfl ⟨by rw [HRES.out], ?_⟩
        have hh := fun (w' : World) (h : Below w.heap.size w w') (i : Nat) (v : Value) => h.setCell (p := ⟨w.heap.size, i, none⟩) (by simp) v
        exact (hh _ (hh _ (hh _ (hh _ (hh _ (hh _ (hh _ (hh _ (hh _ (hh _ (HB5.out.trans (bdrew _ _ _)) _ _) _ _) _ _) _ _) _ _) _ _) _ _) _ _) _ _) _ _)

theorem recReadRef (v : Value) (b : List Int) (w : World) (hv : Bs w v b) :
    Calls Tryd.prog 34 #[v] w fun e w' => e = .returned (.tuple #[recV (readR b).1, .int .i64 (readR b).2]) ∧ Below w.heap.size w w' := by
  by_cases hl : b.length = 40
  · exact recReadRefLong v b w hv hl
  · rw [readR_len b hl]
    exact recReadRefShort v b w hv hl
end Go.Proofs.YtpgelebmhhcodaaDoor
