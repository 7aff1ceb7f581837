/- Contract: the document's Norm. -/
import Derived.Test.YtccfiohcblecoaaDoorChN
import Derived.Test.YtccfiohcblecoaaDoorRefA
import Derived.Deep.RegionLaw
namespace Go.Proofs.YtccfiohcblecoaaDoor
open Go.RowKit
set_option linter.unusedVariables false

/-- a block of a fault's three cells -/
def FW (A : Nat) (cs : Array Value) (w : World) : Prop := w.heap[A]? = some (.cells cs 66 (0, 0))
theorem FW.below {A : Nat} {cs : Array Value} {w w' : World} (h : FW A cs w) (hb : Below w.heap.size w w') : FW A cs w' := by
  unfold FW; rw [hb.block _ (Array.getElem?_eq_some_iff.1 h).1]; exact h
theorem FW.frozen {A : Nat} {cs : Array Value} {w : World} (h : FW A cs w) (i : Nat) : w.frozen? ⟨A, i, none⟩ = false := rowFrozen h i
theorem FW.new (w : World) (cs : Array Value) : FW w.heap.size cs (w.alloc (.cells cs 66)) := heap_alloc_new w _
theorem FW.cells {A : Nat} {w : World} {c0 c1 c2 : Value} (h : FW A #[c0, c1, c2] w) : w.cell? ⟨A, 0, none⟩ = some c0 ∧ w.cell? ⟨A, 1, none⟩ = some c1 ∧ w.cell? ⟨A, 2, none⟩ = some c2 := by
  refine ⟨?_, ?_, ?_⟩ <;> rw [cell_of_row w A _ _ _ (0, 0) h] <;> rfl
theorem FW.put {A : Nat} {w : World} {c0 c1 c2 : Value} (h : FW A #[c0, c1, c2] w) (d0 d1 d2 : Value) : FW A #[d0, d1, d2] (((w.setCell ⟨A, 0, none⟩ d0).setCell ⟨A, 1, none⟩ d1).setCell ⟨A, 2, none⟩ d2) := by
  have h0 := setCell_rowR h 0 d0
  have h1 := setCell_rowR h0 1 d1
  have h2 := setCell_rowR h1 2 d2
  unfold FW
  rw [h2]; simp
theorem below3 {base : Nat} {w0 W : World} (h : Below base w0 W) {A : Nat} (hA : base ≤ A) (v0 v1 v2 : Value) : Below base w0 (((W.setCell ⟨A, 0, none⟩ v0).setCell ⟨A, 1, none⟩ v1).setCell ⟨A, 2, none⟩ v2) :=
  ((h.setCell (p := ⟨A, 0, none⟩) hA v0).setCell (p := ⟨A, 1, none⟩) hA v1).setCell (p := ⟨A, 2, none⟩) hA v2

/-- the fault as a value -/
def faultV : Option Int → Value
  | none => .agg #[.int .i64 0, .bool false, .int .i64 0]
  | some p => .agg #[.int .i64 108, .bool true, .int .i64 p]

set_option maxRecDepth 20000 in
set_option maxHeartbeats 4000000 in
theorem refNorm {w : World} {X : Nat} {c : LogC} {v : Value} {L : List RecD} (h : Lg 133 w X c v L) (lsn : Int) (hl1 : -9223372036854775808 ≤ lsn) (hl2 : lsn ≤ 9223372036854775807) :
    Calls Tryd.prog 43 #[.pointer (some ⟨X, 0, none⟩), .int .i64 lsn] w fun e w' => e = .returned (.tuple #[.int .i64 (norm c.base L lsn).1, faultV (norm c.base L lsn).2]) ∧ Below w.heap.size w w' := by
  obtain ⟨W, hW⟩ : ∃ W, W = w.alloc (.cells #[.int .i64 0, .bool false, .int .i64 0] 66) := ⟨_, rfl⟩
  have hbw : Below w.heap.size w W := by rw [hW]; exact (Below.refl _ _).alloc (Nat.le_refl _) _
  have HF0 : Hid (FW w.heap.size #[.int .i64 0, .bool false, .int .i64 0] W) := by rw [hW]; exact FW.new w _
  have HW := Lib.hid hW
  have HA := Lib.hid hbw
  obtain ⟨A, hA⟩ : ∃ A, A = w.heap.size := ⟨_, rfl⟩
  have HSA := Lib.hid hA
  have HLE : Hid (w.heap.size ≤ A) := Lib.hid (by rw [hA]; exact Nat.le_refl _)
  have HLG := Lib.hid (h.below hbw)
  have HB0 := Lib.hid h.ok.b0
  obtain ⟨b, hb⟩ : ∃ b, b = c.base := ⟨_, rfl⟩
  have HBB := Lib.hid hb
  rw [← hb] at HB0 ⊢
  have HWL := Lib.hid h.own.1
  clear h hb hW hbw
  obtain ⟨res, hres⟩ : ∃ x, x = norm b L lsn := ⟨_, rfl⟩
  rw [← hres]
  have H0 : Hid (res = norm b L lsn) := Lib.hid hres
  have HF00 : Hid (FW A #[.int .i64 0, .bool false, .int .i64 0] W) := by rw [hA]; exact HF0
  clear hres hA HF0
  go_enter Tryd.func43, Tryd.ntmps43
  go_wp2_with fail
  rw [← HW.out, ← HSA.out]
  go_loopw [1] (fun s wr => ∃ k : Int, s = .int .i64 k ∧ -9223372036854775808 ≤ k ∧ k ≤ 9223372036854775807 ∧ Hid (res = norm b L k) ∧ Hid (Below W.heap.size W wr)) (fun s _ => (intOf s).toNat)
  case atStart => exact ⟨lsn, rfl, hl1, hl2, H0, Lib.hid (Below.refl _ _)⟩
  case round =>
    obtain ⟨k, rfl, hk1, hk2, HK, HBR⟩ := hrel
    clear H0 hl1 hl2
    by_cases h0 : k = 0
    · subst h0
      have HRES : Hid (res = (0, none)) := Lib.hid (HK.out.trans (norm_zero _ _))
      have HB1 := HBR
      go_wp2_with fail
      refine (noneF _).mono ?_
      rintro e w2 ⟨rfl, hb2⟩
      have HB2 := Lib.hid (HB1.out.trans (hb2.mono HB1.out.size))
      have hfz := (HF00.out.below HB2.out).frozen
      obtain ⟨f0, f1, f2⟩ := (HF00.out.below HB2.out).cells
      clear hb2
      go_wp2_with fail
      exact bodyPost_ret (v := .tuple #[.int .i64 0, .agg #[.int .i64 0, .bool false, .int .i64 0]]) (by simp [results, Tryd.results43, go_sem, f0, f1, f2]) rfl ⟨by rw [HRES.out]; rfl, below3 (HA.out.trans (HB2.out.mono HA.out.size)) HLE.out _ _ _⟩
    · have e0 : (k != 0) = true := by simpa using h0
      have H0 := Lib.hid h0
      clear h0
      cases hr : recAtN b L k with
      | none =>
        have hno : k ≤ b ∨ b + L.length < k := by
          refine Classical.byContradiction fun hc => ?_
          obtain ⟨r, h1, _⟩ := recAtN_some (base := b) (L := L) (lsn := k) (by omega) (by omega)
          rw [hr] at h1; simp at h1
        have HRN := Lib.hid (refRecNo (HLG.out.below HBR.out) k hk1 hk2 (by rw [← HBB.out]; exact hno))
        have HRES : Hid (res = (0, some k)) := Lib.hid (by rw [HK.out]; exact norm_none H0.out hr)
        clear hr hno HK
        go_wp2_with fail
        refine HRN.out.mono ?_
        rintro e w1 ⟨rfl, hb1⟩
        have hal : Below w1.heap.size w1 (w1.alloc (.cells #[.int .i64 0, .int .i64 0, .int .i64 0, .int .i64 0, .int .i64 0, .int .i64 0, .bool false, .bool false, .int .i64 0, .int .i64 0] 33)) := (Below.refl _ _).alloc (Nat.le_refl _) _
        have HB1 := Lib.hid (HBR.out.trans ((hb1.trans (hal.mono hb1.size)).mono HBR.out.size))
        clear hb1 hal
        dsimp only [recV, rec00]
        go_wp2_with fail
        refine (placed 108 k (by omega) _).mono ?_
        rintro e w2 ⟨rfl, hb2⟩
        have HB2 := Lib.hid (HB1.out.trans (hb2.mono HB1.out.size))
        have hfz := (HF00.out.below HB2.out).frozen
        obtain ⟨f0, f1, f2⟩ := (HF00.out.below HB2.out).cells
        clear hb2
        go_wp2_with fail
        exact bodyPost_ret (v := .tuple #[.int .i64 0, .agg #[.int .i64 108, .bool true, .int .i64 k]]) (by simp [results, Tryd.results43, go_sem, f0, f1, f2]) rfl ⟨by rw [HRES.out]; rfl, below3 (HA.out.trans (HB2.out.mono HA.out.size)) HLE.out _ _ _⟩
      | some r =>
        have HR := Lib.hid hr
        have HRY := Lib.hid (refRecYes (HLG.out.below HBR.out) k r (by rw [← HBB.out]; exact hr))
        have hlt := recAtN_lt hr
        have hrW : r.W := HWL.out r (List.mem_of_getElem? (recAtN_idx hr).choose_spec.2.2)
        have HNS := Lib.hid (fun h2 => norm_set H0.out hr h2)
        have HNB := Lib.hid (fun h2 => norm_begin H0.out hr h2)
        have HNO := Lib.hid (fun h1 h2 h3 => norm_other H0.out hr h1 h2 h3)
        have HNK := Lib.hid (fun h1 h2 => norm_back H0.out hr h1 h2)
        have HNN := Lib.hid (fun h1 h2 => norm_on HB0.out H0.out hr h1 h2)
        have hkp : 0 < k := by have := HB0.out; omega
        clear hr HR hlt
        have p1 := hrW.prev
        have p2 := hrW.next
        clear hrW
        obtain ⟨kind, txn, page, prev, next, key, had, has, old, new⟩ := r
        dsimp only [recV, goesOn, onOf, I64] at HRY HNS HNB HNO HNK HNN p1 p2
        obtain ⟨p1a, p1b⟩ := p1
        obtain ⟨p2a, p2b⟩ := p2
        by_cases q2 : kind = 2
        · subst q2
          have HRES := Lib.hid (HK.out.trans (HNS.out rfl))
          clear HNS HNB HNO HNK HNN HK
          go_wp2_with fail
          refine HRY.out.mono ?_
          rintro e w1 ⟨rfl, hb1⟩
          have hal : Below w1.heap.size w1 (w1.alloc (.cells #[.int .i64 2, .int .i64 txn, .int .i64 page, .int .i64 prev, .int .i64 next, .int .i64 key, .bool had, .bool has, .int .i64 old, .int .i64 new] 33)) := (Below.refl _ _).alloc (Nat.le_refl _) _
          have HB1 := Lib.hid (HBR.out.trans ((hb1.trans (hal.mono hb1.size)).mono HBR.out.size))
          clear hb1 hal
          go_wp2_with fail
          refine (noneF _).mono ?_
          rintro e w2 ⟨rfl, hb2⟩
          have HB2 := Lib.hid (HB1.out.trans (hb2.mono HB1.out.size))
          have hfz := (HF00.out.below HB2.out).frozen
          obtain ⟨f0, f1, f2⟩ := (HF00.out.below HB2.out).cells
          clear hb2
          go_wp2_with fail
          exact bodyPost_ret (v := .tuple #[.int .i64 k, .agg #[.int .i64 0, .bool false, .int .i64 0]]) (by simp [results, Tryd.results43, go_sem, f0, f1, f2]) rfl ⟨by rw [HRES.out]; rfl, below3 (HA.out.trans (HB2.out.mono HA.out.size)) HLE.out _ _ _⟩
        · have e2 : (kind == 2) = false := by simpa using q2
          by_cases q1 : kind = 1
          · subst q1
            have HRES := Lib.hid (HK.out.trans (HNB.out rfl))
            clear HNS HNB HNO HNK HNN HK
            go_wp2_with fail
            refine HRY.out.mono ?_
            rintro e w1 ⟨rfl, hb1⟩
            have hal : Below w1.heap.size w1 (w1.alloc (.cells #[.int .i64 1, .int .i64 txn, .int .i64 page, .int .i64 prev, .int .i64 next, .int .i64 key, .bool had, .bool has, .int .i64 old, .int .i64 new] 33)) := (Below.refl _ _).alloc (Nat.le_refl _) _
            have HB1 := Lib.hid (HBR.out.trans ((hb1.trans (hal.mono hb1.size)).mono HBR.out.size))
            clear hb1 hal
            go_wp2_with fail
            refine (noneF _).mono ?_
            rintro e w2 ⟨rfl, hb2⟩
            have HB2 := Lib.hid (HB1.out.trans (hb2.mono HB1.out.size))
            have hfz := (HF00.out.below HB2.out).frozen
            obtain ⟨f0, f1, f2⟩ := (HF00.out.below HB2.out).cells
            clear hb2
            go_wp2_with fail
            exact bodyPost_ret (v := .tuple #[.int .i64 0, .agg #[.int .i64 0, .bool false, .int .i64 0]]) (by simp [results, Tryd.results43, go_sem, f0, f1, f2]) rfl ⟨by rw [HRES.out]; rfl, below3 (HA.out.trans (HB2.out.mono HA.out.size)) HLE.out _ _ _⟩
          · have e1 : (kind == 1) = false := by simpa using q1
            by_cases q3 : kind = 3
            · subst q3
              rw [if_pos rfl] at HNK HNN
              by_cases hge : k ≤ next
              · have HRES := Lib.hid (HK.out.trans (HNK.out (by decide) hge))
                clear HNS HNB HNO HNK HNN HK
                go_wp2_with fail
                refine HRY.out.mono ?_
                rintro e w1 ⟨rfl, hb1⟩
                have hal : Below w1.heap.size w1 (w1.alloc (.cells #[.int .i64 3, .int .i64 txn, .int .i64 page, .int .i64 prev, .int .i64 next, .int .i64 key, .bool had, .bool has, .int .i64 old, .int .i64 new] 33)) := (Below.refl _ _).alloc (Nat.le_refl _) _
                have HB1 := Lib.hid (HBR.out.trans ((hb1.trans (hal.mono hb1.size)).mono HBR.out.size))
                clear hb1 hal
                go_wp2_with fail
                refine (placed 108 k (by omega) _).mono ?_
                rintro e w2 ⟨rfl, hb2⟩
                have HB2 := Lib.hid (HB1.out.trans (hb2.mono HB1.out.size))
                have hfz := (HF00.out.below HB2.out).frozen
                obtain ⟨f0, f1, f2⟩ := (HF00.out.below HB2.out).cells
                clear hb2
                go_wp2_with fail
                exact bodyPost_ret (v := .tuple #[.int .i64 0, .agg #[.int .i64 108, .bool true, .int .i64 k]]) (by simp [results, Tryd.results43, go_sem, f0, f1, f2]) rfl ⟨by rw [HRES.out]; rfl, below3 (HA.out.trans (HB2.out.mono HA.out.size)) HLE.out _ _ _⟩
              · have hlt : next < k := by omega
                have HRES := Lib.hid (HK.out.trans (HNN.out (by decide) hlt))
                clear HNS HNB HNO HNK HNN HK hge
                go_wp2_with fail
                refine HRY.out.mono ?_
                rintro e w1 ⟨rfl, hb1⟩
                have hal : Below w1.heap.size w1 (w1.alloc (.cells #[.int .i64 3, .int .i64 txn, .int .i64 page, .int .i64 prev, .int .i64 next, .int .i64 key, .bool had, .bool has, .int .i64 old, .int .i64 new] 33)) := (Below.refl _ _).alloc (Nat.le_refl _) _
                have HB1 := Lib.hid (HBR.out.trans ((hb1.trans (hal.mono hb1.size)).mono HBR.out.size))
                clear hb1 hal
                go_wp2_with fail
                go_roundw
                case rel => exact ⟨next, rfl, by omega, by omega, HRES, HB1⟩
                case measure => simp [intOf]; omega
            · have e3 : (kind == 3) = false := by simpa using q3
              rw [if_neg q3] at HNK HNN
              by_cases q4 : kind = 4
              · subst q4
                by_cases hge : k ≤ prev
                · have HRES := Lib.hid (HK.out.trans (HNK.out (by decide) hge))
                  clear HNS HNB HNO HNK HNN HK
                  go_wp2_with fail
                  refine HRY.out.mono ?_
                  rintro e w1 ⟨rfl, hb1⟩
                  have hal : Below w1.heap.size w1 (w1.alloc (.cells #[.int .i64 4, .int .i64 txn, .int .i64 page, .int .i64 prev, .int .i64 next, .int .i64 key, .bool had, .bool has, .int .i64 old, .int .i64 new] 33)) := (Below.refl _ _).alloc (Nat.le_refl _) _
                  have HB1 := Lib.hid (HBR.out.trans ((hb1.trans (hal.mono hb1.size)).mono HBR.out.size))
                  clear hb1 hal
                  go_wp2_with fail
                  refine (placed 108 k (by omega) _).mono ?_
                  rintro e w2 ⟨rfl, hb2⟩
                  have HB2 := Lib.hid (HB1.out.trans (hb2.mono HB1.out.size))
                  have hfz := (HF00.out.below HB2.out).frozen
                  obtain ⟨f0, f1, f2⟩ := (HF00.out.below HB2.out).cells
                  clear hb2
                  go_wp2_with fail
                  exact bodyPost_ret (v := .tuple #[.int .i64 0, .agg #[.int .i64 108, .bool true, .int .i64 k]]) (by simp [results, Tryd.results43, go_sem, f0, f1, f2]) rfl ⟨by rw [HRES.out]; rfl, below3 (HA.out.trans (HB2.out.mono HA.out.size)) HLE.out _ _ _⟩
                · have hlt : prev < k := by omega
                  have HRES := Lib.hid (HK.out.trans (HNN.out (by decide) hlt))
                  clear HNS HNB HNO HNK HNN HK hge
                  go_wp2_with fail
                  refine HRY.out.mono ?_
                  rintro e w1 ⟨rfl, hb1⟩
                  have hal : Below w1.heap.size w1 (w1.alloc (.cells #[.int .i64 4, .int .i64 txn, .int .i64 page, .int .i64 prev, .int .i64 next, .int .i64 key, .bool had, .bool has, .int .i64 old, .int .i64 new] 33)) := (Below.refl _ _).alloc (Nat.le_refl _) _
                  have HB1 := Lib.hid (HBR.out.trans ((hb1.trans (hal.mono hb1.size)).mono HBR.out.size))
                  clear hb1 hal
                  go_wp2_with fail
                  go_roundw
                  case rel => exact ⟨prev, rfl, by omega, by omega, HRES, HB1⟩
                  case measure => simp [intOf]; omega
              · have e4 : (kind == 4) = false := by simpa using q4
                by_cases q5 : kind = 5
                · subst q5
                  by_cases hge : k ≤ prev
                  · have HRES := Lib.hid (HK.out.trans (HNK.out (by decide) hge))
                    clear HNS HNB HNO HNK HNN HK
                    go_wp2_with fail
                    refine HRY.out.mono ?_
                    rintro e w1 ⟨rfl, hb1⟩
                    have hal : Below w1.heap.size w1 (w1.alloc (.cells #[.int .i64 5, .int .i64 txn, .int .i64 page, .int .i64 prev, .int .i64 next, .int .i64 key, .bool had, .bool has, .int .i64 old, .int .i64 new] 33)) := (Below.refl _ _).alloc (Nat.le_refl _) _
                    have HB1 := Lib.hid (HBR.out.trans ((hb1.trans (hal.mono hb1.size)).mono HBR.out.size))
                    clear hb1 hal
                    go_wp2_with fail
                    refine (placed 108 k (by omega) _).mono ?_
                    rintro e w2 ⟨rfl, hb2⟩
                    have HB2 := Lib.hid (HB1.out.trans (hb2.mono HB1.out.size))
                    have hfz := (HF00.out.below HB2.out).frozen
                    obtain ⟨f0, f1, f2⟩ := (HF00.out.below HB2.out).cells
                    clear hb2
                    go_wp2_with fail
                    exact bodyPost_ret (v := .tuple #[.int .i64 0, .agg #[.int .i64 108, .bool true, .int .i64 k]]) (by simp [results, Tryd.results43, go_sem, f0, f1, f2]) rfl ⟨by rw [HRES.out]; rfl, below3 (HA.out.trans (HB2.out.mono HA.out.size)) HLE.out _ _ _⟩
                  · have hlt : prev < k := by omega
                    have HRES := Lib.hid (HK.out.trans (HNN.out (by decide) hlt))
                    clear HNS HNB HNO HNK HNN HK hge
                    go_wp2_with fail
                    refine HRY.out.mono ?_
                    rintro e w1 ⟨rfl, hb1⟩
                    have hal : Below w1.heap.size w1 (w1.alloc (.cells #[.int .i64 5, .int .i64 txn, .int .i64 page, .int .i64 prev, .int .i64 next, .int .i64 key, .bool had, .bool has, .int .i64 old, .int .i64 new] 33)) := (Below.refl _ _).alloc (Nat.le_refl _) _
                    have HB1 := Lib.hid (HBR.out.trans ((hb1.trans (hal.mono hb1.size)).mono HBR.out.size))
                    clear hb1 hal
                    go_wp2_with fail
                    go_roundw
                    case rel => exact ⟨prev, rfl, by omega, by omega, HRES, HB1⟩
                    case measure => simp [intOf]; omega
                · have e5 : (kind == 5) = false := by simpa using q5
                  have HRES := Lib.hid (HK.out.trans (HNO.out q1 q2 (by omega)))
                  clear HNS HNB HNO HNK HNN HK q1 q2 q3 q4 q5
                  go_wp2_with fail
                  refine HRY.out.mono ?_
                  rintro e w1 ⟨rfl, hb1⟩
                  have hal : Below w1.heap.size w1 (w1.alloc (.cells #[.int .i64 kind, .int .i64 txn, .int .i64 page, .int .i64 prev, .int .i64 next, .int .i64 key, .bool had, .bool has, .int .i64 old, .int .i64 new] 33)) := (Below.refl _ _).alloc (Nat.le_refl _) _
                  have HB1 := Lib.hid (HBR.out.trans ((hb1.trans (hal.mono hb1.size)).mono HBR.out.size))
                  clear hb1 hal
                  go_wp2_with fail
                  refine (placed 108 k (by omega) _).mono ?_
                  rintro e w2 ⟨rfl, hb2⟩
                  have HB2 := Lib.hid (HB1.out.trans (hb2.mono HB1.out.size))
                  have hfz := (HF00.out.below HB2.out).frozen
                  obtain ⟨f0, f1, f2⟩ := (HF00.out.below HB2.out).cells
                  clear hb2
                  go_wp2_with fail
                  exact bodyPost_ret (v := .tuple #[.int .i64 0, .agg #[.int .i64 108, .bool true, .int .i64 k]]) (by simp [results, Tryd.results43, go_sem, f0, f1, f2]) rfl ⟨by rw [HRES.out]; rfl, below3 (HA.out.trans (HB2.out.mono HA.out.size)) HLE.out _ _ _⟩

theorem faultBad (c p : Int) (q : Bool) (w : World) : Calls Tryd.prog 75 #[.agg #[.int .i64 c, .bool q, .int .i64 p]] w fun e w' => e = .returned (.bool (c != 0)) ∧ Below w.heap.size w w' := by
  have HB : Hid (∀ o, Below w.heap.size w (w.alloc o)) := Lib.hid fun o => (Below.refl _ _).alloc (Nat.le_refl _) o
  go_enter Tryd.func75, Tryd.ntmps75
  go_wp2_with fail
  go_ret
  exact ⟨rfl, HB.out _⟩

/-- what Chain leaves -/
def ChainRPost (w : World) (x : List Int × Option Int) (e : Ending) (w' : World) : Prop :=
  Below w.heap.size w w' ∧ ∃ o cap, e = .returned (.tuple #[.slice o x.1.length cap, faultV x.2]) ∧ Ns .i64 w' (.slice o x.1.length cap) x.1

theorem norm_err {base : Int} {L : List RecD} {lsn p : Int} {k : Int} (hb : 0 ≤ base) : ∀ n : Nat, lsn.toNat < n → norm base L lsn = (k, some p) → k = 0 := by
  intro n
  induction n generalizing lsn with
  | zero => intro h; omega
  | succ n ih =>
    intro hn hk
    by_cases h0 : lsn = 0
    · rw [h0, norm_zero] at hk; simp at hk
    · cases hr : recAtN base L lsn with
      | none => rw [norm_none h0 hr] at hk; simp at hk; exact hk.1.symm
      | some r =>
        have hlt := recAtN_lt hr
        by_cases h2 : r.kind = 2
        · rw [norm_set h0 hr h2] at hk; simp at hk
        · by_cases h1 : r.kind = 1
          · rw [norm_begin h0 hr h1] at hk; simp at hk
          · by_cases h3 : goesOn r
            · by_cases hge : lsn ≤ onOf r
              · rw [norm_back h0 hr h3 hge] at hk; simp at hk; exact hk.1.symm
              · rw [norm_on hb h0 hr h3 (by omega)] at hk
                exact ih (by omega) hk
            · rw [norm_other h0 hr h1 h2 h3] at hk; simp at hk; exact hk.1.symm

def faultCs : Option Int → Array Value
  | none => #[.int .i64 0, .bool false, .int .i64 0]
  | some p => #[.int .i64 108, .bool true, .int .i64 p]

set_option maxRecDepth 20000 in
set_option maxHeartbeats 4000000 in
theorem refChain {w : World} {X : Nat} {c : LogC} {v : Value} {L : List RecD} (h : Lg 133 w X c v L) (lsn : Int) (hl1 : -9223372036854775808 ≤ lsn) (hl2 : lsn ≤ 9223372036854775807) :
    Calls Tryd.prog 44 #[.pointer (some ⟨X, 0, none⟩), .int .i64 lsn] w (ChainRPost w (chain c.base L [] lsn)) := by
  obtain ⟨W, hW⟩ : ∃ W, W = w.alloc (.cells #[.int .i64 0, .bool false, .int .i64 0] 66) := ⟨_, rfl⟩
  have hbw : Below w.heap.size w W := by rw [hW]; exact (Below.refl _ _).alloc (Nat.le_refl _) _
  have HF0 : Hid (FW w.heap.size #[.int .i64 0, .bool false, .int .i64 0] W) := by rw [hW]; exact FW.new w _
  have HW := Lib.hid hW
  have HA := Lib.hid hbw
  obtain ⟨A, hA⟩ : ∃ A, A = w.heap.size := ⟨_, rfl⟩
  have HSA := Lib.hid hA
  have HLE : Hid (w.heap.size ≤ A) := Lib.hid (by rw [hA]; exact Nat.le_refl _)
  have HLG := Lib.hid (h.below hbw)
  have HB0 := Lib.hid h.ok.b0
  have HLEN := Lib.hid h.len
  obtain ⟨b, hb⟩ : ∃ b, b = c.base := ⟨_, rfl⟩
  have HBB := Lib.hid hb
  rw [← hb] at HB0 ⊢
  have HWL := Lib.hid h.own.1
  clear h hb hW hbw
  obtain ⟨res, hres⟩ : ∃ x, x = chain b L [] lsn := ⟨_, rfl⟩
  rw [← hres]
  have H0 : Hid (res = chain b L [] lsn) := Lib.hid hres
  have HF00 : Hid (FW A #[.int .i64 0, .bool false, .int .i64 0] W) := by rw [hA]; exact HF0
  have hnorm := refNorm HLG.out lsn hl1 hl2
  rw [← HBB.out] at hnorm
  have HNM := Lib.hid hnorm
  clear hres hA HF0 hnorm
  go_enter Tryd.func44, Tryd.ntmps44
  go_upto_region 2 with fail
  rw [← HW.out, ← HSA.out]
  obtain ⟨at0, hat0⟩ : ∃ x, x = (norm b L lsn).1 := ⟨_, rfl⟩
  obtain ⟨nx0, hnx0⟩ : ∃ x, x = (norm b L lsn).2 := ⟨_, rfl⟩
  rw [← hat0, ← hnx0] at HNM
  have HN0 : Hid (norm b L lsn = (at0, nx0)) := Lib.hid (by rw [hat0, hnx0])
  clear hat0 hnx0
  go_cut [7, 8] from 9 to 48 (fun s7 s8 wx => ∃ Fb, s7 = .int .i64 at0 ∧ s8 = .pointer (some ⟨Fb, 0, none⟩) ∧ Hid (Below W.heap.size W wx) ∧ Hid (FW Fb (faultCs nx0) wx) ∧ Hid (W.heap.size ≤ Fb))
  case first =>
    cases nx0 with
    | none =>
      go_wp2_with fail
      refine HNM.out.mono ?_
      clear HNM
      rintro e w1 ⟨rfl, hb1⟩
      dsimp only [faultV, faultCs]
      have HB2 := Lib.hid (hb1.alloc hb1.size (.cells #[.int .i64 0, .bool false, .int .i64 0] 66))
      have HFW2 := Lib.hid (FW.new w1 #[.int .i64 0, .bool false, .int .i64 0])
      have HFS := Lib.hid hb1.size
      clear hb1
      go_wp2_with fail
      go_meet
      exact ⟨_, rfl, rfl, HB2, HFW2, HFS⟩
    | some p =>
      go_wp2_with fail
      refine HNM.out.mono ?_
      clear HNM
      rintro e w1 ⟨rfl, hb1⟩
      dsimp only [faultV, faultCs]
      have HB2 := Lib.hid (hb1.alloc hb1.size (.cells #[.int .i64 108, .bool true, .int .i64 p] 66))
      have HFW2 := Lib.hid (FW.new w1 #[.int .i64 108, .bool true, .int .i64 p])
      have HFS := Lib.hid hb1.size
      clear hb1
      go_wp2_with fail
      go_meet
      exact ⟨_, rfl, rfl, HB2, HFW2, HFS⟩
  obtain ⟨Fb, rfl, rfl, HB2, HFW2, HFS⟩ := hcut
  generalize wc = w2 at HB2 HFW2 ⊢
  have HFB : Hid (Fb < w2.heap.size) := Lib.hid (Array.getElem?_eq_some_iff.1 HFW2.out).1
  clear HNM
  go_wp2_with fail
  go_loopw [6, 7] (fun u s wr => ∃ at1 nx k l o n cap, s = .int .i64 at1 ∧ u = .slice o n cap ∧ n = l.length ∧ Hid (norm b L k = (at1, nx)) ∧ Hid (FW Fb (faultCs nx) wr) ∧ Hid (Oi (Fb + 1) wr (.slice o n cap) l) ∧ Hid (res = chain b L l k) ∧ Hid (l.length = 0 ∨ k + l.length ≤ b + L.length) ∧ Hid (Below W.heap.size W wr)) (fun _ s _ => (intOf s).toNat)
  case atStart => exact ⟨at0, nx0, lsn, [], none, 0, 0, rfl, rfl, rfl, HN0, HFW2, Lib.hid Oi.nil, H0, Lib.hid (.inl rfl), HB2⟩
  case round =>
    obtain ⟨at1, nx, k, l, o, n, cap, rfl, rfl, hn, HNK, HFR, HO, HK, HQ, HBR⟩ := hrel
    have HN := Lib.hid hn
    clear H0 hl1 hl2 hn HN0 HFW2 HB2
    have hfz := HFR.out.frozen
    cases nx with
    | some p =>
      dsimp only [faultCs] at HFR
      have HRES : Hid (res = ([], some p)) := Lib.hid (HK.out.trans (chain_bad HNK.out))
      obtain ⟨c0, c1, c2⟩ := HFR.out.cells
      clear HK HNK HQ HO
      go_wp2_with fail
      refine (faultBad 108 p true _).mono ?_
      rintro e w3 ⟨rfl, hb3⟩
      have HB3 := Lib.hid (HBR.out.trans (hb3.mono HBR.out.size))
      have HF3 := Lib.hid (HFR.out.below hb3)
      obtain ⟨d0, d1, d2⟩ := HF3.out.cells
      clear hb3 c0 c1 c2
      go_wp2_with fail
      refine (faultBad 108 p true _).mono ?_
      rintro e w4 ⟨rfl, hb4⟩
      have HB4 := Lib.hid (HB3.out.trans (hb4.mono HB3.out.size))
      have HF4 := Lib.hid (HF3.out.below hb4)
      obtain ⟨c0, c1, c2⟩ := HF4.out.cells
      obtain ⟨f0, f1, f2⟩ := (HF00.out.below HB4.out).cells
      have hfz2 := (HF00.out.below HB4.out).frozen
      clear hb4 d0 d1 d2
      go_wp2_with fail
      go_region
      go_wp2_with fail
      exact bodyPost_ret (v := .tuple #[.slice none 0 0, .agg #[.int .i64 108, .bool true, .int .i64 p]]) (by simp [results, Tryd.results44, go_sem, f0, f1, f2]) rfl ⟨(below3 (HA.out.trans (HB4.out.mono HA.out.size)) HLE.out _ _ _).drew, none, 0, by rw [HRES.out]; rfl, by rw [HRES.out]; exact Ns.nil _ _⟩
    | none =>
      dsimp only [faultCs] at HFR
      obtain ⟨c0, c1, c2⟩ := HFR.out.cells
      by_cases h0 : at1 = 0
      · subst h0
        have HRES : Hid (res = (l, none)) := Lib.hid (HK.out.trans (chain_end HNK.out))
        clear HK HNK HQ
        go_wp2_with fail
        refine (faultBad 0 0 false _).mono ?_
        rintro e w3 ⟨rfl, hb3⟩
        have HB3 := Lib.hid (HBR.out.trans (hb3.mono HBR.out.size))
        have HF3 := Lib.hid (HFR.out.below hb3)
        have HO3 := Lib.hid (HO.out.below hb3)
        obtain ⟨d0, d1, d2⟩ := HF3.out.cells
        clear hb3 c0 c1 c2
        go_wp2_with fail
        refine (faultBad 0 0 false _).mono ?_
        rintro e w4 ⟨rfl, hb4⟩
        have HB4 := Lib.hid (HB3.out.trans (hb4.mono HB3.out.size))
        have HF4 := Lib.hid (HF3.out.below hb4)
        have HO4 := Lib.hid (HO3.out.below hb4)
        obtain ⟨c0, c1, c2⟩ := HF4.out.cells
        obtain ⟨f0, f1, f2⟩ := (HF00.out.below HB4.out).cells
        have hfz2 := (HF00.out.below HB4.out).frozen
        have HNE : Hid (∀ b, (Value.slice o n cap).ownBlock = some b → b ≠ A) := Lib.hid (fun bb hb => by
          have h1 := (HO4.out.lt hb).1
          have h2 := HFS.out
          have h3 := HF00.out
          have h4 := (Array.getElem?_eq_some_iff.1 h3).1
          omega)
        clear hb4 d0 d1 d2
        go_wp2_with fail
        go_region
        go_wp2_with fail
        refine bodyPost_ret (v := .tuple #[.slice o n cap, .agg #[.int .i64 0, .bool false, .int .i64 0]]) (by simp [results, Tryd.results44, go_sem, f0, f1, f2]) rfl ⟨(below3 (HA.out.trans (HB4.out.mono HA.out.size)) HLE.out _ _ _).drew, o, cap, by rw [HRES.out, HN.out]; rfl, ?_⟩
        rw [HRES.out]
        dsimp only
        rw [← HN.out]
        exact HO4.out.ns.same fun bb hb => by
          have hne := HNE.out bb hb
          show ((((w4.setCell ⟨A, 0, none⟩ _).setCell ⟨A, 1, none⟩ _).setCell ⟨A, 2, none⟩ _).heap[bb]?) = _
          rw [setCell_otherR _ _ _ hne, setCell_otherR _ _ _ hne, setCell_otherR _ _ _ hne]
      · have e0 : (at1 != 0) = true := by simpa using h0
        obtain ⟨hle, hbk, r, hr, hkind⟩ := (norm_found HB0.out _ k (Nat.lt_succ_self _) at1 HNK.out).resolve_left h0
        have hlt := recAtN_lt hr
        have hrW : r.W := HWL.out r (List.mem_of_getElem? (recAtN_idx hr).choose_spec.2.2)
        have hb0 := HB0.out
        have hll := HLEN.out
        have hlen : l.length + 1 ≤ L.length := by have := HQ.out; omega
        have hwf : (Lit.int .i64 at1).wf = true := wf_of_i64 (by
          have := (recAtN_idx hr).choose_spec.1; omega) (by have := HLG.out.ok.b1; have := HBB.out; omega)
        have hprev : prevN b L at1 = r.prev := by unfold prevN; rw [hr]; rfl
        have HRL : Hid (at1 ≤ r.prev → res = ([], some at1)) := Lib.hid fun hge => HK.out.trans (chain_loop HNK.out h0 (by rw [hprev]; exact hge))
        have HRO : Hid (r.prev < at1 → res = chain b L (l ++ [at1]) r.prev) := Lib.hid fun hlt => by
          have h := chain_on (out := l) HB0.out HNK.out h0 (by rw [hprev]; exact hlt)
          rw [hprev] at h
          exact HK.out.trans h
        have HQ2 : Hid (r.prev < at1 → (l ++ [at1]).length = 0 ∨ r.prev + (l ++ [at1]).length ≤ b + L.length) := Lib.hid fun hlt => by
          right
          have := HQ.out
          rw [List.length_append]
          simp only [List.length_cons, List.length_nil]
          omega
        have hkp : 0 < at1 := by omega
        have HNP : Hid (r.prev < at1 → (norm b L r.prev).1 < at1) := Lib.hid fun hlt => by
          cases hx : norm b L r.prev with
          | mk k1 e1 =>
            cases e1 with
            | some p1 => rw [norm_err HB0.out _ (Nat.lt_succ_self _) hx]; exact hkp
            | none =>
              rcases norm_found HB0.out _ _ (Nat.lt_succ_self _) _ hx with h | ⟨h, _⟩
              · rw [h]; exact hkp
              · exact Int.lt_of_le_of_lt h hlt
        have HRY := Lib.hid (fun W' (hb : Below W.heap.size W W') => refRecYes (HLG.out.below hb) at1 r (by rw [← HBB.out]; exact hr))
        have HRN := Lib.hid (fun W' (hb : Below W.heap.size W W') => refNorm (HLG.out.below hb) r.prev hrW.prev.1 hrW.prev.2)
        have HWF := Lib.hid hwf
        have HLL := Lib.hid hlen
        have HL2 : Hid (n ≤ 100000) := Lib.hid (by have := HN.out; omega)
        clear hr hrW hlt hlen hwf hprev h0 hkind HQ HK HNK hle hbk hll hb0
        obtain ⟨kind, txn, page, prev, next, key, had, has, old, new⟩ := r
        dsimp only [recV] at HRY HRL HRO HQ2 HNP HRN
        go_wp2_with fail
        refine (faultBad 0 0 false _).mono ?_
        rintro e w3 ⟨rfl, hb3⟩
        have HB3 := Lib.hid (HBR.out.trans (hb3.mono HBR.out.size))
        have HF3 := Lib.hid (HFR.out.below hb3)
        have HO3 := Lib.hid (HO.out.below hb3)
        have hbase : Fb + 1 ≤ w3.heap.size := by have := (Array.getElem?_eq_some_iff.1 HF3.out).1; omega
        obtain ⟨gb, cap2, w4, hrun, ho4, hg4, _, _, hcap2, hcap3⟩ := HO3.out.append1 at1 HWF.out hbase (by have := HL2.out; have := HN.out; omega) 3 22
        have hal : Below w3.heap.size w3 (w3.alloc (.cells #[.int .i64 at1] 3)) := (Below.refl _ _).alloc (Nat.le_refl _) _
        have HB4 : Hid (Below W.heap.size W w4) := Lib.hid ((HO3.out.below hal).grown hg4 (HB3.out.alloc HB3.out.size _) (by have := HFS.out; omega) (by have := HB3.out.size; simp; omega))
        have HF4 : Hid (FW Fb #[.int .i64 0, .bool false, .int .i64 0] w4) := Lib.hid (by
          have hfa := HF3.out.below hal
          unfold FW at hfa ⊢
          rw [hg4.block Fb (Array.getElem?_eq_some_iff.1 hfa).1 (fun e => by have := (HO3.out.lt e.symm).1; omega)]
          exact hfa)
        have HO4 := Lib.hid ho4
        have HN2 : Hid (l.length + 1 = (l ++ [at1]).length) := Lib.hid (by simp)
        rw [← HN.out] at hrun HO4 hcap2 HN2
        unfold maxLen at hcap3
        clear hb3 c0 c1 c2 ho4 hg4 hal HO3 HO HF3 hbase HFR hfz
        go_wp2_with (at_builtin; refine Lib.wpList_append_run _ rfl _ _ _ _ rfl _ _ rfl rfl _ _ hrun ?_)
        refine (HRY.out _ HB4.out).mono ?_
        clear HRY hrun
        rintro e w5 ⟨rfl, hb5⟩
        have hal5 : Below w5.heap.size w5 (w5.alloc (.cells #[.int .i64 kind, .int .i64 txn, .int .i64 page, .int .i64 prev, .int .i64 next, .int .i64 key, .bool had, .bool has, .int .i64 old, .int .i64 new] 33)) := (Below.refl _ _).alloc (Nat.le_refl _) _
        have hb6 := hb5.trans (hal5.mono hb5.size)
        have HB6 := Lib.hid (HB4.out.trans (hb6.mono HB4.out.size))
        have HF6 := Lib.hid (HF4.out.below hb6)
        have HO6 := Lib.hid (HO4.out.below hb6)
        clear hb5 hal5 hb6 HB4 HF4 HO4 HB3
        by_cases hge : at1 ≤ prev
        · have HRES := Lib.hid (HRL.out hge)
          clear HRL HRO HQ2 HNP HRN
          go_wp2_with fail
          refine (placed 108 at1 (by omega) _).mono ?_
          rintro e w7 ⟨rfl, hb7⟩
          have HB7 := Lib.hid (HB6.out.trans (hb7.mono HB6.out.size))
          obtain ⟨f0, f1, f2⟩ := (HF00.out.below HB7.out).cells
          have hfz2 := (HF00.out.below HB7.out).frozen
          clear hb7
          go_wp2_with fail
          exact bodyPost_ret (v := .tuple #[.slice none 0 0, .agg #[.int .i64 108, .bool true, .int .i64 at1]]) (by simp [results, Tryd.results44, go_sem, f0, f1, f2]) rfl ⟨below3 (HA.out.trans (HB7.out.mono HA.out.size)) HLE.out _ _ _, none, 0, by rw [HRES.out]; rfl, by rw [HRES.out]; exact Ns.nil _ _⟩
        · have hlt : prev < at1 := by omega
          have HRES := Lib.hid (HRO.out hlt)
          have HQ3 := Lib.hid (HQ2.out hlt)
          have HNP3 := Lib.hid (HNP.out hlt)
          have hrn := HRN.out _ HB6.out
          rw [← HBB.out] at hrn
          obtain ⟨at2, hat2⟩ : ∃ x, x = (norm b L prev).1 := ⟨_, rfl⟩
          obtain ⟨nx2, hnx2⟩ : ∃ x, x = (norm b L prev).2 := ⟨_, rfl⟩
          rw [← hat2, ← hnx2] at hrn
          have HNN : Hid (norm b L prev = (at2, nx2)) := Lib.hid (by rw [hat2, hnx2])
          have hnp : at2 < at1 := by rw [hat2]; exact HNP3.out
          have HRN2 := Lib.hid hrn
          clear HRL HRO HQ2 hge hrn hat2 hnx2 HRN HNP HNP3
          go_wp2_with fail
          refine HRN2.out.mono ?_
          clear HRN2
          rintro e w7 ⟨rfl, hb7⟩
          have HB7 := Lib.hid (HB6.out.trans (hb7.mono HB6.out.size))
          have HF7 := Lib.hid (HF6.out.below hb7)
          have HO7 := Lib.hid (HO6.out.below hb7)
          obtain ⟨c0, c1, c2⟩ := HF7.out.cells
          have hfz := HF7.out.frozen
          clear hb7 HB6 HF6 HO6
          cases nx2 with
          | none =>
            dsimp only [faultV]
            have HF8 : Hid (FW Fb (faultCs none) _) := Lib.hid (HF7.out.put (.int .i64 0) (.bool false) (.int .i64 0))
            have HB8 := Lib.hid (below3 HB7.out (A := Fb) HFS.out (.int .i64 0) (.bool false) (.int .i64 0))
            have HO8 := Lib.hid (HO7.out.same (w' := ((w7.setCell ⟨Fb, 0, none⟩ (.int .i64 0)).setCell ⟨Fb, 1, none⟩ (.bool false)).setCell ⟨Fb, 2, none⟩ (.int .i64 0)) fun bb hb => by
              have hne : bb ≠ Fb := by have := (HO7.out.lt hb).1; omega
              rw [setCell_otherR _ _ _ hne, setCell_otherR _ _ _ hne, setCell_otherR _ _ _ hne])
            clear HF7 HB7 HO7
            go_wp2_with fail
            go_roundw
            case rel => exact ⟨at2, none, prev, l ++ [at1], _, _, _, rfl, rfl, HN2.out, HNN, HF8, HO8, HRES, HQ3, HB8⟩
            case measure => simp [intOf]; omega
          | some p =>
            dsimp only [faultV]
            have HF8 : Hid (FW Fb (faultCs (some p)) _) := Lib.hid (HF7.out.put (.int .i64 108) (.bool true) (.int .i64 p))
            have HB8 := Lib.hid (below3 HB7.out (A := Fb) HFS.out (.int .i64 108) (.bool true) (.int .i64 p))
            have HO8 := Lib.hid (HO7.out.same (w' := ((w7.setCell ⟨Fb, 0, none⟩ (.int .i64 108)).setCell ⟨Fb, 1, none⟩ (.bool true)).setCell ⟨Fb, 2, none⟩ (.int .i64 p)) fun bb hb => by
              have hne : bb ≠ Fb := by have := (HO7.out.lt hb).1; omega
              rw [setCell_otherR _ _ _ hne, setCell_otherR _ _ _ hne, setCell_otherR _ _ _ hne])
            clear HF7 HB7 HO7
            go_wp2_with fail
            go_roundw
            case rel => exact ⟨at2, some p, prev, l ++ [at1], _, _, _, rfl, rfl, HN2.out, HNN, HF8, HO8, HRES, HQ3, HB8⟩
            case measure => simp [intOf]; omega
end Go.Proofs.YtccfiohcblecoaaDoor
