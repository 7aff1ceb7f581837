/- Contract: the document's Norm. -/
import Derived.Test.YtccfiohcblecoaaDoorChN
import Derived.Test.YtccfiohcblecoaaDoorRefB
namespace Go.Proofs.YtccfiohcblecoaaDoor
open Go.RowKit
set_option linter.unusedVariables false

/-- a block of a fault's three cells -/
def FW (A : Nat) (cs : Array Value) (w : World) : Prop := w.heap[A]? = some (.cells cs 66 (0, 0))
theorem FW.below {A : Nat} {cs : Array Value} {w w' : World} (h : FW A cs w) (hb : Below w.heap.size w w') : FW A cs w' := by
  unfold FW; rw [hb.block _ (Array.getElem?_eq_some_iff.1 h).1]; exact h
theorem FW.frozen {A : Nat} {cs : Array Value} {w : World} (h : FW A cs w) (i : Nat) : w.frozen? ⟨A, i, none⟩ = false := rowFrozen h i
theorem FW.new (w : World) (cs : Array Value) : FW w.heap.size cs (w.alloc (.cells cs 66)) := heap_alloc_new w _
theorem FW.cells {A : Nat} {w : World} {c0 c1 c2 : Value} (h : FW A #[c0, c1, c2] w) : w.cell? ⟨A, 0, none⟩ = some c0 ∧ w.cell? ⟨A, 1, none⟩ = some c1 ∧ w.cell? ⟨A, 2, none⟩ = some c2 := by
  refine ⟨?_, ?_, ?_⟩ <;> rw [cell_of_row w A _ _ _ (0, 0) h] <;> rfl
theorem FW.put {A : Nat} {w : World} {c0 c1 c2 : Value} (h : FW A #[c0, c1, c2] w) (d0 d1 d2 : Value) : FW A #[d0, d1, d2] (((w.setCell ⟨A, 0, none⟩ d0).setCell ⟨A, 1, none⟩ d1).setCell ⟨A, 2, none⟩ d2) := by
  have h0 := setCell_rowR h 0 d0
  have h1 := setCell_rowR h0 1 d1
  have h2 := setCell_rowR h1 2 d2
  unfold FW
  rw [h2]; simp
theorem below3 {base : Nat} {w0 W : World} (h : Below base w0 W) {A : Nat} (hA : base ≤ A) (v0 v1 v2 : Value) : Below base w0 (((W.setCell ⟨A, 0, none⟩ v0).setCell ⟨A, 1, none⟩ v1).setCell ⟨A, 2, none⟩ v2) :=
  ((h.setCell (p := ⟨A, 0, none⟩) hA v0).setCell (p := ⟨A, 1, none⟩) hA v1).setCell (p := ⟨A, 2, none⟩) hA v2

/-- the fault as a value -/
def faultV : Option Int → Value
  | none => .agg #[.int .i64 0, .bool false, .int .i64 0]
  | some p => .agg #[.int .i64 108, .bool true, .int .i64 p]

set_option maxRecDepth 20000 in
set_option maxHeartbeats 4000000 in
theorem refNorm {w : World} {X : Nat} {c : LogC} {v : Value} {L : List RecD} (h : Lg 133 w X c v L) (lsn : Int) (hl1 : -9223372036854775808 ≤ lsn) (hl2 : lsn ≤ 9223372036854775807) :
    Calls Tryd.prog 43 #[.pointer (some ⟨X, 0, none⟩), .int .i64 lsn] w fun e w' => e = .returned (.tuple #[.int .i64 (norm c.base L lsn).1, faultV (norm c.base L lsn).2]) ∧ Below w.heap.size w w' := by
  obtain ⟨W, hW⟩ : ∃ W, W = w.alloc (.cells #[.int .i64 0, .bool false, .int .i64 0] 66) := ⟨_, rfl⟩
  have hbw : Below w.heap.size w W := by rw [hW]; exact (Below.refl _ _).alloc (Nat.le_refl _) _
  have HF0 : Hid (FW w.heap.size #[.int .i64 0, .bool false, .int .i64 0] W) := by rw [hW]; exact FW.new w _
  have HW := Lib.hid hW
  have HA := Lib.hid hbw
  obtain ⟨A, hA⟩ : ∃ A, A = w.heap.size := ⟨_, rfl⟩
  have HSA := Lib.hid hA
  have HLE : Hid (w.heap.size ≤ A) := Lib.hid (by rw [hA]; exact Nat.le_refl _)
  have HLG := Lib.hid (h.below hbw)
  have HB0 := Lib.hid h.ok.b0
  obtain ⟨b, hb⟩ : ∃ b, b = c.base := ⟨_, rfl⟩
  have HBB := Lib.hid hb
  rw [← hb] at HB0 ⊢
  have HWL := Lib.hid h.own.1
  clear h hb hW hbw
  obtain ⟨res, hres⟩ : ∃ x, x = norm b L lsn := ⟨_, rfl⟩
  rw [← hres]
  have H0 : Hid (res = norm b L lsn) := Lib.hid hres
  have HF00 : Hid (FW A #[.int .i64 0, .bool false, .int .i64 0] W) := by rw [hA]; exact HF0
  clear hres hA HF0
  go_enter Tryd.func43, Tryd.ntmps43
  go_wp2_with fail
  rw [← HW.out, ← HSA.out]
  go_loopw [1] (fun s wr => ∃ k : Int, s = .int .i64 k ∧ -9223372036854775808 ≤ k ∧ k ≤ 9223372036854775807 ∧ Hid (res = norm b L k) ∧ Hid (Below W.heap.size W wr)) (fun s _ => (intOf s).toNat)
  case atStart => exact ⟨lsn, rfl, hl1, hl2, H0, Lib.hid (Below.refl _ _)⟩
  case round =>
    obtain ⟨k, rfl, hk1, hk2, HK, HBR⟩ := hrel
    clear H0 hl1 hl2
    by_cases h0 : k = 0
    · subst h0
      have HRES : Hid (res = (0, none)) := Lib.hid (HK.out.trans (norm_zero _ _))
      have HB1 := HBR
      go_wp2_with fail
      refine (noneF _).mono ?_
      rintro e w2 ⟨rfl, hb2⟩
      have HB2 := Lib.hid (HB1.out.trans (hb2.mono HB1.out.size))
      have hfz := (HF00.out.below HB2.out).frozen
      obtain ⟨f0, f1, f2⟩ := (HF00.out.below HB2.out).cells
      clear hb2
      go_wp2_with fail
      exact bodyPost_ret (v := .tuple #[.int .i64 0, .agg #[.int .i64 0, .bool false, .int .i64 0]]) (by simp [results, Tryd.results43, go_sem, f0, f1, f2]) rfl ⟨by rw [HRES.out]; rfl, below3 (HA.out.trans (HB2.out.mono HA.out.size)) HLE.out _ _ _⟩
    · have e0 : (k != 0) = true := by simpa using h0
      have H0 := Lib.hid h0
      clear h0
      cases hr : recAtN b L k with
      | none =>
        have hno : k ≤ b ∨ b + L.length < k := by
          refine Classical.byContradiction fun hc => ?_
          obtain ⟨r, h1, _⟩ := recAtN_some (base := b) (L := L) (lsn := k) (by omega) (by omega)
          rw [hr] at h1; simp at h1
        have HRN := Lib.hid (refRecNo (HLG.out.below HBR.out) k hk1 hk2 (by rw [← HBB.out]; exact hno))
        have HRES : Hid (res = (0, some k)) := Lib.hid (by rw [HK.out]; exact norm_none H0.out hr)
        clear hr hno HK
        go_wp2_with fail
        refine HRN.out.mono ?_
        rintro e w1 ⟨rfl, hb1⟩
        have hal : Below w1.heap.size w1 (w1.alloc (.cells #[.int .i64 0, .int .i64 0, .int .i64 0, .int .i64 0, .int .i64 0, .int .i64 0, .bool false, .bool false, .int .i64 0, .int .i64 0] 33)) := (Below.refl _ _).alloc (Nat.le_refl _) _
        have HB1 := Lib.hid (HBR.out.trans ((hb1.trans (hal.mono hb1.size)).mono HBR.out.size))
        clear hb1 hal
        dsimp only [recV, rec00]
        go_wp2_with fail
        refine (placed 108 k (by omega) _).mono ?_
        rintro e w2 ⟨rfl, hb2⟩
        have HB2 := Lib.hid (HB1.out.trans (hb2.mono HB1.out.size))
        have hfz := (HF00.out.below HB2.out).frozen
        obtain ⟨f0, f1, f2⟩ := (HF00.out.below HB2.out).cells
        clear hb2
        go_wp2_with fail
        exact bodyPost_ret (v := .tuple #[.int .i64 0, .agg #[.int .i64 108, .bool true, .int .i64 k]]) (by simp [results, Tryd.results43, go_sem, f0, f1, f2]) rfl ⟨by rw [HRES.out]; rfl, below3 (HA.out.trans (HB2.out.mono HA.out.size)) HLE.out _ _ _⟩
      | some r =>
        have HR := Lib.hid hr
        have HRY := Lib.hid (refRecYes (HLG.out.below HBR.out) k r (by rw [← HBB.out]; exact hr))
        have hlt := recAtN_lt hr
        have hrW : r.W := HWL.out r (List.mem_of_getElem? (recAtN_idx hr).choose_spec.2.2)
        have HNS := Lib.hid (fun h2 => norm_set H0.out hr h2)
        have HNB := Lib.hid (fun h2 => norm_begin H0.out hr h2)
        have HNO := Lib.hid (fun h1 h2 h3 => norm_other H0.out hr h1 h2 h3)
        have HNK := Lib.hid (fun h1 h2 => norm_back H0.out hr h1 h2)
        have HNN := Lib.hid (fun h1 h2 => norm_on HB0.out H0.out hr h1 h2)
        have hkp : 0 < k := by have := HB0.out; omega
        clear hr HR hlt
        have p1 := hrW.prev
        have p2 := hrW.next
        clear hrW
        obtain ⟨kind, txn, page, prev, next, key, had, has, old, new⟩ := r
        dsimp only [recV, goesOn, onOf, I64] at HRY HNS HNB HNO HNK HNN p1 p2
        obtain ⟨p1a, p1b⟩ := p1
        obtain ⟨p2a, p2b⟩ := p2
        by_cases q2 : kind = 2
        · subst q2
          have HRES := Lib.hid (HK.out.trans (HNS.out rfl))
          clear HNS HNB HNO HNK HNN HK
          go_wp2_with fail
          refine HRY.out.mono ?_
          rintro e w1 ⟨rfl, hb1⟩
          have hal : Below w1.heap.size w1 (w1.alloc (.cells #[.int .i64 2, .int .i64 txn, .int .i64 page, .int .i64 prev, .int .i64 next, .int .i64 key, .bool had, .bool has, .int .i64 old, .int .i64 new] 33)) := (Below.refl _ _).alloc (Nat.le_refl _) _
          have HB1 := Lib.hid (HBR.out.trans ((hb1.trans (hal.mono hb1.size)).mono HBR.out.size))
          clear hb1 hal
          go_wp2_with fail
          refine (noneF _).mono ?_
          rintro e w2 ⟨rfl, hb2⟩
          have HB2 := Lib.hid (HB1.out.trans (hb2.mono HB1.out.size))
          have hfz := (HF00.out.below HB2.out).frozen
          obtain ⟨f0, f1, f2⟩ := (HF00.out.below HB2.out).cells
          clear hb2
          go_wp2_with fail
          exact bodyPost_ret (v := .tuple #[.int .i64 k, .agg #[.int .i64 0, .bool false, .int .i64 0]]) (by simp [results, Tryd.results43, go_sem, f0, f1, f2]) rfl ⟨by rw [HRES.out]; rfl, below3 (HA.out.trans (HB2.out.mono HA.out.size)) HLE.out _ _ _⟩
        · have e2 : (kind == 2) = false := by simpa using q2
          by_cases q1 : kind = 1
          · subst q1
            have HRES := Lib.hid (HK.out.trans (HNB.out rfl))
            clear HNS HNB HNO HNK HNN HK
            go_wp2_with fail
            refine HRY.out.mono ?_
            rintro e w1 ⟨rfl, hb1⟩
            have hal : Below w1.heap.size w1 (w1.alloc (.cells #[.int .i64 1, .int .i64 txn, .int .i64 page, .int .i64 prev, .int .i64 next, .int .i64 key, .bool had, .bool has, .int .i64 old, .int .i64 new] 33)) := (Below.refl _ _).alloc (Nat.le_refl _) _
            have HB1 := Lib.hid (HBR.out.trans ((hb1.trans (hal.mono hb1.size)).mono HBR.out.size))
            clear hb1 hal
            go_wp2_with fail
            refine (noneF _).mono ?_
            rintro e w2 ⟨rfl, hb2⟩
            have HB2 := Lib.hid (HB1.out.trans (hb2.mono HB1.out.size))
            have hfz := (HF00.out.below HB2.out).frozen
            obtain ⟨f0, f1, f2⟩ := (HF00.out.below HB2.out).cells
            clear hb2
            go_wp2_with fail
            exact bodyPost_ret (v := .tuple #[.int .i64 0, .agg #[.int .i64 0, .bool false, .int .i64 0]]) (by simp [results, Tryd.results43, go_sem, f0, f1, f2]) rfl ⟨by rw [HRES.out]; rfl, below3 (HA.out.trans (HB2.out.mono HA.out.size)) HLE.out _ _ _⟩
          · have e1 : (kind == 1) = false := by simpa using q1
            by_cases q3 : kind = 3
            · subst q3
              rw [if_pos rfl] at HNK HNN
              by_cases hge : k ≤ next
              · have HRES := Lib.hid (HK.out.trans (HNK.out (by decide) hge))
                clear HNS HNB HNO HNK HNN HK
                go_wp2_with fail
                refine HRY.out.mono ?_
                rintro e w1 ⟨rfl, hb1⟩
                have hal : Below w1.heap.size w1 (w1.alloc (.cells #[.int .i64 3, .int .i64 txn, .int .i64 page, .int .i64 prev, .int .i64 next, .int .i64 key, .bool had, .bool has, .int .i64 old, .int .i64 new] 33)) := (Below.refl _ _).alloc (Nat.le_refl _) _
                have HB1 := Lib.hid (HBR.out.trans ((hb1.trans (hal.mono hb1.size)).mono HBR.out.size))
                clear hb1 hal
                go_wp2_with fail
                refine (placed 108 k (by omega) _).mono ?_
                rintro e w2 ⟨rfl, hb2⟩
                have HB2 := Lib.hid (HB1.out.trans (hb2.mono HB1.out.size))
                have hfz := (HF00.out.below HB2.out).frozen
                obtain ⟨f0, f1, f2⟩ := (HF00.out.below HB2.out).cells
                clear hb2
                go_wp2_with fail
                exact bodyPost_ret (v := .tuple #[.int .i64 0, .agg #[.int .i64 108, .bool true, .int .i64 k]]) (by simp [results, Tryd.results43, go_sem, f0, f1, f2]) rfl ⟨by rw [HRES.out]; rfl, below3 (HA.out.trans (HB2.out.mono HA.out.size)) HLE.out _ _ _⟩
              · have hlt : next < k := by omega
                have HRES := Lib.hid (HK.out.trans (HNN.out (by decide) hlt))
                clear HNS HNB HNO HNK HNN HK hge
                go_wp2_with fail
                refine HRY.out.mono ?_
                rintro e w1 ⟨rfl, hb1⟩
                have hal : Below w1.heap.size w1 (w1.alloc (.cells #[.int .i64 3, .int .i64 txn, .int .i64 page, .int .i64 prev, .int .i64 next, .int .i64 key, .bool had, .bool has, .int .i64 old, .int .i64 new] 33)) := (Below.refl _ _).alloc (Nat.le_refl _) _
                have HB1 := Lib.hid (HBR.out.trans ((hb1.trans (hal.mono hb1.size)).mono HBR.out.size))
                clear hb1 hal
                go_wp2_with fail
                go_roundw
                case rel => exact ⟨next, rfl, by omega, by omega, HRES, HB1⟩
                case measure => simp [intOf]; omega
            · have e3 : (kind == 3) = false := by simpa using q3
              rw [if_neg q3] at HNK HNN
              by_cases q4 : kind = 4
              · subst q4
                by_cases hge : k ≤ prev
                · have HRES := Lib.hid (HK.out.trans (HNK.out (by decide) hge))
                  clear HNS HNB HNO HNK HNN HK
                  go_wp2_with fail
                  refine HRY.out.mono ?_
                  rintro e w1 ⟨rfl, hb1⟩
                  have hal : Below w1.heap.size w1 (w1.alloc (.cells #[.int .i64 4, .int .i64 txn, .int .i64 page, .int .i64 prev, .int .i64 next, .int .i64 key, .bool had, .bool has, .int .i64 old, .int .i64 new] 33)) := (Below.refl _ _).alloc (Nat.le_refl _) _
                  have HB1 := Lib.hid (HBR.out.trans ((hb1.trans (hal.mono hb1.size)).mono HBR.out.size))
                  clear hb1 hal
                  go_wp2_with fail
                  refine (placed 108 k (by omega) _).mono ?_
                  rintro e w2 ⟨rfl, hb2⟩
                  have HB2 := Lib.hid (HB1.out.trans (hb2.mono HB1.out.size))
                  have hfz := (HF00.out.below HB2.out).frozen
                  obtain ⟨f0, f1, f2⟩ := (HF00.out.below HB2.out).cells
                  clear hb2
                  go_wp2_with fail
                  exact bodyPost_ret (v := .tuple #[.int .i64 0, .agg #[.int .i64 108, .bool true, .int .i64 k]]) (by simp [results, Tryd.results43, go_sem, f0, f1, f2]) rfl ⟨by rw [HRES.out]; rfl, below3 (HA.out.trans (HB2.out.mono HA.out.size)) HLE.out _ _ _⟩
                · have hlt : prev < k := by omega
                  have HRES := Lib.hid (HK.out.trans (HNN.out (by decide) hlt))
                  clear HNS HNB HNO HNK HNN HK hge
                  go_wp2_with fail
                  refine HRY.out.mono ?_
                  rintro e w1 ⟨rfl, hb1⟩
                  have hal : Below w1.heap.size w1 (w1.alloc (.cells #[.int .i64 4, .int .i64 txn, .int .i64 page, .int .i64 prev, .int .i64 next, .int .i64 key, .bool had, .bool has, .int .i64 old, .int .i64 new] 33)) := (Below.refl _ _).alloc (Nat.le_refl _) _
                  have HB1 := Lib.hid (HBR.out.trans ((hb1.trans (hal.mono hb1.size)).mono HBR.out.size))
                  clear hb1 hal
                  go_wp2_with fail
                  go_roundw
                  case rel => exact ⟨prev, rfl, by omega, by omega, HRES, HB1⟩
                  case measure => simp [intOf]; omega
              · have e4 : (kind == 4) = false := by simpa using q4
                by_cases q5 : kind = 5
                · subst q5
                  by_cases hge : k ≤ prev
                  · have HRES := Lib.hid (HK.out.trans (HNK.out (by decide) hge))
                    clear HNS HNB HNO HNK HNN HK
                    go_wp2_with fail
                    refine HRY.out.mono ?_
                    rintro e w1 ⟨rfl, hb1⟩
                    have hal : Below w1.heap.size w1 (w1.alloc (.cells #[.int .i64 5, .int .i64 txn, .int .i64 page, .int .i64 prev, .int .i64 next, .int .i64 key, .bool had, .bool has, .int .i64 old, .int .i64 new] 33)) := (Below.refl _ _).alloc (Nat.le_refl _) _
                    have HB1 := Lib.hid (HBR.out.trans ((hb1.trans (hal.mono hb1.size)).mono HBR.out.size))
                    clear hb1 hal
                    go_wp2_with fail
                    refine (placed 108 k (by omega) _).mono ?_
                    rintro e w2 ⟨rfl, hb2⟩
                    have HB2 := Lib.hid (HB1.out.trans (hb2.mono HB1.out.size))
                    have hfz := (HF00.out.below HB2.out).frozen
                    obtain ⟨f0, f1, f2⟩ := (HF00.out.below HB2.out).cells
                    clear hb2
                    go_wp2_with fail
                    exact bodyPost_ret (v := .tuple #[.int .i64 0, .agg #[.int .i64 108, .bool true, .int .i64 k]]) (by simp [results, Tryd.results43, go_sem, f0, f1, f2]) rfl ⟨by rw [HRES.out]; rfl, below3 (HA.out.trans (HB2.out.mono HA.out.size)) HLE.out _ _ _⟩
                  · have hlt : prev < k := by omega
                    have HRES := Lib.hid (HK.out.trans (HNN.out (by decide) hlt))
                    clear HNS HNB HNO HNK HNN HK hge
                    go_wp2_with fail
                    refine HRY.out.mono ?_
                    rintro e w1 ⟨rfl, hb1⟩
                    have hal : Below w1.heap.size w1 (w1.alloc (.cells #[.int .i64 5, .int .i64 txn, .int .i64 page, .int .i64 prev, .int .i64 next, .int .i64 key, .bool had, .bool has, .int .i64 old, .int .i64 new] 33)) := (Below.refl _ _).alloc (Nat.le_refl _) _
                    have HB1 := Lib.hid (HBR.out.trans ((hb1.trans (hal.mono hb1.size)).mono HBR.out.size))
                    clear hb1 hal
                    go_wp2_with fail
                    go_roundw
                    case rel => exact ⟨prev, rfl, by omega, by omega, HRES, HB1⟩
                    case measure => simp [intOf]; omega
                · have e5 : (kind == 5) = false := by simpa using q5
                  have HRES := Lib.hid (HK.out.trans (HNO.out q1 q2 (by omega)))
                  clear HNS HNB HNO HNK HNN HK q1 q2 q3 q4 q5
                  go_wp2_with fail
                  refine HRY.out.mono ?_
                  rintro e w1 ⟨rfl, hb1⟩
                  have hal : Below w1.heap.size w1 (w1.alloc (.cells #[.int .i64 kind, .int .i64 txn, .int .i64 page, .int .i64 prev, .int .i64 next, .int .i64 key, .bool had, .bool has, .int .i64 old, .int .i64 new] 33)) := (Below.refl _ _).alloc (Nat.le_refl _) _
                  have HB1 := Lib.hid (HBR.out.trans ((hb1.trans (hal.mono hb1.size)).mono HBR.out.size))
                  clear hb1 hal
                  go_wp2_with fail
                  refine (placed 108 k (by omega) _).mono ?_
                  rintro e w2 ⟨rfl, hb2⟩
                  have HB2 := Lib.hid (HB1.out.trans (hb2.mono HB1.out.size))
                  have hfz := (HF00.out.below HB2.out).frozen
                  obtain ⟨f0, f1, f2⟩ := (HF00.out.below HB2.out).cells
                  clear hb2
                  go_wp2_with fail
                  exact bodyPost_ret (v := .tuple #[.int .i64 0, .agg #[.int .i64 108, .bool true, .int .i64 k]]) (by simp [results, Tryd.results43, go_sem, f0, f1, f2]) rfl ⟨by rw [HRES.out]; rfl, below3 (HA.out.trans (HB2.out.mono HA.out.size)) HLE.out _ _ _⟩
end Go.Proofs.YtccfiohcblecoaaDoor
