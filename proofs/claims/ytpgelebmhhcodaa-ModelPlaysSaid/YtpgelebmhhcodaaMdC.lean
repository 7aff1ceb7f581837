/- Contracts of the model: set, Put, Delete, Begin, Abort, Crash. -/
import Derived.Test.YtpgelebmhhcodaaMdB
import Derived.Deep.RegionHeld3
namespace Go.Proofs.Ytpgelebmhhcodaa
open Go.RowKit
set_option linter.unusedVariables false

theorem Below.gr {B : Nat} {w0 w w' : World} {r : Option Nat} (h : Below B w0 w) (hg : w.grownBy w' r) (hB : B ≤ w.heap.size) (hr : ∀ b, r = some b → B ≤ b) : Below B w0 w' :=
  ⟨hg.os.trans h.os, hg.tape.trans h.tape, hg.output.trans h.output, Nat.le_trans h.size hg.size, fun k hk => (hg.block k (Nat.lt_of_lt_of_le hk hB) (fun e => absurd (hr k e.symm) (by omega))).trans (h.block k hk)⟩
theorem modelSetNo {w : World} {X bl bo nl n no : Nat} {fo : Int → Option Value} {ρ : Nat → Rl} {many : Int} {l : FM} {op : Int → Option Ses} (h : Md w X bl bo nl n no fo ρ many l op) {s k : Int} (hs : I64L s) (v : Int) (i : Bool) (ho : op s = none) :
    Calls Try.prog 75 #[.pointer (some ⟨X, 0, none⟩), .int .i64 s, .int .i64 k, .agg #[.int .i64 v, .bool i]] w fun e w' => e = .returned (.tuple #[.int .i64 0, .bool false]) ∧ Below w.heap.size w w' := by
  have hb1 : Below w.heap.size w (w.alloc (.cells #[.int .i64 v, .bool i] 108)) := (Below.refl _ _).alloc (Nat.le_refl _) _
  have hop := modelOpen (h.below hb1) hs
  rw [ho] at hop
  simp only [Option.isSome_none] at hop
  have HO := Lib.hid hop
  have HB1 := Lib.hid hb1
  clear h hs ho hop hb1
  go_enter Try.func75, Try.ntmps75
  go_wp2_with fail
  refine HO.out.mono ?_
  clear HO
  rintro e w1 ⟨rfl, hb2⟩
  have HB2 := Lib.hid (HB1.out.trans (hb2.mono HB1.out.size))
  clear hb2
  go_wp2_with fail
  go_ret2
  exact ⟨rfl, HB2.out⟩
set_option maxRecDepth 20000 in
set_option maxHeartbeats 2000000 in
theorem modelSetYes {w : World} {X bl bo nl n no : Nat} {fo : Int → Option Value} {ρ : Nat → Rl} {many : Int} {l : FM} {op : Int → Option Ses} (h : Md w X bl bo nl n no fo ρ many l op) {s k : Int} (hs : I64L s) (hk : I64L k) {v : Int} (i : Bool) (hv : I64L v) {z : Ses} (ho : op s = some z) (hn : n < 1000000) :
    Calls Try.prog 75 #[.pointer (some ⟨X, 0, none⟩), .int .i64 s, .int .i64 k, .agg #[.int .i64 v, .bool i]] w fun e w' => e = .returned (.tuple #[.int .i64 (seesM l op s k).1, .bool (seesM l op s k).2]) ∧ Md w' X bl bo nl (n + 1) no fo ρ many l (updM op s (some ⟨updM z.own k (some (v, i)), z.saves⟩)) ∧ Ext (Fr ρ) w (Fr ρ) w' := by
  have hb1 : Below w.heap.size w (w.alloc (.cells #[.int .i64 v, .bool i] 108)) := (Below.refl _ _).alloc (Nat.le_refl _) _
  have hc1 := heap_alloc_new w (.cells #[.int .i64 v, .bool i] 108)
  have hop := modelOpen (h.below hb1) hs
  rw [ho] at hop
  simp only [Option.isSome_some] at hop
  have HO := Lib.hid hop
  have HB1 := Lib.hid hb1
  have HC1 := Lib.hid hc1
  have HH := Lib.hid h
  have HV := Lib.hid hv
  clear h hop hb1 hc1 hv
  go_enter Try.func75, Try.ntmps75
  go_wp2_with fail
  refine HO.out.mono ?_
  clear HO
  rintro e w1 ⟨rfl, hb2⟩
  have HB2 := Lib.hid (HB1.out.trans (hb2.mono HB1.out.size))
  have HC2 := Lib.hid ((hb2.block _ (by simp)).trans HC1.out)
  have hget := modelGet (HH.out.below HB2.out) hs hk
  have HG := Lib.hid hget
  clear hb2 hget HC1 HB1
  go_wp2_with fail
  refine HG.out.mono ?_
  clear HG
  rintro e w2 ⟨rfl, hb3⟩
  have HB3 := Lib.hid (HB2.out.trans (hb3.mono HB2.out.size))
  have hc3 := (hb3.block _ (Array.getElem?_eq_some_iff.1 HC2.out).1).trans HC2.out
  clear hb3 HC2 HB2
  have a0 : w2.cell? ⟨w.heap.size, 0, none⟩ = some (.int .i64 v) := by rw [cell_of_row w2 _ _ _ _ (0, 0) hc3]; rfl
  have a1 : w2.cell? ⟨w.heap.size, 1, none⟩ = some (.bool i) := by rw [cell_of_row w2 _ _ _ _ (0, 0) hc3]; rfl
  have HBd := Lib.hid HB3.out.drew
  have h3 := HH.out.below HBd.out
  obtain ⟨p, b, u, G, k1, k2, k3, k4, k5, k6⟩ := h3.ses s z ho
  have hlk := h3.look hs false
  rw [k1] at hlk
  unfold lookV at hlk
  rw [if_neg (by simp)] at hlk
  simp only [Option.getD_some] at hlk
  obtain ⟨_, e1, _⟩ := h3.cells
  obtain ⟨d0, _⟩ := k2.cells
  change w2.cell? _ = _ at e1
  change w2.cell? _ = _ at d0
  obtain ⟨w4, hrun, hm4, hg4, hs4⟩ := k2.own.store hn hk (x := (v, i)) HV.out
  unfold vE at hrun
  dsimp only at hrun
  have hend : Md w4 X bl bo nl (n + 1) no fo ρ many l (updM op s (some ⟨updM z.own k (some (v, i)), z.saves⟩)) ∧ Ext (Fr ρ) w (Fr ρ) w4 := by
    have fb : Fr ρ b := by unfold Fr; rw [k4]; simp
    have hne : ∀ c, ρ c ≠ .own s → c ≠ b := fun c hc e => hc (by rw [e]; exact k4)
    have hbk : ∀ c, Fr ρ c → c ≠ b → w4.heap[c]? = w2.drew.heap[c]? := fun c hf hc => hg4.block c (h3.low c hf) (fun e => hc (some_eq e).symm)
    refine ⟨h3.put (fun _ _ => rfl) (fun c hf h1 h2 h3 h4 => hbk c hf (hne c h2)) (h3.o.same (hbk bo h3.fX.2.2 (hne bo (by rw [h3.ro]; simp)))) (fun _ _ => rfl) (Nat.le_succ n) ⟨p, b, u, G, k1, ?_, k3, k4, k5, k6⟩ (fun c hf => Nat.lt_of_lt_of_le (h3.low c hf) hg4.size), (Ext.of_below HBd.out).trans (h3.ext fb hg4)⟩
    exact ⟨(hbk p (by unfold Fr; rw [k3]; simp) (hne p (by rw [k3]; simp))).trans k2.head, hm4, ownsRow_sameL k2.row fun g e => hbk g (by unfold Fr; rw [k5 g e]; simp) (hne g (by rw [k5 g e]; simp)), k2.len, fun j g m e1 e2 => ((k2.sav j g m e1 e2).mono (Nat.le_succ n)).same (hbk g (by unfold Fr; rw [k6 g (List.mem_of_getElem? e1)]; simp) (hne g (by rw [k6 g (List.mem_of_getElem? e1)]; simp)))⟩
  have HEND := Lib.hid hend
  clear hc3 h3 k1 k2 k3 k4 k5 k6 hm4 hg4 hend
  go_wp2_with fail
  go_region_law (fail)
  all_goals
    go_wp2_with fail
    go_ret2
    exact ⟨rfl, HEND.out⟩
theorem modelPutNo {w : World} {X bl bo nl n no : Nat} {fo : Int → Option Value} {ρ : Nat → Rl} {many : Int} {l : FM} {op : Int → Option Ses} (h : Md w X bl bo nl n no fo ρ many l op) {s k : Int} (hs : I64L s) (v : Int) (ho : op s = none) :
    Calls Try.prog 29 #[.pointer (some ⟨X, 0, none⟩), .int .i64 s, .int .i64 k, .int .i64 v] w fun e w' => e = .returned (.tuple #[.int .i64 0, .bool false]) ∧ Below w.heap.size w w' := by
  have HS := Lib.hid (modelSetNo h hs (k := k) v true ho)
  clear h hs ho
  go_enter Try.func29, Try.ntmps29
  go_wp2_with fail
  refine HS.out.mono ?_
  clear HS
  rintro e w1 ⟨rfl, hb⟩
  have HB := Lib.hid hb
  clear hb
  go_wp2_with fail
  go_ret2
  exact ⟨rfl, HB.out⟩
theorem modelDeleteNo {w : World} {X bl bo nl n no : Nat} {fo : Int → Option Value} {ρ : Nat → Rl} {many : Int} {l : FM} {op : Int → Option Ses} (h : Md w X bl bo nl n no fo ρ many l op) {s k : Int} (hs : I64L s) (ho : op s = none) :
    Calls Try.prog 28 #[.pointer (some ⟨X, 0, none⟩), .int .i64 s, .int .i64 k] w fun e w' => e = .returned (.tuple #[.int .i64 0, .bool false]) ∧ Below w.heap.size w w' := by
  have HS := Lib.hid (modelSetNo h hs (k := k) 0 false ho)
  clear h hs ho
  go_enter Try.func28, Try.ntmps28
  go_wp2_with fail
  refine HS.out.mono ?_
  clear HS
  rintro e w1 ⟨rfl, hb⟩
  have HB := Lib.hid hb
  clear hb
  go_wp2_with fail
  go_ret2
  exact ⟨rfl, HB.out⟩
theorem modelPut {w : World} {X bl bo nl n no : Nat} {fo : Int → Option Value} {ρ : Nat → Rl} {many : Int} {l : FM} {op : Int → Option Ses} (h : Md w X bl bo nl n no fo ρ many l op) {s k : Int} (hs : I64L s) (hk : I64L k) {v : Int} (hv : I64L v) {z : Ses} (ho : op s = some z) (hn : n < 1000000) :
    Calls Try.prog 29 #[.pointer (some ⟨X, 0, none⟩), .int .i64 s, .int .i64 k, .int .i64 v] w fun e w' => e = .returned (.tuple #[.int .i64 (seesM l op s k).1, .bool (seesM l op s k).2]) ∧ Md w' X bl bo nl (n + 1) no fo ρ many l (updM op s (some ⟨updM z.own k (some (v, true)), z.saves⟩)) ∧ Ext (Fr ρ) w (Fr ρ) w' := by
  have HS := Lib.hid (modelSetYes h hs hk true hv ho hn)
  clear h hs ho hk hv hn
  go_enter Try.func29, Try.ntmps29
  go_wp2_with fail
  refine HS.out.mono ?_
  clear HS
  rintro e w1 ⟨rfl, hb⟩
  have HB := Lib.hid hb
  clear hb
  go_wp2_with fail
  go_ret2
  exact ⟨rfl, HB.out⟩
theorem modelDelete {w : World} {X bl bo nl n no : Nat} {fo : Int → Option Value} {ρ : Nat → Rl} {many : Int} {l : FM} {op : Int → Option Ses} (h : Md w X bl bo nl n no fo ρ many l op) {s k : Int} (hs : I64L s) (hk : I64L k) {z : Ses} (ho : op s = some z) (hn : n < 1000000) :
    Calls Try.prog 28 #[.pointer (some ⟨X, 0, none⟩), .int .i64 s, .int .i64 k] w fun e w' => e = .returned (.tuple #[.int .i64 (seesM l op s k).1, .bool (seesM l op s k).2]) ∧ Md w' X bl bo nl (n + 1) no fo ρ many l (updM op s (some ⟨updM z.own k (some (0, false)), z.saves⟩)) ∧ Ext (Fr ρ) w (Fr ρ) w' := by
  have HS := Lib.hid (modelSetYes h hs hk (v := 0) false ⟨by simp, by simp⟩ ho hn)
  clear h hs ho hk hn
  go_enter Try.func28, Try.ntmps28
  go_wp2_with fail
  refine HS.out.mono ?_
  clear HS
  rintro e w1 ⟨rfl, hb⟩
  have HB := Lib.hid hb
  clear hb
  go_wp2_with fail
  go_ret2
  exact ⟨rfl, HB.out⟩
end Go.Proofs.Ytpgelebmhhcodaa
