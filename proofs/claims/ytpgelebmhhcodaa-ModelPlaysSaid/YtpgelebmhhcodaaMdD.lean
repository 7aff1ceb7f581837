/- Contracts of the model: Begin, Abort, Crash. -/
import Derived.Test.YtpgelebmhhcodaaMdC
namespace Go.Proofs.Ytpgelebmhhcodaa
open Go.RowKit
set_option linter.unusedVariables false

theorem modelBeginNo {w : World} {X bl bo nl n no : Nat} {fo : Int → Option Value} {ρ : Nat → Rl} {many : Int} {l : FM} {op : Int → Option Ses} (h : Md w X bl bo nl n no fo ρ many l op) {s : Int} (hs : I64L s) (hno : s < 0 ∨ many ≤ s ∨ (op s).isSome = true) :
    Calls Try.prog 27 #[.pointer (some ⟨X, 0, none⟩), .int .i64 s] w fun e w' => e = .returned (.bool false) ∧ Below w.heap.size w w' := by
  have hop := modelOpen h hs
  have HO := Lib.hid hop
  obtain ⟨_, _, e2⟩ := h.cells
  clear h hop hs
  by_cases h0 : s < 0
  · go_enter Try.func27, Try.ntmps27
    go_wp2_with fail
    go_ret
    exact ⟨rfl, Below.refl _ _⟩
  · by_cases h1 : s ≥ many
    · go_enter Try.func27, Try.ntmps27
      go_wp2_with fail
      go_ret
      exact ⟨rfl, Below.refl _ _⟩
    · have hB : (op s).isSome = true := by
        rcases hno with h | h | h
        · omega
        · omega
        · exact h
      rw [hB] at HO
      go_enter Try.func27, Try.ntmps27
      go_wp2_with fail
      refine HO.out.mono ?_
      clear HO
      rintro e w1 ⟨rfl, hb⟩
      have HB := Lib.hid hb
      clear hb
      go_wp2_with fail
      go_ret
      exact ⟨rfl, HB.out⟩
set_option maxRecDepth 20000 in
set_option maxHeartbeats 1000000 in
theorem modelBegin {w : World} {X bl bo nl n no : Nat} {fo : Int → Option Value} {ρ : Nat → Rl} {many : Int} {l : FM} {op : Int → Option Ses} (h : Md w X bl bo nl n no fo ρ many l op) {s : Int} (hs : I64L s) (h0 : 0 ≤ s) (h1 : s < many) (ho : op s = none) (hn : no < 1000000) :
    Calls Try.prog 27 #[.pointer (some ⟨X, 0, none⟩), .int .i64 s] w fun e w' => e = .returned (.bool true) ∧ ∃ fo' ρ', Md w' X bl bo nl n (no + 1) fo' ρ' many l (updM op s (some sesNew)) ∧ Ext (Fr ρ) w (Fr ρ') w' := by
  have hop := modelOpen h hs
  rw [ho] at hop
  simp only [Option.isSome_none] at hop
  have HO := Lib.hid hop
  obtain ⟨_, _, e2⟩ := h.cells
  have HH := Lib.hid h
  clear h hop
  have hmm := @run_makeMap Try.prog
  go_enter Try.func27, Try.ntmps27
  go_wp2_with fail
  refine HO.out.mono ?_
  clear HO e2
  rintro e w1 ⟨rfl, hb⟩
  have hb2 : Below w.heap.size w (w1.alloc (.map #[] 0)) := hb.alloc hb.size _
  have s2 : (w1.alloc (.map #[] 0)).heap.size = w1.heap.size + 1 := by simp
  have hb3 : Below w.heap.size w ((w1.alloc (.map #[] 0)).alloc (.cells #[.map (some w1.heap.size), .slice none 0 0] 105)) := hb2.alloc hb2.size _
  have h1 := HH.out.below hb
  have h3 := HH.out.below hb3
  obtain ⟨_, e1, _⟩ := h1.cells
  have hmade := (Mv.made w1).same (Below.heap_alloc (w1.alloc (.map #[] 0)) (.cells #[.map (some w1.heap.size), .slice none 0 0] 105) w1.heap.size (by simp))
  have hses := heap_alloc_new (w1.alloc (.map #[] 0)) (.cells #[.map (some w1.heap.size), .slice none 0 0] 105)
  obtain ⟨w4, hrun, hm4, hg4, hs4⟩ := h3.o.store Try.underlying99 hn hs (.pointer (some ⟨w1.heap.size + 1, 0, none⟩))
  have hsz := hb.size
  have hend : ∃ fo' ρ', Md w4 X bl bo nl n (no + 1) fo' ρ' many l (updM op s (some sesNew)) ∧ Ext (Fr ρ) w (Fr ρ') w4 := by
    have hlo : ∀ b, Fr ρ b → b < w1.heap.size := fun b hf => Nat.lt_of_lt_of_le (HH.out.low b hf) hsz
    have hρ : ∀ b, Fr ρ b → rlS (rlS ρ w1.heap.size (.own s)) (w1.heap.size + 1) (.ses s) b = ρ b := fun b hf => by
      have := hlo b hf
      rw [rlS_other _ _ (by omega), rlS_other _ _ (by omega)]
    have hs3 : ((w1.alloc (.map #[] 0)).alloc (.cells #[.map (some w1.heap.size), .slice none 0 0] 105)).heap.size = w1.heap.size + 2 := by simp
    have hbo : bo < w1.heap.size := hlo bo HH.out.fX.2.2
    have hbk : ∀ c, c ≠ bo → c < w1.heap.size + 2 → w4.heap[c]? = ((w1.alloc (.map #[] 0)).alloc (.cells #[.map (some w1.heap.size), .slice none 0 0] 105)).heap[c]? := fun c hc hl => hg4.block c (by rw [hs3]; exact hl) (fun e => hc (some_eq e).symm)
    rw [s2] at hses
    refine ⟨_, _, h3.put (ρ' := rlS (rlS ρ w1.heap.size (.own s)) (w1.heap.size + 1) (.ses s)) hρ (fun c hf _ _ _ h4 => hbk c (fun e => h4 (by rw [e]; exact HH.out.ro)) (by have := hlo c hf; omega)) hm4 (fun j hj => updM_other _ _ hj) (Nat.le_refl n) ⟨w1.heap.size + 1, w1.heap.size, .slice none 0 0, [], updM_same _ _ _, ?_, rlS_same _ _ _, by rw [rlS_other _ _ (by omega), rlS_same], fun g e => by simp [Value.ownBlock] at e, fun g e => by simp at e⟩ (fun b hf => ?_), ⟨hg4.os.trans hb3.os, hg4.tape.trans hb3.tape, hg4.output.trans hb3.output, Nat.le_trans hb3.size hg4.size, fun k hk hnf => ?_, fun b hf => ?_⟩⟩
    · exact ⟨(hbk _ (by omega) (by omega)).trans hses, (hmade.mono (Nat.zero_le n)).same (hbk _ (by omega) (by omega)), World.ownsRow_nil _ _ _ _, rfl, fun i g m e => by simp at e⟩
    · have := hg4.size
      rw [hs3] at this
      by_cases c1 : b = w1.heap.size + 1
      · omega
      · by_cases c2 : b = w1.heap.size
        · omega
        · unfold Fr at hf
          rw [rlS_other _ _ c1, rlS_other _ _ c2] at hf
          have := hlo b hf
          omega
    · rw [hbk k (fun e => hnf (by rw [e]; exact HH.out.fX.2.2)) (by omega)]
      exact hb3.block k hk
    · by_cases c1 : b = w1.heap.size + 1
      · right; omega
      · by_cases c2 : b = w1.heap.size
        · right; omega
        · unfold Fr at hf
          rw [rlS_other _ _ c1, rlS_other _ _ c2] at hf
          exact .inl hf
  have HEND := Lib.hid hend
  clear hb hb2 hb3 h3 h1 hmade hses hm4 hg4 hend s2 hs4
  go_wp2_with fail
  go_ret
  exact ⟨rfl, HEND.out⟩
theorem modelAbort {w : World} {X bl bo nl n no : Nat} {fo : Int → Option Value} {ρ : Nat → Rl} {many : Int} {l : FM} {op : Int → Option Ses} (h : Md w X bl bo nl n no fo ρ many l op) {s : Int} (hs : I64L s) :
    Calls Try.prog 48 #[.pointer (some ⟨X, 0, none⟩), .int .i64 s] w fun e w' => e = .returned (.bool (op s).isSome) ∧ Md w' X bl bo nl n no (updM fo s none) ρ many l (updM op s none) ∧ Ext (Fr ρ) w (Fr ρ) w' := by
  have hop := modelOpen h hs
  have HO := Lib.hid hop
  have HH := Lib.hid h
  clear h hop
  go_enter Try.func48, Try.ntmps48
  go_wp2_with fail
  refine HO.out.mono ?_
  clear HO
  rintro e w1 ⟨rfl, hb⟩
  have h1 := HH.out.below hb
  obtain ⟨_, e1, _⟩ := h1.cells
  have hdel := fun ty => h1.o.del Try.underlying99 hs ty
  obtain ⟨w2, hrun, hm2, hg2, hs2⟩ := hdel 0
  have hrun' : ∀ ty, (Builtin.delete_ #[99, 3] ty #[.map (some bo), .int .i64 s]).run Try.prog w1 = .ok (.tuple #[]) w2 := fun ty => hrun
  have hend : Md w2 X bl bo nl n no (updM fo s none) ρ many l (updM op s none) ∧ Ext (Fr ρ) w (Fr ρ) w2 :=
    ⟨h1.cut hg2 hm2 (fun j z e => by
      by_cases ej : j = s
      · subst ej; rw [updM_same] at e; simp at e
      · rw [updM_other _ _ ej] at e
        exact ⟨e, updM_other _ _ ej⟩) (fun j e => by
      by_cases ej : j = s
      · subst ej; exact updM_same _ _ _
      · rw [updM_other _ _ ej] at e ⊢
        exact h1.nob j e), (Ext.of_below hb).trans (h1.ext h1.fX.2.2 hg2)⟩
  have HEND := Lib.hid hend
  clear hb h1 hdel hm2 hg2 hend hrun
  go_wp2_with fail
  go_ret
  exact ⟨rfl, HEND.out⟩
theorem Mp.clearM {w : World} {b n : Nat} {f : Int → Option Value} (h : Mp w b n f) {T E : TypeId} (hT : Try.prog.underlying T = some (.map 3 E)) :
    ∃ w', (∀ ty, (Builtin.clear_ #[T] ty #[.map (some b)]).run Try.prog w = .ok (.tuple #[]) w') ∧ Mp w' b n (fun _ => none) ∧ w.grownBy w' (some b) ∧ w'.heap.size = w.heap.size := by
  obtain ⟨es, clock, hb⟩ := h.form
  have ht : w.mapTurned (Go.ChangeMaps.setBlock w b (.map #[] clock)) b := ⟨es, clock, #[], clock, hb, rfl⟩
  refine ⟨Go.ChangeMaps.setBlock w b (.map #[] clock), fun ty => ?_, ⟨⟨.map [], ⟨#[], clock, Go.ChangeMaps.heap_setBlock_same hb _, ⟨by simp, Go.MapKept.stamped_empty clock, by simp⟩, Nat.zero_le _, rfl⟩, fun k _ => rfl⟩, fun _ _ => rfl⟩, ht.grown, by simp [Go.ChangeMaps.setBlock]⟩
  simp [Builtin.clear_, run_underlying hT, Go.MapKept.run_getObj_map hb, Go.MapKept.run_setObj_map _ hb, Result.andThen, Go.ChangeMaps.setBlock]
theorem modelCrash {w : World} {X bl bo nl n no : Nat} {fo : Int → Option Value} {ρ : Nat → Rl} {many : Int} {l : FM} {op : Int → Option Ses} (h : Md w X bl bo nl n no fo ρ many l op) :
    Calls Try.prog 49 #[.pointer (some ⟨X, 0, none⟩)] w fun e w' => e = .returned (.tuple #[]) ∧ Md w' X bl bo nl n no (fun _ => none) ρ many l (fun _ => none) ∧ Ext (Fr ρ) w (Fr ρ) w' := by
  obtain ⟨_, e1, _⟩ := h.cells
  obtain ⟨w2, hrun, hm2, hg2, hs2⟩ := h.o.clearM Try.underlying99
  have hend : Md w2 X bl bo nl n no (fun _ => none) ρ many l (fun _ => none) ∧ Ext (Fr ρ) w (Fr ρ) w2 := ⟨h.cut hg2 hm2 (fun j z e => by simp at e) (fun _ _ => rfl), h.ext h.fX.2.2 hg2⟩
  have HEND := Lib.hid hend
  clear h hend hm2 hg2
  go_enter Try.func49, Try.ntmps49
  go_wp2_with fail
  exact bodyPost_end (results_none rfl _ _ _) rfl ⟨rfl, HEND.out⟩
end Go.Proofs.Ytpgelebmhhcodaa
