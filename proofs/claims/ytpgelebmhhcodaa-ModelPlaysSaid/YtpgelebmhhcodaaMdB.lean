/- Contracts of the model: New, Open, see, Get. -/
import Derived.Test.YtpgelebmhhcodaaMdA
import Derived.Test.YtpgelebmhhcodaaPlain
import Derived.BigQuiet
namespace Go.Proofs.Ytpgelebmhhcodaa
open Go.RowKit
set_option linter.unusedVariables false

theorem modelNew {w : World} (many : Int) :
    Calls Try.prog 26 #[.int .i64 many] w fun e w' => e = .returned (.pointer (some ⟨w.heap.size + 2, 0, none⟩)) ∧ Md w' (w.heap.size + 2) w.heap.size (w.heap.size + 1) 0 0 0 (fun _ => none) (rlS (rlS (rlS (fun _ => .no) w.heap.size .l) (w.heap.size + 1) .o) (w.heap.size + 2) .x) many (fun _ => none) (fun _ => none) ∧ Below w.heap.size w w' := by
  have hmm := @run_makeMap Try.prog
  go_enter Try.func26, Try.ntmps26
  go_wp2_with fail
  go_ret
  have s1 : (w.alloc (.map #[] 0)).heap.size = w.heap.size + 1 := by simp
  have s2 : ((w.alloc (.map #[] 0)).alloc (.map #[] 0)).heap.size = w.heap.size + 2 := by simp
  have b1 : Below (w.heap.size + 1) (w.alloc (.map #[] 0)) ((w.alloc (.map #[] 0)).alloc (.map #[] 0)) := (Below.refl _ _).alloc (by rw [s1]; exact Nat.le_refl _) _
  have b2 : Below (w.heap.size + 2) ((w.alloc (.map #[] 0)).alloc (.map #[] 0)) (((w.alloc (.map #[] 0)).alloc (.map #[] 0)).alloc (.cells #[.map (some w.heap.size), .map (some (w.heap.size + 1)), .int .i64 many] 101)) := (Below.refl _ _).alloc (by rw [s2]; exact Nat.le_refl _) _
  have m1 := (Mv.made w).same ((b2.block w.heap.size (by omega)).trans (b1.block w.heap.size (by omega)))
  have m2 := (Mp.made (w.alloc (.map #[] 0))).same (b2.block _ (by rw [s1]; omega))
  have h3 := heap_alloc_new ((w.alloc (.map #[] 0)).alloc (.map #[] 0)) (.cells #[.map (some w.heap.size), .map (some (w.heap.size + 1)), .int .i64 many] 101)
  rw [s1] at m2
  rw [s2] at h3
  refine ⟨rfl, ⟨h3, m1, m2, by rw [rlS_same], by rw [rlS_other _ _ (by omega), rlS_other _ _ (by omega), rlS_same], by rw [rlS_other _ _ (by omega), rlS_same], fun _ _ => rfl, fun s z e => by simp at e, fun b hf => ?_⟩, (((Below.refl _ _).alloc (Nat.le_refl _) _).alloc (by rw [s1]; omega) _).alloc (by rw [s2]; omega) _⟩
  have hs : (((w.alloc (.map #[] 0)).alloc (.map #[] 0)).alloc (.cells #[.map (some w.heap.size), .map (some (w.heap.size + 1)), .int .i64 many] 101)).heap.size = w.heap.size + 3 := by simp
  rw [hs]
  by_cases e3 : b = w.heap.size + 2
  · omega
  · by_cases e2 : b = w.heap.size + 1
    · omega
    · by_cases e1 : b = w.heap.size
      · omega
      · unfold Fr at hf
        rw [rlS_other _ _ e3, rlS_other _ _ e2, rlS_other _ _ e1] at hf
        simp at hf
theorem Md.look2 {w : World} {X bl bo nl n no : Nat} {fo : Int → Option Value} {ρ : Nat → Rl} {many : Int} {l : FM} {op : Int → Option Ses} (h : Md w X bl bo nl n no fo ρ many l op) {s : Int} (hs : I64L s) :
    (Instr.lookup 99 (.map (some bo)) (.int .i64 s) true).run Try.prog w = .ok (.tuple #[(fo s).getD (.pointer none), .bool (op s).isSome]) w := by
  rw [h.look hs true]
  unfold lookV
  rw [if_pos rfl]
  cases e : op s with
  | none => rw [h.nob s e]; rfl
  | some z =>
    obtain ⟨p, b, u, G, k1, _⟩ := h.ses s z e
    rw [k1]; rfl
theorem modelOpen {w : World} {X bl bo nl n no : Nat} {fo : Int → Option Value} {ρ : Nat → Rl} {many : Int} {l : FM} {op : Int → Option Ses} (h : Md w X bl bo nl n no fo ρ many l op) {s : Int} (hs : I64L s) :
    Calls Try.prog 51 #[.pointer (some ⟨X, 0, none⟩), .int .i64 s] w fun e w' => e = .returned (.bool (op s).isSome) ∧ Below w.heap.size w w' := by
  obtain ⟨_, c1, _⟩ := h.cells
  have hlk := h.look2 hs
  generalize (fo s).getD (.pointer none) = V at hlk
  generalize (op s).isSome = B at hlk ⊢
  clear h hs
  go_enter Try.func51, Try.ntmps51
  go_wp2_with fail
  go_ret
  exact ⟨rfl, Below.refl _ _⟩

/-- what a session sees of a key -/
def seesM (l : FM) (op : Int → Option Ses) (s k : Int) : MV := match op s with
  | some z => (z.own k).getD ((l k).getD (0, false))
  | none => (l k).getD (0, false)
theorem seesM_wf {w : World} {X bl bo nl n no : Nat} {fo : Int → Option Value} {ρ : Nat → Rl} {many : Int} {l : FM} {op : Int → Option Ses} (h : Md w X bl bo nl n no fo ρ many l op) (s k : Int) : I64L (seesM l op s k).1 := by
  have hl : I64L ((l k).getD (0, false)).1 := by
    cases e : l k with
    | none => exact ⟨by simp, by simp⟩
    | some x => exact h.l.wf k x e
  unfold seesM
  cases e : op s with
  | none => exact hl
  | some z =>
    obtain ⟨p, b, u, G, _, k2, _⟩ := h.ses s z e
    dsimp only
    cases e2 : z.own k with
    | none => exact hl
    | some x => exact k2.own.wf k x e2
set_option maxHeartbeats 1000000 in
theorem modelSee {w : World} {X bl bo nl n no : Nat} {fo : Int → Option Value} {ρ : Nat → Rl} {many : Int} {l : FM} {op : Int → Option Ses} (h : Md w X bl bo nl n no fo ρ many l op) {s k : Int} (hs : I64L s) (hk : I64L k) :
    Calls Try.prog 87 #[.pointer (some ⟨X, 0, none⟩), .int .i64 s, .int .i64 k] w fun e w' => e = .returned (vE (seesM l op s k)) ∧ Below w.heap.size w w' := by
  have hb1 : Below w.heap.size w (w.alloc (.cells #[.int .i64 0, .bool false] 108)) := (Below.refl _ _).alloc (Nat.le_refl _) _
  have h1 := h.below hb1
  have hlk := h1.look2 hs
  have hll := h1.l.look hk
  obtain ⟨e0, e1, _⟩ := h1.cells
  obtain ⟨⟨lv, li⟩, hlv⟩ : ∃ x, x = (l k).getD (0, false) := ⟨_, rfl⟩
  rw [← hlv] at hll
  unfold vE at hll
  dsimp only at hll
  have HB1 := Lib.hid hb1
  cases hop : op s with
  | none =>
    have hfo := h.nob s hop
    have hse : seesM l op s k = (lv, li) := by unfold seesM; rw [hop, hlv]
    rw [hop, hfo] at hlk
    simp only [Option.getD_none, Option.isSome_none] at hlk
    rw [hse]
    clear h hb1 h1 hs hk hlv hse
    go_enter Try.func87, Try.ntmps87
    go_wp2_with fail
    exact bodyPost_ret (v := .agg #[.int .i64 lv, .bool li]) (by simp [results, Try.results87, go_sem]) rfl ⟨rfl, (Below.refl _ _).alloc (Nat.le_refl _) _⟩
  | some z =>
    obtain ⟨p, b, u, G, k1, k2, _, _, _, _⟩ := h1.ses s z hop
    obtain ⟨d0, _⟩ := k2.cells
    have hown := k2.own.look2 hk
    rw [hop, k1] at hlk
    simp only [Option.getD_some, Option.isSome_some] at hlk
    have hba : Below w.heap.size w ((w.alloc (.cells #[.int .i64 0, .bool false] 108)).alloc (.cells #[.int .i64 0, .bool false] 108)) := hb1.alloc hb1.size _
    have h2 := h.below hba
    have hll2 := h2.l.look hk
    obtain ⟨e2, _⟩ := h2.cells
    rw [← hlv] at hll2
    cases hok : z.own k with
    | none =>
      have hse : seesM l op s k = (lv, li) := by unfold seesM; rw [hop]; dsimp only; rw [hok, hlv]; rfl
      rw [hok] at hown
      unfold vE at hown hll2
      simp only [Option.getD_none, Option.isSome_none] at hown
      dsimp only at hll2
      rw [hse]
      clear h hb1 h1 hs hk hlv hse k2 hba h2
      go_enter Try.func87, Try.ntmps87
      go_wp2_with fail
      exact bodyPost_ret (v := .agg #[.int .i64 lv, .bool li]) (by simp [results, Try.results87, go_sem]) rfl ⟨rfl, ((Below.refl _ _).alloc (Nat.le_refl _) _).alloc (by simp) _⟩
    | some x =>
      obtain ⟨ov, oi⟩ := x
      have hse : seesM l op s k = (ov, oi) := by unfold seesM; rw [hop]; dsimp only; rw [hok]; rfl
      rw [hok] at hown
      unfold vE at hown
      simp only [Option.getD_some, Option.isSome_some] at hown
      rw [hse]
      clear h hb1 h1 hs hk hlv hse k2 hba h2 hll2
      go_enter Try.func87, Try.ntmps87
      go_wp2_with fail
      exact bodyPost_ret (v := .agg #[.int .i64 ov, .bool oi]) (by simp [results, Try.results87, go_sem]) rfl ⟨rfl, ((Below.refl _ _).alloc (Nat.le_refl _) _).alloc (by simp) _⟩
theorem modelGet {w : World} {X bl bo nl n no : Nat} {fo : Int → Option Value} {ρ : Nat → Rl} {many : Int} {l : FM} {op : Int → Option Ses} (h : Md w X bl bo nl n no fo ρ many l op) {s k : Int} (hs : I64L s) (hk : I64L k) :
    Calls Try.prog 47 #[.pointer (some ⟨X, 0, none⟩), .int .i64 s, .int .i64 k] w fun e w' => e = .returned (.tuple #[.int .i64 (seesM l op s k).1, .bool (seesM l op s k).2]) ∧ Below w.heap.size w w' := by
  have hsee := modelSee h hs hk
  generalize seesM l op s k = x at hsee ⊢
  obtain ⟨v, i⟩ := x
  unfold vE at hsee
  dsimp only at hsee ⊢
  have HS := Lib.hid hsee
  clear h hs hk hsee
  go_enter Try.func47, Try.ntmps47
  go_wp2_with fail
  refine HS.out.mono ?_
  clear HS
  rintro e w1 ⟨rfl, hb1⟩
  have HB := Lib.hid hb1
  clear hb1
  go_wp2_with fail
  go_quiet (fail)
  go_wp2_with fail
  go_ret2
  exact ⟨rfl, (HB.out.alloc HB.out.size _).trans (bdrew _ _ _)⟩
end Go.Proofs.Ytpgelebmhhcodaa
