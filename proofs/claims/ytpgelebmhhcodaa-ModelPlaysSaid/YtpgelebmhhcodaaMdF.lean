/- Contract of the model: Save. -/
import Derived.Test.YtpgelebmhhcodaaMdE
namespace Go.Proofs.Ytpgelebmhhcodaa
open Go.RowKit
set_option linter.unusedVariables false

theorem modelSaveNo {w : World} {X bl bo nl n no : Nat} {fo : Int → Option Value} {ρ : Nat → Rl} {many : Int} {l : FM} {op : Int → Option Ses} (h : Md w X bl bo nl n no fo ρ many l op) {s : Int} (hs : I64L s) (ho : op s = none) :
    Calls Try.prog 46 #[.pointer (some ⟨X, 0, none⟩), .int .i64 s] w fun e w' => e = .returned (.int .i64 (-1)) ∧ Below w.heap.size w w' := by
  obtain ⟨_, c1, _⟩ := h.cells
  have hlk := h.look2 hs
  rw [ho] at hlk
  simp only [Option.isSome_none] at hlk
  generalize (fo s).getD (.pointer none) = V at hlk
  clear h hs
  go_enter Try.func46, Try.ntmps46
  go_wp2_with fail
  go_ret
  exact ⟨rfl, Below.refl _ _⟩
set_option maxRecDepth 20000 in
set_option maxHeartbeats 2000000 in
theorem modelSave {w : World} {X bl bo nl n no : Nat} {fo : Int → Option Value} {ρ : Nat → Rl} {many : Int} {l : FM} {op : Int → Option Ses} (h : Md w X bl bo nl n no fo ρ many l op) {s : Int} (hs : I64L s) {z : Ses} (ho : op s = some z) (hn : z.saves.length ≤ 100000) :
    Calls Try.prog 46 #[.pointer (some ⟨X, 0, none⟩), .int .i64 s] w fun e w' => e = .returned (.int .i64 z.saves.length) ∧ ∃ ρ', Md w' X bl bo nl n no fo ρ' many l (updM op s (some ⟨z.own, z.saves ++ [z.own]⟩)) ∧ Ext (Fr ρ) w (Fr ρ') w' := by
  obtain ⟨_, c1, _⟩ := h.cells
  have hlk := h.look2 hs
  obtain ⟨p, b, u, G, k1, k2, k3, k4, k5, k6⟩ := h.ses s z ho
  rw [ho, k1] at hlk
  simp only [Option.isSome_some, Option.getD_some] at hlk
  obtain ⟨d0, d1, _⟩ := k2.cells
  have hd := h.below ((Below.refl w.heap.size w).drew)
  have k2d : Sm w.drew p b n u G z := k2.same rfl rfl (fun _ _ => rfl) (fun _ _ => rfl)
  have hG : G.length ≤ 100000 := by rw [k2.len]; exact hn
  have hcl : Calls Try.prog 86 #[.map (some b)] w.drew fun e w1 => ∃ g gb cap w2, e = .returned (.map (some g)) ∧ (Builtin.append_ #[103, 103] 103 #[u, .slice (some ⟨w1.heap.size, 0, none⟩) 1 1]).run Try.prog (w1.alloc (.cells #[.map (some g)] 98)) = .ok (.slice (some ⟨gb, 0, none⟩) (G.length + 1) cap) w2 ∧
      w1.cell? ⟨p, 1, none⟩ = some u ∧ (w1.alloc (.cells #[.map (some g)] 98)).cell? ⟨p, 1, none⟩ = some u ∧ (w2.cell? ⟨p, 1, none⟩ = some u ∧ w2.frozen? ⟨p, 1, none⟩ = false) ∧
      (w2.setCell ⟨p, 1, none⟩ (.slice (some ⟨gb, 0, none⟩) (G.length + 1) cap)).cell? ⟨p, 1, none⟩ = some (.slice (some ⟨gb, 0, none⟩) (G.length + 1) cap) ∧
      ∃ ρ', Md (w2.setCell ⟨p, 1, none⟩ (.slice (some ⟨gb, 0, none⟩) (G.length + 1) cap)) X bl bo nl n no fo ρ' many l (updM op s (some ⟨z.own, z.saves ++ [z.own]⟩)) ∧ Ext (Fr ρ) w (Fr ρ') (w2.setCell ⟨p, 1, none⟩ (.slice (some ⟨gb, 0, none⟩) (G.length + 1) cap)) :=
    (cloneMv k2d.own).mono fun e w1 ⟨q1, q2, q3⟩ => by
      obtain ⟨gb, cap, w2, r1, r2, r3, r4, r5, ρ', r6, r7⟩ := hd.save k1 k2d k3 k4 k5 k6 q3 q2 hG
      exact ⟨_, gb, cap, w2, q1, r1, r2, r3, r4, r5, ρ', r6, (Ext.of_below ((Below.refl w.heap.size w).drew)).trans r7⟩
  have hL : (z.saves.length : Int) = (G.length : Int) := by rw [k2.len]
  rw [hL]
  generalize G.length = N at *
  have HCL := Lib.hid hcl
  clear h hs k1 k2 k3 k4 k5 k6 hd k2d hcl hL hn
  go_enter Try.func46, Try.ntmps46
  go_wp2_with fail
  go_region_law ((first
    | (refine step_append_runL _ rfl _ _ _ _ rfl _ _ rfl rfl _ _ hrun ?_)
    | (go_simp; go_at_call 86; with_reducible refine HCL.out.mono ?_; rintro e w1 ⟨g, gb, cap, w2, rfl, hrun, q1, q2, ⟨q3, q4⟩, q5, hmd⟩)))
  all_goals
    generalize (w2.setCell ⟨p, 1, none⟩ (.slice (some ⟨gb, 0, none⟩) (N + 1) cap)) = w3 at q5 hmd ⊢
    have HMD := Lib.hid hmd
    clear hmd hrun q1 q2 q3 q4 d0 d1
    go_wp2_with fail
    go_ret
    exact ⟨rfl, HMD.out⟩
end Go.Proofs.Ytpgelebmhhcodaa
