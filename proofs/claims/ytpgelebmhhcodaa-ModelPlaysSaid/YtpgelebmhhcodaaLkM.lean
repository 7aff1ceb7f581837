/- Contracts: Keys, Held. -/
import Derived.Test.YtpgelebmhhcodaaLkL
namespace Go.Proofs.Ytpgelebmhhcodaa
open Go.RowKit
set_option linter.unusedVariables false

theorem keysHere (h : HoldD) (s : Int) (p3 : Addr) (w : World) (c3 : w.cell? p3 = some (.int .i64 s)) :
    Calls Try.prog 83 #[holdV h, .pointer (some p3)] w fun e w' => e = .returned (.bool (h.s == s)) ∧ Below w.heap.size w w' := by
  obtain ⟨rs, rk, rm⟩ := h
  unfold holdV
  dsimp only
  have hb : ∀ o, Below w.heap.size w (w.alloc o) := fun o => (Below.refl _ _).alloc (Nat.le_refl _) o
  have d3 : ∀ o, (w.alloc o).cell? p3 = some (.int .i64 s) := fun o => ((hb o).cell (Below.lt c3)).trans c3
  have HB := Lib.hid hb
  clear hb c3
  go_enter Try.func83, Try.ntmps83
  go_wp2_with fail
  go_ret
  exact ⟨rfl, HB.out _⟩

theorem tabHeld {w : World} {X : Nat} {v : Value} {T : List HoldD} (h : Tb w X v T) :
    Calls Try.prog 38 #[.pointer (some ⟨X, 0, none⟩)] w fun e w' => (∃ o, e = .returned (.slice o (keysT (fun h => h.mode == 2) T).length (keysT (fun h => h.mode == 2) T).length) ∧ Ns .i64 w' (.slice o (keysT (fun h => h.mode == 2) T).length (keysT (fun h => h.mode == 2) T).length) (keysT (fun h => h.mode == 2) T)) ∧ Below w.heap.size w w' := by
  have hk := tabKeysH h (fun h => h.mode == 2) (fun r w1 _ => heldHere r w1)
  have HK := Lib.hid hk
  clear hk h
  go_enter Try.func38, Try.ntmps38
  go_wp2_with fail
  refine HK.out.mono ?_
  clear HK
  rintro e w2 ⟨⟨o, rfl, hn⟩, hb⟩
  have HN := Lib.hid hn
  have HB := Lib.hid hb
  clear hn hb
  go_wp2_with fail
  go_ret
  exact ⟨⟨o, rfl, HN.out⟩, HB.out⟩

set_option maxRecDepth 20000 in
theorem tabKeys {w : World} {X : Nat} {v : Value} {T : List HoldD} (h : Tb w X v T) (s : Int) :
    Calls Try.prog 36 #[.pointer (some ⟨X, 0, none⟩), .int .i64 s] w fun e w' => (∃ o, e = .returned (.slice o (keysT (fun h => h.s == s) T).length (keysT (fun h => h.s == s) T).length) ∧ Ns .i64 w' (.slice o (keysT (fun h => h.s == s) T).length (keysT (fun h => h.s == s) T).length) (keysT (fun h => h.s == s) T)) ∧ Below w.heap.size w w' := by
  obtain ⟨W1, hW1⟩ : ∃ W, W = w.alloc (.cells #[.int .i64 s] 3) := ⟨_, rfl⟩
  have hb1 : Below w.heap.size w W1 := by rw [hW1]; exact (Below.refl _ _).alloc (Nat.le_refl _) _
  have d3 : W1.cell? ⟨w.heap.size, 0, none⟩ = some (.int .i64 s) := by rw [hW1]; simp [go_sem]
  have hk := tabKeysK (h.below hb1) ⟨w.heap.size, 0, none⟩ (fun h => h.s == s) (fun r w1 hb => keysHere r s _ w1 ((hb.cell (Below.lt d3)).trans d3))
  have HK := Lib.hid hk
  have HW1 := Lib.hid hW1
  have HB1 := Lib.hid hb1
  have hmf : ∀ (fn : Fn) (first cap : Array Value) (w : World), (Instr.makeFunc fn first cap).run Try.prog w = .ok (.func fn first cap) w := fun _ _ _ _ => rfl
  clear hk h d3 hW1 hb1
  go_enter Try.func36, Try.ntmps36
  go_upto_region 1 with fail
  rw [← HW1.out]
  clear HW1
  go_wp2_with fail
  refine HK.out.mono ?_
  clear HK
  rintro e w2 ⟨⟨o, rfl, hn⟩, hb⟩
  have HN := Lib.hid hn
  have HB := Lib.hid (HB1.out.trans (hb.mono HB1.out.size))
  clear hn hb
  go_wp2_with fail
  go_ret
  exact ⟨⟨o, rfl, HN.out⟩, HB.out⟩
end Go.Proofs.Ytpgelebmhhcodaa
