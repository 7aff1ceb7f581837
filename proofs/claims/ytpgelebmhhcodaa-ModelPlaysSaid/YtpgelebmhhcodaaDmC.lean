/- Contracts: the document's model: Open, Begin, Abort, Crash. -/
import Derived.Test.YtpgelebmhhcodaaDmB
namespace Go.Proofs.Ytpgelebmhhcodaa
open Go.RowKit
set_option linter.unusedVariables false

def onI (N : Nat) (on : Nat → Bool) (s : Int) : Bool := decide (0 ≤ s ∧ s < N) && on s.toNat
theorem onI_no {N : Nat} {on : Nat → Bool} {s : Int} (h : s < 0 ∨ (N : Int) ≤ s) : onI N on s = false := by
  unfold onI
  rw [decide_eq_false (by omega)]; rfl
theorem onI_in {N : Nat} {on : Nat → Bool} {i : Nat} (h : i < N) : onI N on i = on i := by
  unfold onI
  rw [decide_eq_true (by omega)]; simp
theorem onI_inv {N : Nat} {on : Nat → Bool} {s : Int} (h : onI N on s = true) : ∃ i : Nat, s = i ∧ i < N ∧ on i = true := by
  unfold onI at h
  simp only [Bool.and_eq_true, decide_eq_true_eq] at h
  exact ⟨s.toNat, by omega, by omega, h.2⟩
section
variable {w : World} {P N : Nat} {K : Nat → Prop} {L : List (Int × Int)} {on : Nat → Bool} {mine : Nat → List Pc} {saves : Nat → List Int}
theorem refOpen (h : Dx w P N K L on mine saves) {s : Int} (hs : I64L s) :
    Calls Try.prog 63 #[.pointer (some ⟨P, 0, none⟩), .int .i64 s] w fun e w' => e = .returned (.bool (onI N on s)) ∧ Below w.heap.size w w' := by
  obtain ⟨A, B, C, vL, vm, vs, h⟩ := h
  obtain ⟨_, p1, _, _, _⟩ := h.cellP
  by_cases h0 : s < 0
  · rw [onI_no (.inl h0)]
    clear h
    go_enter Try.func63, Try.ntmps63
    go_wp2_with fail
    go_ret
    exact ⟨rfl, Below.refl _ _⟩
  · obtain ⟨i, rfl⟩ : ∃ i : Nat, s = i := ⟨s.toNat, by omega⟩
    by_cases hi : (i : Int) < N
    · obtain ⟨a0, _⟩ := h.cellA (i := i) (by omega)
      rw [onI_in (by omega)]
      clear h
      go_enter Try.func63, Try.ntmps63
      go_wp2_with fail
      go_ret
      exact ⟨rfl, Below.refl _ _⟩
    · rw [onI_no (.inr (by omega))]
      clear h
      go_enter Try.func63, Try.ntmps63
      go_wp2_with fail
      go_ret
      exact ⟨rfl, Below.refl _ _⟩
theorem refBeginNo (h : Dx w P N K L on mine saves) {s : Int} (hs : I64L s) (hn : s < 0 ∨ (N : Int) ≤ s ∨ onI N on s = true) :
    Calls Try.prog 54 #[.pointer (some ⟨P, 0, none⟩), .int .i64 s] w fun e w' => e = .returned (.bool false) ∧ Below w.heap.size w w' := by
  obtain ⟨A, B, C, vL, vm, vs, h⟩ := h
  obtain ⟨_, p1, _, _, _⟩ := h.cellP
  by_cases h0 : s < 0
  · clear h hn
    go_enter Try.func54, Try.ntmps54
    go_wp2_with fail
    go_ret
    exact ⟨rfl, Below.refl _ _⟩
  · obtain ⟨i, rfl⟩ : ∃ i : Nat, s = i := ⟨s.toNat, by omega⟩
    by_cases hi : (i : Int) < N
    · obtain ⟨a0, _⟩ := h.cellA (i := i) (by omega)
      have hon : on i = true := by
        rcases hn with e | e | e
        · omega
        · omega
        · rwa [onI_in (by omega)] at e
      rw [hon] at a0
      clear h hn hon
      go_enter Try.func54, Try.ntmps54
      go_wp2_with fail
      go_ret
      exact ⟨rfl, Below.refl _ _⟩
    · clear h hn
      go_enter Try.func54, Try.ntmps54
      go_wp2_with fail
      go_ret
      exact ⟨rfl, Below.refl _ _⟩
theorem nil_own {K : Nat → Prop} {P A B C : Nat} : ∀ b, (Value.slice none 0 0).ownBlock = some b → K b ∧ ¬ OneOf P A B C b := fun b e => by simp [Value.ownBlock] at e
set_option maxHeartbeats 1000000 in
theorem refBegin (h : Dx w P N K L on mine saves) {i : Nat} (hi : i < N) (hon : on i = false) :
    Calls Try.prog 54 #[.pointer (some ⟨P, 0, none⟩), .int .i64 i] w fun e w' => e = .returned (.bool true) ∧ Dx w' P N K L (upN on i true) (upN mine i []) (upN saves i []) ∧ Ext K w K w' := by
  obtain ⟨A, B, C, vL, vm, vs, h⟩ := h
  obtain ⟨_, p1, p2, p3, _⟩ := h.cellP
  obtain ⟨a0, a1⟩ := h.cellA hi
  rw [hon] at a0
  have k1 := h.setA i true
  obtain ⟨_, q1, q2, q3, _⟩ := k1.cellP
  obtain ⟨b0, b1⟩ := k1.cellB hi
  have k2 := k1.setB i (v := .slice none 0 0) (M := []) Pt.nil nil_own
  obtain ⟨_, r1, r2, r3, _⟩ := k2.cellP
  obtain ⟨c0, c1⟩ := k2.cellC hi
  have k3 := k2.setC i (v := .slice none 0 0) (M := []) Oi.nil nil_own
  have ex : Ext K w K (((w.setCell ⟨A, i, none⟩ (.bool true)).setCell ⟨B, i, none⟩ (.slice none 0 0)).setCell ⟨C, i, none⟩ (.slice none 0 0)) :=
    ((ext_set (h.k4 A (.inr (.inl rfl))) _ _).trans (ext_set (h.k4 B (.inr (.inr (.inl rfl)))) _ _)).trans (ext_set (h.k4 C (.inr (.inr (.inr rfl)))) _ _)
  have HE := Lib.hid ex
  have HK := Lib.hid k3
  have hi2 : (i : Int) < (N : Int) := by omega
  clear h k1 k2 k3 ex hon
  go_enter Try.func54, Try.ntmps54
  go_wp2_with fail
  go_ret
  exact ⟨rfl, ⟨_, _, _, _, _, _, HK.out⟩, HE.out⟩
theorem refAbort (h : Dx w P N K L on mine saves) {i : Nat} (hi : i < N) (hon : on i = true) (hil : I64L i) :
    Calls Try.prog 60 #[.pointer (some ⟨P, 0, none⟩), .int .i64 i] w fun e w' => e = .returned (.bool true) ∧ Dx w' P N K L (upN on i false) mine saves ∧ Ext K w K w' := by
  have HO := Lib.hid (refOpen h hil)
  rw [onI_in hi, hon] at HO
  obtain ⟨A, B, C, vL, vm, vs, h⟩ := h
  have HH := Lib.hid h
  have hi2 : (i : Int) < (N : Int) := by omega
  clear h hon hil
  go_enter Try.func60, Try.ntmps60
  go_wp2_with fail
  refine HO.out.mono ?_
  clear HO
  rintro e w1 ⟨rfl, hb⟩
  have h1 := HH.out.below hb
  obtain ⟨_, p1, p2, p3, _⟩ := h1.cellP
  obtain ⟨a0, a1⟩ := h1.cellA hi
  have HK := Lib.hid (h1.setA i false)
  have HE := Lib.hid ((Ext.of_below (F := K) hb).trans (ext_set (h1.k4 A (.inr (.inl rfl))) i (.bool false)))
  clear h1 hb HH
  go_wp2_with fail
  go_ret
  exact ⟨rfl, ⟨_, _, _, _, _, _, HK.out⟩, HE.out⟩
theorem refAbortNo (h : Dx w P N K L on mine saves) {s : Int} (hs : I64L s) (hon : onI N on s = false) :
    Calls Try.prog 60 #[.pointer (some ⟨P, 0, none⟩), .int .i64 s] w fun e w' => e = .returned (.bool false) ∧ Below w.heap.size w w' := by
  have HO := Lib.hid (refOpen h hs)
  rw [hon] at HO
  clear h hon hs
  go_enter Try.func60, Try.ntmps60
  go_wp2_with fail
  refine HO.out.mono ?_
  clear HO
  rintro e w1 ⟨rfl, hb⟩
  go_wp2_with fail
  go_ret
  exact ⟨rfl, hb⟩
def offTo (on : Nat → Bool) (k : Nat) : Nat → Bool := fun j => if j < k then false else on j
theorem offTo_step (on : Nat → Bool) (k : Nat) : upN (offTo on k) k false = offTo on (k + 1) := by
  funext j
  unfold upN offTo
  by_cases e : j = k
  · subst e; simp
  · by_cases e2 : j < k
    · have : j < k + 1 := by omega
      simp [e2, this]
    · have : ¬ j < k + 1 := by omega
      simp [e, e2, this]
set_option maxHeartbeats 1000000 in
theorem refCrash (h : Dx w P N K L on mine saves) (hN : N ≤ 100000) :
    Calls Try.prog 61 #[.pointer (some ⟨P, 0, none⟩)] w fun e w' => e = .returned (.tuple #[]) ∧ Dx w' P N K L (offTo on N) mine saves ∧ Ext K w K w' := by
  obtain ⟨A, B, C, vL, vm, vs, h⟩ := h
  have HH := Lib.hid (show Dm w P A B C N vL vm vs K L (offTo on 0) mine saves by
    have : offTo on 0 = on := by funext j; unfold offTo; simp
    rw [this]; exact h)
  clear h
  go_enter Try.func61, Try.ntmps61
  go_wp2_with fail
  go_loopw [2] (fun s2 wr => ∃ i : Nat, s2 = .int .i64 i ∧ i ≤ N ∧ Hid (Dm wr P A B C N vL vm vs K L (offTo on i) mine saves) ∧ Hid (Ext K w K wr)) (fun s2 _ => N - (intOf s2).toNat)
  case atStart => exact ⟨0, rfl, by omega, HH, Lib.hid (Ext.refl _ _)⟩
  case round =>
    obtain ⟨i, rfl, hi, HD, HX⟩ := hrel
    clear HH
    obtain ⟨_, p1, p2, p3, _⟩ := HD.out.cellP
    by_cases hiN : (i : Int) < N
    · obtain ⟨a0, a1⟩ := HD.out.cellA (i := i) (by omega)
      have hk := HD.out.setA i false
      rw [offTo_step] at hk
      have HK := Lib.hid hk
      have HE := Lib.hid (HX.out.trans (ext_set (HD.out.k4 A (.inr (.inl rfl))) i (.bool false)))
      clear hk
      go_wp2_with fail
      go_roundw
      case rel => exact ⟨i + 1, by go_num, by omega, HK, HE⟩
      case measure => simp [intOf]; omega
    · obtain rfl : i = N := by omega
      go_wp2_with fail
      exact bodyPost_end (results_none rfl _ _ _) rfl ⟨rfl, ⟨_, _, _, _, _, _, HD.out⟩, HX.out⟩
end
end Go.Proofs.Ytpgelebmhhcodaa
