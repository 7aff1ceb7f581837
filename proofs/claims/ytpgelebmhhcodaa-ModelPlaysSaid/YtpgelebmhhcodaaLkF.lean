/- Contracts: Keys of a table without holds; phoenixlaw12.first. -/
import Derived.Test.YtpgelebmhhcodaaLkE
namespace Go.Proofs.Ytpgelebmhhcodaa
open Go.RowKit
set_option linter.unusedVariables false

/-- a table in new blocks -/
structure TW (w0 w : World) (X : Nat) (v : Value) (T : List HoldD) : Prop where
  tb : Tb w X v T
  bel : Below w0.heap.size w0 w
  low : ∀ b, Tb.F X v b → w0.heap.size ≤ b
theorem TW.below {w0 w w' : World} {X : Nat} {v : Value} {T : List HoldD} (h : TW w0 w X v T) (hb : Below w.heap.size w w') : TW w0 w' X v T := ⟨h.tb.below hb, h.bel.trans (hb.mono h.bel.size), h.low⟩
theorem TW.turn {w0 w w' : World} {X : Nat} {v v' : Value} {T T' : List HoldD} (h : TW w0 w X v T) (ht : Tb w' X v' T') (hx : Ext (Tb.F X v) w (Tb.F X v') w') : TW w0 w' X v' T' := ⟨ht, h.bel.trans (hx.below h.low h.bel.size), hx.low h.low h.bel.size⟩
theorem TW.new {w0 w : World} (hb : Below w0.heap.size w0 w) : TW w0 (w.alloc (.cells #[.slice none 0 0] 26)) w.heap.size (.slice none 0 0) [] :=
  ⟨Tb.new w, hb.alloc hb.size _, fun b h => by
    rcases h with rfl | h
    · exact hb.size
    · simp [Value.ownBlock] at h⟩

theorem whoT_len (T : List HoldD) (s key mode : Int) : (whoT T s key mode).length = (whoL T s key mode).length := by unfold whoT sortL; rw [List.length_mergeSort]
theorem whoT_nil {T : List HoldD} {s key mode : Int} (h : whoL T s key mode = []) : whoT T s key mode = [] := List.eq_nil_of_length_eq_zero (by rw [whoT_len, h]; rfl)
theorem whoT_ne {T : List HoldD} {s key mode : Int} (h : whoL T s key mode ≠ []) : whoT T s key mode ≠ [] := fun e => h (List.eq_nil_of_length_eq_zero (by rw [← whoT_len, e]; rfl))
theorem takeT_new {T : List HoldD} {s key mode : Int} (hm : isM mode = true) (hw : whoL T s key mode = []) (hi : idxG s key T 0 = -1) : takeT T s key mode = (true, T ++ [⟨s, key, mode⟩]) := by
  unfold takeT
  rw [if_pos ⟨hm, whoT_nil hw⟩, hi, if_pos (by omega)]
theorem takeT_no {T : List HoldD} {s key mode : Int} (hw : isM mode = false ∨ whoL T s key mode ≠ []) : takeT T s key mode = (false, T) := by
  unfold takeT
  rw [if_neg]
  rintro ⟨h1, h2⟩
  rcases hw with h | h
  · rw [h] at h1; simp at h1
  · exact whoT_ne h h2

theorem keysNil {w : World} {X : Nat} {v : Value} (h : Tb w X v []) (s : Int) :
    Calls Try.prog 36 #[.pointer (some ⟨X, 0, none⟩), .int .i64 s] w fun e w' => e = .returned (.slice none 0 0) ∧ Below w.heap.size w w' := by
  have hb : ∀ o, Below w.heap.size w (w.alloc o) := fun o => (Below.refl _ _).alloc (Nat.le_refl _) o
  have c1 : ∀ o, (w.alloc o).cell? ⟨X, 0, none⟩ = some v := fun o => (h.below (hb o)).cell.1
  obtain ⟨o, cap, rfl, h1, h2, _, _⟩ := h.own.form
  unfold maxLen at h2
  have hmf : ∀ (fn : Fn) (first cap : Array Value) (w : World), (Instr.makeFunc fn first cap).run Try.prog w = .ok (.func fn first cap) w := fun _ _ _ _ => rfl
  have HB := Lib.hid hb
  simp only [List.length_nil] at c1
  clear h hb
  go_enter Try.func36, Try.ntmps36
  go_wp2_with (first
    | (go_at_call 69; refine (sortOi (Oi.nil (base := 0)) (by simp)).mono ?_; rintro e w2 ⟨rfl, _, hg2⟩; have HG2 := Lib.hid hg2; clear hg2)
    | (go_at_call 73; refine (Try.slices_Compact_int_empty _ _ _).mono ?_; rintro e w3 ⟨rfl, rfl⟩)
    | go_in)
  obtain ⟨W, hW⟩ : ∃ W, W = w.alloc (.cells #[.int .i64 s] 3) := ⟨_, rfl⟩
  rw [← hW]
  have hbW : Below w.heap.size w W := by rw [hW]; exact HB.out _
  have HBW := Lib.hid hbW
  clear hW hbW c1 HB
  go_loopw [5, 13] (fun s5 i wr => s5 = .slice none 0 0 ∧ i = .int .i64 0 ∧ W = wr) (fun _ _ _ => 0)
  case atStart => exact ⟨rfl, rfl, rfl⟩
  case round =>
    obtain ⟨rfl, rfl, rfl⟩ := hrel
    go_wp2_with (first
      | (go_at_call 69; refine (sortOi (Oi.nil (base := 0)) (by simp)).mono ?_; rintro e w2 ⟨rfl, _, hg2⟩; have HG2 := Lib.hid hg2; clear hg2)
      | (go_at_call 73; refine (Try.slices_Compact_int_empty _ _ _).mono ?_; rintro e w3 ⟨rfl, rfl⟩)
      | go_in)
    go_ret
    exact ⟨rfl, (HBW.out).grown HG2.out HBW.out.size (fun k hk => by simp [Value.ownBlock] at hk)⟩
end Go.Proofs.Ytpgelebmhhcodaa
