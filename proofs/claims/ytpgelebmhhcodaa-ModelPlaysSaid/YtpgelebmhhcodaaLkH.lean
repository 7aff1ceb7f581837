/- Contracts: slices.DeleteFunc over holds, Free. -/
import Derived.Test.YtpgelebmhhcodaaLkG
namespace Go.Proofs.Ytpgelebmhhcodaa
open Go.RowKit
set_option linter.unusedVariables false

/-- in the midst of DeleteFunc: i kept, j looked at -/
structure DelSt (w0 w : World) (g cap : Nat) (T : List HoldD) (s : Int) (i j : Nat) : Prop where
  row : ∃ cur : Array Value, w.heap[g]? = some (.cells cur 91 (0, 0)) ∧ cur.size = cap * 3 ∧ cur.toList.take (i * 3) = (freeT (T.take j) s).flatMap holdCl ∧ ∀ x, j * 3 ≤ x → x < T.length * 3 → cur[x]? = (T.flatMap holdCl)[x]?
  len : i = (freeT (T.take j) s).length
  grown : w0.grownBy w (some g)
  lt : i < j
theorem DelSt.below {w0 w w' : World} {g cap : Nat} {T : List HoldD} {s : Int} {i j : Nat} (h : DelSt w0 w g cap T s i j) (hb : Below w.heap.size w w') : DelSt w0 w' g cap T s i j := by
  obtain ⟨cur, h1, h2⟩ := h.row
  exact ⟨⟨cur, (hb.block g (Array.getElem?_eq_some_iff.1 h1).1).trans h1, h2⟩, h.len, grownBy_trans h.grown ⟨hb.os, hb.tape, hb.output, hb.size, fun b hb2 _ => hb.block b hb2⟩, h.lt⟩
theorem DelSt.cells {w0 w : World} {g cap : Nat} {T : List HoldD} {s : Int} {i j : Nat} (h : DelSt w0 w g cap T s i j) {r : HoldD} (hr : T[j]? = some r) :
    w.cell? ⟨g, j * 3, none⟩ = some (.int .i64 r.s) ∧ w.cell? ⟨g, j * 3 + 1, none⟩ = some (.int .i64 r.key) ∧ w.cell? ⟨g, j * 3 + 2, none⟩ = some (.int .i64 r.mode) := by
  obtain ⟨cur, h1, h2, h3, h4⟩ := h.row
  have hj : j < T.length := (List.getElem?_eq_some_iff.1 hr).1
  have hc : ∀ m, m < 3 → w.cell? ⟨g, j * 3 + m, none⟩ = (holdCl r)[m]? := fun m hm => by
    rw [cell_of_row w g _ _ _ _ h1, h4 _ (by omega) (by omega), flatH T j m r hr hm]
  exact ⟨hc 0 (by omega), hc 1 (by omega), hc 2 (by omega)⟩
theorem freeT_step (T : List HoldD) (s : Int) (j : Nat) (r : HoldD) (hr : T[j]? = some r) : freeT (T.take (j + 1)) s = freeT (T.take j) s ++ (if (r.s == s) = true then [] else [r]) := by
  unfold freeT
  rw [List.take_add_one, hr, Option.toList_some, List.filter_append]
  congr 1
  rw [List.filter_cons]
  cases (r.s == s) <;> simp
theorem DelSt.skip {w0 w : World} {g cap : Nat} {T : List HoldD} {s : Int} {i j : Nat} (h : DelSt w0 w g cap T s i j) {r : HoldD} (hr : T[j]? = some r) (hs : (r.s == s) = true) : DelSt w0 w g cap T s i (j + 1) := by
  obtain ⟨cur, h1, h2, h3, h4⟩ := h.row
  have e := freeT_step T s j r hr
  rw [if_pos hs, List.append_nil] at e
  exact ⟨⟨cur, h1, h2, by rw [e]; exact h3, fun x hx => h4 x (by omega)⟩, by rw [e]; exact h.len, h.grown, by have := h.lt; omega⟩
theorem take_set3 (l : List Value) (i : Nat) (a b c : Value) (h : i * 3 + 3 ≤ l.length) : (((l.set (i * 3) a).set (i * 3 + 1) b).set (i * 3 + 2) c).take ((i + 1) * 3) = l.take (i * 3) ++ [a, b, c] := by
  apply List.ext_getElem?
  intro x
  rw [List.getElem?_take]
  by_cases hx : x < (i + 1) * 3
  · rw [if_pos hx]
    simp only [List.getElem?_set, List.length_set]
    by_cases hx0 : x < i * 3
    · rw [if_neg (by omega), if_neg (by omega), if_neg (by omega), List.getElem?_append_left (by rw [List.length_take]; omega), List.getElem?_take, if_pos hx0]
    · rw [List.getElem?_append_right (by rw [List.length_take]; omega), List.length_take, Nat.min_eq_left (by omega)]
      have h3 : x = i * 3 ∨ x = i * 3 + 1 ∨ x = i * 3 + 2 := by omega
      rcases h3 with rfl | rfl | rfl
      · rw [if_neg (by omega), if_neg (by omega), if_pos rfl, if_pos (by omega)]; simp
      · rw [if_neg (by omega), if_pos rfl, if_pos (by omega)]; simp
      · rw [if_pos rfl, if_pos (by omega)]; simp
  · rw [if_neg hx, List.getElem?_eq_none (by rw [List.length_append, List.length_take]; simp; omega)]
theorem DelSt.keep {w0 w : World} {g cap : Nat} {T : List HoldD} {s : Int} {i j : Nat} (h : DelSt w0 w g cap T s i j) (hcap : T.length ≤ cap) {r : HoldD} (hr : T[j]? = some r) (hs : (r.s == s) = false) :
    DelSt w0 (((w.setCell ⟨g, i * 3, none⟩ (.int .i64 r.s)).setCell ⟨g, i * 3 + 1, none⟩ (.int .i64 r.key)).setCell ⟨g, i * 3 + 2, none⟩ (.int .i64 r.mode)) g cap T s (i + 1) (j + 1) := by
  obtain ⟨cur, h1, h2, h3, h4⟩ := h.row
  have e := freeT_step T s j r hr
  rw [if_neg (by rw [hs]; simp)] at e
  have hj : j < T.length := (List.getElem?_eq_some_iff.1 hr).1
  have hlt := h.lt
  have k1 := setCell_rowL h1 (i * 3) (.int .i64 r.s)
  have k2 := setCell_rowL k1 (i * 3 + 1) (.int .i64 r.key)
  have k3 := setCell_rowL k2 (i * 3 + 2) (.int .i64 r.mode)
  refine ⟨⟨_, k3, by simp [h2], ?_, fun x hx1 hx2 => ?_⟩, by rw [e, List.length_append, ← h.len]; rfl, grownBy_trans (grownBy_trans (grownBy_trans h.grown (grownBy_set _ _)) (grownBy_set _ _)) (grownBy_set _ _), by omega⟩
  · rw [Array.toList_setIfInBounds, Array.toList_setIfInBounds, Array.toList_setIfInBounds, take_set3 _ _ _ _ _ (by rw [Array.length_toList, h2]; omega), h3, e, List.flatMap_append]
    rfl
  · rw [Array.getElem?_setIfInBounds, if_neg (by omega), Array.getElem?_setIfInBounds, if_neg (by omega), Array.getElem?_setIfInBounds, if_neg (by omega)]
    exact h4 x (by omega) hx2
theorem DelSt.frozen {w0 w : World} {g cap : Nat} {T : List HoldD} {s : Int} {i j : Nat} (h : DelSt w0 w g cap T s i j) (x : Nat) : w.frozen? ⟨g, x, none⟩ = false := by
  obtain ⟨cur, h1, _⟩ := h.row
  exact rowFrozen h1 x
theorem DelSt.some_ {w0 w : World} {g cap : Nat} {T : List HoldD} {s : Int} {i j : Nat} (h : DelSt w0 w g cap T s i j) {x : Nat} (hx : x < cap * 3) : ∃ u, w.cell? ⟨g, x, none⟩ = some u := by
  obtain ⟨cur, h1, h2, _⟩ := h.row
  rw [cell_of_row w g _ _ _ _ h1]
  exact ⟨_, Array.getElem?_eq_getElem (by rw [h2]; exact hx)⟩
/-- at the end: what is left over is cleared -/
theorem DelSt.clear {base : Nat} {w0 w : World} {g cap : Nat} {T : List HoldD} {s : Int} {i : Nat} (h : DelSt w0 w g cap T s i T.length) (hcap : T.length ≤ cap) (hcm : cap ≤ maxLen) (hbg : base ≤ g) (hW : ∀ r ∈ T, r.W) (c : Nat) :
    ∃ w', (∀ ty, (Builtin.clear_ #[24] ty #[.slice (some ⟨g, i * 3, none⟩) (T.length - i) c]).run Try.prog w = .ok (.tuple #[]) w') ∧ Ho base w' (.slice (some ⟨g, 0, none⟩) i cap) (freeT T s) ∧ w0.grownBy w' (some g) := by
  obtain ⟨cur, h1, h2, h3, h4⟩ := h.row
  have hlt := h.lt
  obtain ⟨vs, hrun⟩ := run_clear_hold w g (i * 3) (T.length - i) c (by omega) (fun j hj => by
    rw [cell_of_row w g _ _ _ _ h1, Array.getElem?_eq_getElem (by rw [h2]; omega)]; rfl) (fun j hj => rowFrozen h1 _)
  obtain ⟨cs', s1, s2, s3, s4⟩ := setCells_row vs (i * 3) w cur h1
  have hi : i = (freeT T s).length := by have := h.len; rw [List.take_length] at this; exact this
  rw [List.take_length] at h3
  refine ⟨_, hrun, ⟨fun r hr => hW r (by unfold freeT at hr; exact (List.mem_filter.1 hr).1), by rw [flatH_len, ← hi], .inr ⟨g, cap, cs', by rw [hi], hbg, s1, by omega, hcm, by rw [s2]; exact h2, ?_⟩⟩, grownBy_trans h.grown s4⟩
  rw [← hi, ← h3]
  apply List.ext_getElem?
  intro x
  rw [List.getElem?_take, List.getElem?_take]
  split
  · rename_i hx
    rw [Array.getElem?_toList, Array.getElem?_toList, s3 x hx]
  · rfl
end Go.Proofs.Ytpgelebmhhcodaa
