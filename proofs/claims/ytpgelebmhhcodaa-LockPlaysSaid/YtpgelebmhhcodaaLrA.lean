/- The document's table of locks in memory (printed by mklr.py out of LkA, LkD, LkE, LkF). -/
import Derived.Test.YtpgelebmhhcodaaLkQ
namespace Go.Proofs.Ytpgelebmhhcodaa
open Go.RowKit
set_option linter.unusedVariables false

/-- holds in a row of their own -/
def Hr (base : Nat) (w : World) (v : Value) (T : List HoldD) : Prop := (∀ h ∈ T, h.W) ∧ w.ownsRow base 119 3 v T.length (T.flatMap holdCl)
theorem Hr.nil {base : Nat} {w : World} : Hr base w (.slice none 0 0) [] := ⟨fun _ h => by simp at h, World.ownsRow_nil _ _ _ _⟩
theorem Hr.same {base : Nat} {w w' : World} {v : Value} {T : List HoldD} (h : Hr base w v T) (hb : ∀ b, v.ownBlock = some b → w'.heap[b]? = w.heap[b]?) : Hr base w' v T := ⟨h.1, ownsRow_sameL h.2 hb⟩
theorem Hr.lt {base : Nat} {w : World} {v : Value} {T : List HoldD} (h : Hr base w v T) {b : Nat} (hb : v.ownBlock = some b) : base ≤ b ∧ b < w.heap.size := h.2.lt b hb
theorem Hr.below {base : Nat} {w w' : World} {v : Value} {T : List HoldD} (h : Hr base w v T) (hb : Below w.heap.size w w') : Hr base w' v T := h.same fun b e => hb.block b (h.lt e).2
theorem Hr.form {base : Nat} {w : World} {v : Value} {T : List HoldD} (h : Hr base w v T) :
    ∃ o cap, v = .slice o T.length cap ∧ T.length ≤ cap ∧ cap ≤ maxLen ∧ (o = none → cap = 0 ∧ T = []) ∧ (∀ a, o = some a → ∃ g, a = ⟨g, 0, none⟩ ∧ base ≤ g ∧ g < w.heap.size ∧ (∀ i r, T[i]? = some r → ∀ j, j < 3 → w.cell? ⟨g, i * 3 + j, none⟩ = (holdCl r)[j]?)) := by
  rcases h.2.2 with ⟨rfl, hn⟩ | ⟨g, cap, cur, rfl, hbg, hg, hn, hcm, hcs, ht⟩
  · have : T = [] := List.eq_nil_of_length_eq_zero hn
    subst this
    exact ⟨none, 0, rfl, by simp, by simp [maxLen], fun _ => ⟨rfl, rfl⟩, fun a e => by simp at e⟩
  · refine ⟨some ⟨g, 0, none⟩, cap, rfl, hn, hcm, by simp, fun a e => ⟨g, by simpa using e.symm, hbg, (Array.getElem?_eq_some_iff.1 hg).1, fun i r hr j hj => ?_⟩⟩
    have hi : i < T.length := (List.getElem?_eq_some_iff.1 hr).1
    rw [cell_of_row w g _ _ _ _ hg, ← flatH T i j r hr hj, ← ht, List.getElem?_take, if_pos (by omega)]
    simp
theorem Hr.at_ {base : Nat} {w : World} {o : Option Addr} {n cap : Nat} {T : List HoldD} (h : Hr base w (.slice o n cap) T) {k : Nat} (hk : k < T.length) :
    ∃ g r, o = some ⟨g, 0, none⟩ ∧ base ≤ g ∧ g < w.heap.size ∧ T[k]? = some r ∧ r.W ∧ w.cell? ⟨g, k * 3, none⟩ = some (.int .i64 r.s) ∧ w.cell? ⟨g, k * 3 + 1, none⟩ = some (.int .i64 r.key) ∧ w.cell? ⟨g, k * 3 + 2, none⟩ = some (.int .i64 r.mode) := by
  obtain ⟨o', cap', he, h1, h2, h3, h4⟩ := h.form
  simp only [Value.slice.injEq] at he
  obtain ⟨rfl, _, rfl⟩ := he
  cases o with
  | none => rw [(h3 rfl).2] at hk; simp at hk
  | some a =>
    obtain ⟨g, rfl, hb, hg, hc⟩ := h4 a rfl
    have hr := List.getElem?_eq_getElem hk
    exact ⟨g, T[k], rfl, hb, hg, hr, h.1 _ (List.getElem_mem hk), hc k _ hr 0 (by omega), hc k _ hr 1 (by omega), hc k _ hr 2 (by omega)⟩

/-- the table of locks -/
structure Tr (w : World) (X : Nat) (v : Value) (T : List HoldD) : Prop where
  head : w.heap[X]? = some (.cells #[v] 61 (0, 0))
  own : Hr 0 w v T
  vX : v.ownBlock ≠ some X
  len : T.length ≤ 10000
def Tr.F (X : Nat) (v : Value) : Nat → Prop := fun b => b = X ∨ v.ownBlock = some b
theorem Tr.low {w : World} {X : Nat} {v : Value} {T : List HoldD} (h : Tr w X v T) {b : Nat} (hb : Tr.F X v b) : b < w.heap.size := by
  rcases hb with rfl | e
  · exact (Array.getElem?_eq_some_iff.1 h.head).1
  · exact (h.own.lt e).2
theorem Tr.same {w w' : World} {X : Nat} {v : Value} {T : List HoldD} (h : Tr w X v T) (hb : ∀ b, Tr.F X v b → w'.heap[b]? = w.heap[b]?) : Tr w' X v T :=
  ⟨by rw [hb X (.inl rfl)]; exact h.head, h.own.same fun b e => hb b (.inr e), h.vX, h.len⟩
theorem Tr.below {w w' : World} {X : Nat} {v : Value} {T : List HoldD} (h : Tr w X v T) (hb : Below w.heap.size w w') : Tr w' X v T := h.same fun b hf => hb.block b (h.low hf)
theorem Tr.cell {w : World} {X : Nat} {v : Value} {T : List HoldD} (h : Tr w X v T) : w.cell? ⟨X, 0, none⟩ = some v ∧ w.frozen? ⟨X, 0, none⟩ = false := ⟨by rw [cell_of_row w X _ _ _ (0, 0) h.head]; rfl, rowFrozen h.head 0⟩
theorem Tr.new (w : World) : Tr (w.alloc (.cells #[.slice none 0 0] 61)) w.heap.size (.slice none 0 0) [] := ⟨heap_alloc_new w _, Hr.nil, by simp [Value.ownBlock], by simp⟩

theorem heldInfo : (Try.prog.info? 119).map (fun i => (i.zero, i.size, i.bytes)) = some (some (.agg #[.int .i64 0, .int .i64 0, .int .i64 0]), 3, 24) := by kernel_rfl
theorem held_laid (a b c : Int) (w : World) : (Instr.buildSlice 59 1 #[(0, .agg #[.int .i64 a, .int .i64 b, .int .i64 c])]).run Try.prog w = .ok (.slice (some ⟨w.heap.size, 0, none⟩) 1 1) (w.alloc (.cells #[.int .i64 a, .int .i64 b, .int .i64 c] 119)) := by kernel_rfl
/-- append of one hold that lies in a block -/
theorem Hr.append1 {base : Nat} {w : World} {v : Value} {T : List HoldD} (h : Hr base w v T) (r : HoldD) (hr : r.W) (hbase : base ≤ w.heap.size) (hn : T.length ≤ 1000000) (g0 : Nat) (hg : w.heap[g0]? = some (.cells (holdCl r).toArray 119 (0, 0))) (c0 : Nat) (ty : TypeId) :
    ∃ gb cap w', (Builtin.append_ #[59, 59] ty #[v, .slice (some ⟨g0, 0, none⟩) 1 c0]).run Try.prog w = .ok (.slice (some ⟨gb, 0, none⟩) (T.length + 1) cap) w' ∧
      Hr base w' (.slice (some ⟨gb, 0, none⟩) (T.length + 1) cap) (T ++ [r]) ∧ w.grownBy w' v.ownBlock ∧ (v.ownBlock = some gb ∨ gb = w.heap.size) := by
  obtain ⟨i0, hi0, hz0, hz1, hz2⟩ := info_parts heldInfo
  obtain ⟨gb, cap, w', hrun, hown, hgrow, hat, hlt⟩ := run_append_lies (P := Try.prog) w 59 ty base 119 i0 _ 3 24 Try.underlying59 hi0 hz0 hz1 hz2 rfl (by omega)
    v T.length _ h.2 ⟨g0, 0, none⟩ 1 c0 (holdCl r) rfl (World.news_of_block (cs := (holdCl r).toArray) (t := 119) (fr := (0, 0)) hg) (fun u hu => by
      simp only [holdCl, List.mem_cons, List.not_mem_nil, or_false] at hu
      rcases hu with rfl | rfl | rfl <;> rfl) (by omega) (by simp [maxLen]; omega) (by omega) hbase _ rfl
  exact ⟨gb, cap, w', hrun, ⟨fun x hx => by
      rcases List.mem_append.1 hx with hx | hx
      · exact h.1 x hx
      · rw [List.mem_singleton.1 hx]; exact hr, by rw [List.length_append, List.flatMap_append]; simpa using hown⟩, hgrow, hat⟩

/-- the holds stored anew -/
theorem Tr.put {w w1 w2 : World} {X : Nat} {v v' : Value} {T M : List HoldD} (h : Tr w X v T) (hb : Below w.heap.size w w1) (hg : w1.grownBy w2 v.ownBlock) (ho : Hr 0 w2 v' M)
    (hv : ∀ b, v'.ownBlock = some b → v.ownBlock = some b ∨ w1.heap.size ≤ b) (hl : M.length ≤ 10000) :
    (w2.cell? ⟨X, 0, none⟩ = some v ∧ w2.frozen? ⟨X, 0, none⟩ = false) ∧ Tr (w2.setCell ⟨X, 0, none⟩ v') X v' M ∧ Ext (Tr.F X v) w (Tr.F X v') (w2.setCell ⟨X, 0, none⟩ v') := by
  have h1 := h.below hb
  have hX1 : X < w1.heap.size := h1.low (.inl rfl)
  have hh2 : w2.heap[X]? = some (.cells #[v] 61 (0, 0)) := by rw [hg.block X hX1 fun e => h.vX e.symm]; exact h1.head
  have hne : ∀ b, b ≠ X → (w2.setCell ⟨X, 0, none⟩ v').heap[b]? = w2.heap[b]? := fun b hb => setCell_otherL w2 _ _ hb
  have hvX : v'.ownBlock ≠ some X := fun e => by
    rcases hv X e with e1 | e1
    · exact h.vX e1
    · omega
  refine ⟨⟨?_, rowFrozen hh2 0⟩, ⟨?_, ho.same fun b e => hne b fun e2 => hvX (e2 ▸ e), hvX, hl⟩, ?_⟩
  · rw [cell_of_row w2 X _ _ _ (0, 0) hh2]; rfl
  · rw [setCell_rowL hh2]; rfl
  · refine ⟨hg.os.trans hb.os, hg.tape.trans hb.tape, hg.output.trans hb.output, ?_, fun b hbl hn => ?_, fun b hf => ?_⟩
    · have : (w2.setCell ⟨X, 0, none⟩ v').heap.size = w2.heap.size := by show (w2.heap.modify X _).size = _; simp
      rw [this]; exact Nat.le_trans hb.size hg.size
    · rw [hne b fun e => hn (.inl e), hg.block b (Nat.lt_of_lt_of_le hbl hb.size) (fun e => hn (.inr e.symm)), hb.block b hbl]
    · rcases hf with e | e
      · exact .inl (.inl e)
      · rcases hv b e with e1 | e1
        · exact .inl (.inr e1)
        · exact .inr (Nat.le_trans hb.size e1)

theorem Hr.setM {base : Nat} {w : World} {g n cap : Nat} {T : List HoldD} (h : Hr base w (.slice (some ⟨g, 0, none⟩) n cap) T) (k : Nat) (hk : k < T.length) (m : Int) (hm : m = 1 ∨ m = 2) :
    Hr base (w.setCell ⟨g, k * 3 + 2, none⟩ (.int .i64 m)) (.slice (some ⟨g, 0, none⟩) n cap) (Go.Proofs.Ytpgelebmhhcodaa.setM T k m) := by
  obtain ⟨hW, hlen, hrow⟩ := h
  rcases hrow with ⟨hv, _⟩ | ⟨g', cap', cur, hv, hbg, hg, hn, hcm, hcs, ht⟩
  · simp at hv
  · simp only [Value.slice.injEq, Option.some.injEq, Addr.mk.injEq, and_true] at hv
    obtain ⟨rfl, rfl, rfl⟩ := hv
    have hls : (Go.Proofs.Ytpgelebmhhcodaa.setM T k m).length = T.length := by unfold Go.Proofs.Ytpgelebmhhcodaa.setM; rw [List.length_set]
    refine ⟨fun x hx => ?_, by rw [flatH_len, hls], .inr ⟨g, cap, cur.setIfInBounds (k * 3 + 2) (.int .i64 m), by rw [hls], hbg, setCell_rowL hg _ _, by rw [hls]; exact hn, hcm, by rw [Array.size_setIfInBounds]; exact hcs, ?_⟩⟩
    · unfold Go.Proofs.Ytpgelebmhhcodaa.setM at hx
      rcases List.mem_or_eq_of_mem_set hx with hx | hx
      · exact hW x hx
      · have hg2 := hW T[k] (List.getElem_mem hk)
        have e : T.getD k ⟨0, 0, 1⟩ = T[k] := by rw [List.getD_eq_getElem?_getD, List.getElem?_eq_getElem hk]; rfl
        rw [hx, e]
        exact ⟨hg2.s, hg2.key, hm⟩
    · rw [hls, flat_setM T k hk, ← ht, Array.toList_setIfInBounds]
      rw [List.take_set]
theorem Tr.appendT {w : World} {X : Nat} {v : Value} {T : List HoldD} (h : Tr w X v T) (r : HoldD) (hr : r.W) (hl : T.length < 10000) {W : World} (hb : Below w.heap.size w W) :
    ∃ gb cap w3, (Builtin.append_ #[59, 59] 59 #[v, .slice (some ⟨W.heap.size, 0, none⟩) 1 1]).run Try.prog (W.drew.alloc (.cells #[.int .i64 r.s, .int .i64 r.key, .int .i64 r.mode] 119)) = .ok (.slice (some ⟨gb, 0, none⟩) (T.length + 1) cap) w3 ∧
      (w3.cell? ⟨X, 0, none⟩ = some v ∧ w3.frozen? ⟨X, 0, none⟩ = false) ∧
      Tr (w3.setCell ⟨X, 0, none⟩ (.slice (some ⟨gb, 0, none⟩) (T.length + 1) cap)) X (.slice (some ⟨gb, 0, none⟩) (T.length + 1) cap) (T ++ [r]) ∧
      Ext (Tr.F X v) w (Tr.F X (.slice (some ⟨gb, 0, none⟩) (T.length + 1) cap)) (w3.setCell ⟨X, 0, none⟩ (.slice (some ⟨gb, 0, none⟩) (T.length + 1) cap)) := by
  have hbd : Below w.heap.size w W.drew := hb.drew
  have hba : Below w.heap.size w (W.drew.alloc (.cells #[.int .i64 r.s, .int .i64 r.key, .int .i64 r.mode] 119)) := hbd.alloc hbd.size _
  have ha := h.below hba
  obtain ⟨gb, cap, w3, hrun, ho3, hg3, hat⟩ := ha.own.append1 r hr (Nat.zero_le _) (by omega) W.drew.heap.size (heap_alloc_new W.drew _) 1 59
  obtain ⟨k1, hlg, hx⟩ := h.put hba hg3 ho3 (fun b e => by
    have e' : gb = b := by simpa [Value.ownBlock] using e
    rcases hat with h1 | h1
    · exact .inl (by rw [← e']; exact h1)
    · exact .inr (by rw [← e', h1]; exact Nat.le_refl _)) (by rw [List.length_append]; simp; omega)
  exact ⟨gb, cap, w3, hrun, k1, hlg, hx⟩
theorem Tr.setM {w : World} {X g n cap : Nat} {T : List HoldD} (h : Tr w X (.slice (some ⟨g, 0, none⟩) n cap) T) (k : Nat) (hk : k < T.length) (m : Int) (hm : m = 1 ∨ m = 2) :
    Tr (w.setCell ⟨g, k * 3 + 2, none⟩ (.int .i64 m)) X (.slice (some ⟨g, 0, none⟩) n cap) (Go.Proofs.Ytpgelebmhhcodaa.setM T k m) ∧ Ext (Tr.F X (.slice (some ⟨g, 0, none⟩) n cap)) w (Tr.F X (.slice (some ⟨g, 0, none⟩) n cap)) (w.setCell ⟨g, k * 3 + 2, none⟩ (.int .i64 m)) := by
  have hgX : X ≠ g := fun e => h.vX (by rw [e]; rfl)
  refine ⟨⟨by rw [setCell_otherL w _ _ hgX]; exact h.head, h.own.setM k hk m hm, h.vX, by unfold Go.Proofs.Ytpgelebmhhcodaa.setM; rw [List.length_set]; exact h.len⟩, ext_setCell (.inr rfl) _ _⟩

/-- a table in new blocks -/
structure TWr (w0 w : World) (X : Nat) (v : Value) (T : List HoldD) : Prop where
  tb : Tr w X v T
  bel : Below w0.heap.size w0 w
  low : ∀ b, Tr.F X v b → w0.heap.size ≤ b
theorem TWr.below {w0 w w' : World} {X : Nat} {v : Value} {T : List HoldD} (h : TWr w0 w X v T) (hb : Below w.heap.size w w') : TWr w0 w' X v T := ⟨h.tb.below hb, h.bel.trans (hb.mono h.bel.size), h.low⟩
theorem TWr.turn {w0 w w' : World} {X : Nat} {v v' : Value} {T T' : List HoldD} (h : TWr w0 w X v T) (ht : Tr w' X v' T') (hx : Ext (Tr.F X v) w (Tr.F X v') w') : TWr w0 w' X v' T' := ⟨ht, h.bel.trans (hx.below h.low h.bel.size), hx.low h.low h.bel.size⟩
theorem TWr.new {w0 w : World} (hb : Below w0.heap.size w0 w) : TWr w0 (w.alloc (.cells #[.slice none 0 0] 61)) w.heap.size (.slice none 0 0) [] :=
  ⟨Tr.new w, hb.alloc hb.size _, fun b h => by
    rcases h with rfl | h
    · exact hb.size
    · simp [Value.ownBlock] at h⟩
end Go.Proofs.Ytpgelebmhhcodaa
