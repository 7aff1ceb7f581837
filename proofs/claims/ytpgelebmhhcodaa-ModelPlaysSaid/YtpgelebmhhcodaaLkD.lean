/- Contract: Take. -/
import Derived.Test.YtpgelebmhhcodaaLkC
import Derived.Deep.RegionLaw
namespace Go.Proofs.Ytpgelebmhhcodaa
open Go.RowKit
set_option linter.unusedVariables false

theorem step_append_runL {P : Program} (w : World) {ops : Array Oper} {o : Oper} {a : Act} {K : Act → World → Prop} {Q : Exit → Act → World → Prop} {E : Prop} (hgd : o.guard = none) (s x : Operand) (t tn : TypeId)
    (ho : o.op = .call { callee := .builtin .append, args := #[s, x], argTypes := #[t, tn] }) (vs vx : Value) (hs : a.eval s = vs) (hx : a.eval x = vx)
    (v' : Value) (w' : World) (hr : (Builtin.append_ #[t, tn] o.type #[vs, vx]).run P w = .ok v' w') (h : K (a.put o.dst v') w') : if Region.wanted o (yielded ops a.tmps) = true then Oper.wp P o a w K Q else E := by
  have hw : Region.wanted o (yielded ops a.tmps) = true := by simp [Region.wanted, hgd]
  rw [if_pos hw]
  exact Lib.wp_append_run w s x t tn ho vs vx hs hx v' w' hr h
theorem wp_bs_runL {P : Program} {o : Oper} {a : Act} {w : World} {K : Act → World → Prop} {Q : Exit → Act → World → Prop} (t : TypeId) (n : Nat) (ps : Array (Nat × Operand)) (ho : o.op = .buildSlice t n ps) (vs : Array (Nat × Value)) (hv : (ps.map fun (i, x) => (i, a.eval x)) = vs) (v' : Value) (w' : World)
    (hr : (Instr.buildSlice t n vs).run P w = .ok v' w') (h : K (a.put o.dst v') w') : o.wp P a w K Q := by
  unfold Oper.wp execOp
  simp only [ho, hv, Sem.run_bind, Sem.run_pure, Result.andThen_ok, hr]
  exact h
theorem step_bs_runL {P : Program} (w : World) {ops : Array Oper} {o : Oper} {a : Act} {K : Act → World → Prop} {Q : Exit → Act → World → Prop} {E : Prop} (hgd : o.guard = none) (t : TypeId) (n : Nat) (ps : Array (Nat × Operand)) (ho : o.op = .buildSlice t n ps) (vs : Array (Nat × Value)) (hv : (ps.map fun (i, x) => (i, a.eval x)) = vs) (v' : Value) (w' : World)
    (hr : (Instr.buildSlice t n vs).run P w = .ok v' w') (h : K (a.put o.dst v') w') : if Region.wanted o (yielded ops a.tmps) = true then Oper.wp P o a w K Q else E := by
  have hw : Region.wanted o (yielded ops a.tmps) = true := by simp [Region.wanted, hgd]
  rw [if_pos hw]
  exact wp_bs_runL t n ps ho vs hv v' w' hr h

theorem holdInfo : (Try.prog.info? 91).map (fun i => (i.zero, i.size, i.bytes)) = some (some (.agg #[.int .i64 0, .int .i64 0, .int .i64 0]), 3, 24) := by kernel_rfl
theorem hold_laid (a b c : Int) (w : World) : (Instr.buildSlice 24 1 #[(0, .agg #[.int .i64 a, .int .i64 b, .int .i64 c])]).run Try.prog w = .ok (.slice (some ⟨w.heap.size, 0, none⟩) 1 1) (w.alloc (.cells #[.int .i64 a, .int .i64 b, .int .i64 c] 91)) := by kernel_rfl
/-- append of one hold that lies in a block -/
theorem Ho.append1 {base : Nat} {w : World} {v : Value} {T : List HoldD} (h : Ho base w v T) (r : HoldD) (hr : r.W) (hbase : base ≤ w.heap.size) (hn : T.length ≤ 1000000) (g0 : Nat) (hg : w.heap[g0]? = some (.cells (holdCl r).toArray 91 (0, 0))) (c0 : Nat) (ty : TypeId) :
    ∃ gb cap w', (Builtin.append_ #[24, 24] ty #[v, .slice (some ⟨g0, 0, none⟩) 1 c0]).run Try.prog w = .ok (.slice (some ⟨gb, 0, none⟩) (T.length + 1) cap) w' ∧
      Ho base w' (.slice (some ⟨gb, 0, none⟩) (T.length + 1) cap) (T ++ [r]) ∧ w.grownBy w' v.ownBlock ∧ (v.ownBlock = some gb ∨ gb = w.heap.size) := by
  obtain ⟨i0, hi0, hz0, hz1, hz2⟩ := info_parts holdInfo
  obtain ⟨gb, cap, w', hrun, hown, hgrow, hat, hlt⟩ := run_append_lies (P := Try.prog) w 24 ty base 91 i0 _ 3 24 Try.underlying24 hi0 hz0 hz1 hz2 rfl (by omega)
    v T.length _ h.2 ⟨g0, 0, none⟩ 1 c0 (holdCl r) rfl (World.news_of_block (cs := (holdCl r).toArray) (t := 91) (fr := (0, 0)) hg) (fun u hu => by
      simp only [holdCl, List.mem_cons, List.not_mem_nil, or_false] at hu
      rcases hu with rfl | rfl | rfl <;> rfl) (by omega) (by simp [maxLen]; omega) (by omega) hbase _ rfl
  exact ⟨gb, cap, w', hrun, ⟨fun x hx => by
      rcases List.mem_append.1 hx with hx | hx
      · exact h.1 x hx
      · rw [List.mem_singleton.1 hx]; exact hr, by rw [List.length_append, List.flatMap_append]; simpa using hown⟩, hgrow, hat⟩

theorem setCell_otherL (w : World) (a : Addr) (x : Value) {b : Nat} (hb : b ≠ a.block) : (w.setCell a x).heap[b]? = w.heap[b]? := by
  show (w.heap.modify a.block _)[b]? = _
  rw [Array.getElem?_modify, if_neg (fun e : a.block = b => hb e.symm)]
theorem setCell_rowL {w : World} {A : Nat} {T : TypeId} {cs : Array Value} {r : Nat × Nat} (h : w.heap[A]? = some (.cells cs T r)) (i : Nat) (v : Value) : (w.setCell ⟨A, i, none⟩ v).heap[A]? = some (.cells (cs.setIfInBounds i v) T r) := by
  unfold World.setCell
  simp [Array.getElem?_modify, h]
/-- the holds stored anew -/
theorem Tb.put {w w1 w2 : World} {X : Nat} {v v' : Value} {T M : List HoldD} (h : Tb w X v T) (hb : Below w.heap.size w w1) (hg : w1.grownBy w2 v.ownBlock) (ho : Ho 0 w2 v' M)
    (hv : ∀ b, v'.ownBlock = some b → v.ownBlock = some b ∨ w1.heap.size ≤ b) (hl : M.length ≤ 10000) :
    (w2.cell? ⟨X, 0, none⟩ = some v ∧ w2.frozen? ⟨X, 0, none⟩ = false) ∧ Tb (w2.setCell ⟨X, 0, none⟩ v') X v' M ∧ Ext (Tb.F X v) w (Tb.F X v') (w2.setCell ⟨X, 0, none⟩ v') := by
  have h1 := h.below hb
  have hX1 : X < w1.heap.size := h1.low (.inl rfl)
  have hh2 : w2.heap[X]? = some (.cells #[v] 26 (0, 0)) := by rw [hg.block X hX1 fun e => h.vX e.symm]; exact h1.head
  have hne : ∀ b, b ≠ X → (w2.setCell ⟨X, 0, none⟩ v').heap[b]? = w2.heap[b]? := fun b hb => setCell_otherL w2 _ _ hb
  have hvX : v'.ownBlock ≠ some X := fun e => by
    rcases hv X e with e1 | e1
    · exact h.vX e1
    · omega
  refine ⟨⟨?_, rowFrozen hh2 0⟩, ⟨?_, ho.same fun b e => hne b fun e2 => hvX (e2 ▸ e), hvX, hl⟩, ?_⟩
  · rw [cell_of_row w2 X _ _ _ (0, 0) hh2]; rfl
  · rw [setCell_rowL hh2]; rfl
  · refine ⟨hg.os.trans hb.os, hg.tape.trans hb.tape, hg.output.trans hb.output, ?_, fun b hbl hn => ?_, fun b hf => ?_⟩
    · have : (w2.setCell ⟨X, 0, none⟩ v').heap.size = w2.heap.size := by show (w2.heap.modify X _).size = _; simp
      rw [this]; exact Nat.le_trans hb.size hg.size
    · rw [hne b fun e => hn (.inl e), hg.block b (Nat.lt_of_lt_of_le hbl hb.size) (fun e => hn (.inr e.symm)), hb.block b hbl]
    · rcases hf with e | e
      · exact .inl (.inl e)
      · rcases hv b e with e1 | e1
        · exact .inl (.inr e1)
        · exact .inr (Nat.le_trans hb.size e1)

/-- a hold's mode set in place -/
def setM (T : List HoldD) (k : Nat) (m : Int) : List HoldD := T.set k ⟨(T.getD k ⟨0, 0, 1⟩).s, (T.getD k ⟨0, 0, 1⟩).key, m⟩
theorem flat_setM (T : List HoldD) (k : Nat) (hk : k < T.length) (m : Int) : (setM T k m).flatMap holdCl = (T.flatMap holdCl).set (k * 3 + 2) (.int .i64 m) := by
  apply List.ext_getElem?
  intro i
  rw [List.getElem?_set, flatH_len]
  by_cases hi : i < T.length * 3
  · have e : i = i / 3 * 3 + i % 3 := by omega
    have hr : T[i / 3]? = some T[i / 3] := List.getElem?_eq_getElem (by omega)
    by_cases hik : i / 3 = k
    · have hs : (setM T k m)[i / 3]? = some ⟨T[k].s, T[k].key, m⟩ := by
        unfold setM
        rw [List.getElem?_set, if_pos hik.symm, if_pos hk, List.getD_eq_getElem?_getD, List.getElem?_eq_getElem hk]
        rfl
      have h5 := flatH _ (i / 3) (i % 3) _ hs (by omega)
      rw [← e] at h5
      rw [h5]
      have h6 := flatH _ (i / 3) (i % 3) _ hr (by omega)
      rw [← e] at h6
      have hTk : T[i / 3] = T[k] := by congr 1
      rw [hTk] at h6
      have h3 : i % 3 = 0 ∨ i % 3 = 1 ∨ i % 3 = 2 := by omega
      rcases h3 with h3 | h3 | h3
      · rw [h3] at h6; rw [if_neg (by omega), h6, h3]; rfl
      · rw [h3] at h6; rw [if_neg (by omega), h6, h3]; rfl
      · rw [if_pos (by omega), if_pos (by omega), h3]; rfl
    · have hs : (setM T k m)[i / 3]? = some T[i / 3] := by
        unfold setM
        rw [List.getElem?_set, if_neg (Ne.symm hik), hr]
      have h5 := flatH _ (i / 3) (i % 3) _ hs (by omega)
      have h6 := flatH _ (i / 3) (i % 3) _ hr (by omega)
      rw [← e] at h5 h6
      rw [if_neg (by omega), h5, h6]
  · have h1 : ((setM T k m).flatMap holdCl).length ≤ i := by rw [flatH_len]; unfold setM; rw [List.length_set]; omega
    rw [List.getElem?_eq_none h1, if_neg (by omega), List.getElem?_eq_none (by rw [flatH_len]; omega)]
theorem Ho.setM {base : Nat} {w : World} {g n cap : Nat} {T : List HoldD} (h : Ho base w (.slice (some ⟨g, 0, none⟩) n cap) T) (k : Nat) (hk : k < T.length) (m : Int) (hm : m = 1 ∨ m = 2) :
    Ho base (w.setCell ⟨g, k * 3 + 2, none⟩ (.int .i64 m)) (.slice (some ⟨g, 0, none⟩) n cap) (Go.Proofs.Ytpgelebmhhcodaa.setM T k m) := by
  obtain ⟨hW, hlen, hrow⟩ := h
  rcases hrow with ⟨hv, _⟩ | ⟨g', cap', cur, hv, hbg, hg, hn, hcm, hcs, ht⟩
  · simp at hv
  · simp only [Value.slice.injEq, Option.some.injEq, Addr.mk.injEq, and_true] at hv
    obtain ⟨rfl, rfl, rfl⟩ := hv
    have hls : (Go.Proofs.Ytpgelebmhhcodaa.setM T k m).length = T.length := by unfold Go.Proofs.Ytpgelebmhhcodaa.setM; rw [List.length_set]
    refine ⟨fun x hx => ?_, by rw [flatH_len, hls], .inr ⟨g, cap, cur.setIfInBounds (k * 3 + 2) (.int .i64 m), by rw [hls], hbg, setCell_rowL hg _ _, by rw [hls]; exact hn, hcm, by rw [Array.size_setIfInBounds]; exact hcs, ?_⟩⟩
    · unfold Go.Proofs.Ytpgelebmhhcodaa.setM at hx
      rcases List.mem_or_eq_of_mem_set hx with hx | hx
      · exact hW x hx
      · have hg2 := hW T[k] (List.getElem_mem hk)
        have e : T.getD k ⟨0, 0, 1⟩ = T[k] := by rw [List.getD_eq_getElem?_getD, List.getElem?_eq_getElem hk]; rfl
        rw [hx, e]
        exact ⟨hg2.s, hg2.key, hm⟩
    · rw [hls, flat_setM T k hk, ← ht, Array.toList_setIfInBounds]
      rw [List.take_set]
end Go.Proofs.Ytpgelebmhhcodaa
