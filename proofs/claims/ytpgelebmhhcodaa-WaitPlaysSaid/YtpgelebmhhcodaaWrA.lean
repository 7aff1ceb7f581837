/- The document's graph (pairs) in memory. -/
import Derived.Test.YtpgelebmhhcodaaWtL
import Derived.Test.YtpgelebmhhcodaaLrB
namespace Go.Proofs.Ytpgelebmhhcodaa
open Go.RowKit
set_option linter.unusedVariables false

def prCl (p : Int × Int) : List Value := [.int .i64 p.1, .int .i64 p.2]
theorem flatP_len (T : List (Int × Int)) : (T.flatMap prCl).length = T.length * 2 := by
  induction T with
  | nil => rfl
  | cons x T ih => rw [List.flatMap_cons, List.length_append, ih, List.length_cons]; simp [prCl]; omega
theorem flatP : ∀ (T : List (Int × Int)) (n i : Nat) (h : Int × Int), T[n]? = some h → i < 2 → (T.flatMap prCl)[n * 2 + i]? = (prCl h)[i]?
  | [], n, i, r, h, _ => by simp at h
  | x :: T, 0, i, r, h, hi => by
    simp only [List.getElem?_cons_zero, Option.some.injEq] at h
    subst h
    rw [List.flatMap_cons, List.getElem?_append_left (by simp [prCl]; omega)]
    simp
  | x :: T, n + 1, i, r, h, hi => by
    rw [List.flatMap_cons, List.getElem?_append_right (by simp [prCl]; omega), ← flatP T n i r (by simpa using h) hi]
    congr 1
    simp [prCl]
    omega
/-- pairs in a row of their own -/
def Wp (base : Nat) (w : World) (v : Value) (T : List (Int × Int)) : Prop := (∀ p ∈ T, I64L p.1 ∧ I64L p.2) ∧ w.ownsRow base 123 2 v T.length (T.flatMap prCl)
theorem Wp.nil {base : Nat} {w : World} : Wp base w (.slice none 0 0) [] := ⟨fun _ h => by simp at h, World.ownsRow_nil _ _ _ _⟩
theorem Wp.same {base : Nat} {w w' : World} {v : Value} {T : List (Int × Int)} (h : Wp base w v T) (hb : ∀ b, v.ownBlock = some b → w'.heap[b]? = w.heap[b]?) : Wp base w' v T := ⟨h.1, ownsRow_sameL h.2 hb⟩
theorem Wp.lt {base : Nat} {w : World} {v : Value} {T : List (Int × Int)} (h : Wp base w v T) {b : Nat} (hb : v.ownBlock = some b) : base ≤ b ∧ b < w.heap.size := h.2.lt b hb
theorem Wp.below {base : Nat} {w w' : World} {v : Value} {T : List (Int × Int)} (h : Wp base w v T) (hb : Below w.heap.size w w') : Wp base w' v T := h.same fun b e => hb.block b (h.lt e).2
theorem Wp.mono {base base' : Nat} {w : World} {v : Value} {T : List (Int × Int)} (h : Wp base w v T) (hb : base' ≤ base) : Wp base' w v T := by
  refine ⟨h.1, h.2.1, ?_⟩
  rcases h.2.2 with hn | ⟨g, cap, cur, hv, hbg, hg, r⟩
  · exact .inl hn
  · exact .inr ⟨g, cap, cur, hv, by omega, hg, r⟩
theorem Wp.grown {base B : Nat} {w0 w w' : World} {v : Value} {T : List (Int × Int)} (h : Wp base w v T) (hg : w.grownBy w' v.ownBlock) (hb : Below B w0 w) (h1 : B ≤ base) (h2 : B ≤ w.heap.size) : Below B w0 w' :=
  hb.grown hg h2 fun k hk => Nat.le_trans h1 (h.lt hk).1
theorem Wp.form {base : Nat} {w : World} {v : Value} {T : List (Int × Int)} (h : Wp base w v T) :
    ∃ o cap, v = .slice o T.length cap ∧ T.length ≤ cap ∧ cap ≤ maxLen ∧ (o = none → cap = 0 ∧ T = []) ∧ (∀ a, o = some a → ∃ g, a = ⟨g, 0, none⟩ ∧ base ≤ g ∧ g < w.heap.size ∧ (∀ i r, T[i]? = some r → ∀ j, j < 2 → w.cell? ⟨g, i * 2 + j, none⟩ = (prCl r)[j]?)) := by
  rcases h.2.2 with ⟨rfl, hn⟩ | ⟨g, cap, cur, rfl, hbg, hg, hn, hcm, hcs, ht⟩
  · have : T = [] := List.eq_nil_of_length_eq_zero hn
    subst this
    exact ⟨none, 0, rfl, by simp, by simp [maxLen], fun _ => ⟨rfl, rfl⟩, fun a e => by simp at e⟩
  · refine ⟨some ⟨g, 0, none⟩, cap, rfl, hn, hcm, by simp, fun a e => ⟨g, by simpa using e.symm, hbg, (Array.getElem?_eq_some_iff.1 hg).1, fun i r hr j hj => ?_⟩⟩
    have hi : i < T.length := (List.getElem?_eq_some_iff.1 hr).1
    rw [cell_of_row w g _ _ _ _ hg, ← flatP T i j r hr hj, ← ht, List.getElem?_take, if_pos (by omega)]
    simp
theorem Wp.at_ {base : Nat} {w : World} {o : Option Addr} {n cap : Nat} {T : List (Int × Int)} (h : Wp base w (.slice o n cap) T) {k : Nat} (hk : k < T.length) :
    ∃ g r, o = some ⟨g, 0, none⟩ ∧ T[k]? = some r ∧ I64L r.1 ∧ I64L r.2 ∧ w.cell? ⟨g, k * 2, none⟩ = some (.int .i64 r.1) ∧ w.cell? ⟨g, k * 2 + 1, none⟩ = some (.int .i64 r.2) := by
  obtain ⟨o', cap', he, h1, h2, h3, h4⟩ := h.form
  simp only [Value.slice.injEq] at he
  obtain ⟨rfl, _, rfl⟩ := he
  cases o with
  | none => rw [(h3 rfl).2] at hk; simp at hk
  | some a =>
    obtain ⟨g, rfl, hb, hg, hc⟩ := h4 a rfl
    have hr := List.getElem?_eq_getElem hk
    have hw := h.1 _ (List.getElem_mem hk)
    exact ⟨g, T[k], rfl, hr, hw.1, hw.2, hc k _ hr 0 (by omega), hc k _ hr 1 (by omega)⟩
theorem pairInfo : (Try.prog.info? 123).map (fun i => (i.zero, i.size, i.bytes)) = some (some (.agg #[.int .i64 0, .int .i64 0]), 2, 16) := by kernel_rfl
theorem pair_laid (a b : Int) (w : World) : (Instr.buildSlice 64 1 #[(0, .agg #[.int .i64 a, .int .i64 b])]).run Try.prog w = .ok (.slice (some ⟨w.heap.size, 0, none⟩) 1 1) (w.alloc (.cells #[.int .i64 a, .int .i64 b] 123)) := by kernel_rfl
/-- append of one pair that was just laid -/
theorem Wp.append1 {base : Nat} {w : World} {v : Value} {T : List (Int × Int)} (h : Wp base w v T) (a b : Int) (ha : I64L a) (hb : I64L b) (hbase : base ≤ w.heap.size) (hn : T.length ≤ 100000) :
    ∃ gb cap w', (Builtin.append_ #[64, 64] 64 #[v, .slice (some ⟨w.heap.size, 0, none⟩) 1 1]).run Try.prog (w.alloc (.cells #[.int .i64 a, .int .i64 b] 123)) = .ok (.slice (some ⟨gb, 0, none⟩) (T.length + 1) cap) w' ∧
      Wp base w' (.slice (some ⟨gb, 0, none⟩) (T.length + 1) cap) (T ++ [(a, b)]) ∧ (w.alloc (.cells #[.int .i64 a, .int .i64 b] 123)).grownBy w' v.ownBlock ∧ (v.ownBlock = some gb ∨ gb = w.heap.size + 1) := by
  obtain ⟨i0, hi0, hz0, hz1, hz2⟩ := info_parts pairInfo
  have hb1 : Below w.heap.size w (w.alloc (.cells #[.int .i64 a, .int .i64 b] 123)) := (Below.refl _ _).alloc (Nat.le_refl _) _
  obtain ⟨gb, cap, w', hrun, hown, hgrow, hat, hlt⟩ := run_append_lies (P := Try.prog) (w.alloc (.cells #[.int .i64 a, .int .i64 b] 123)) 64 64 base 123 i0 _ 2 16 Try.underlying64 hi0 hz0 hz1 hz2 rfl (by omega)
    v T.length _ (h.below hb1).2 ⟨w.heap.size, 0, none⟩ 1 1 (prCl (a, b)) rfl (World.news_of_block (cs := (prCl (a, b)).toArray) (t := 123) (fr := (0, 0)) (heap_alloc_new w _)) (fun u hu => by
      simp only [prCl, List.mem_cons, List.not_mem_nil, or_false] at hu
      rcases hu with rfl | rfl <;> rfl) (by omega) (by simp [maxLen]; omega) (by omega) (by simp; omega) _ rfl
  exact ⟨gb, cap, w', hrun, ⟨fun x hx => by
      rcases List.mem_append.1 hx with hx | hx
      · exact h.1 x hx
      · rw [List.mem_singleton.1 hx]; exact ⟨ha, hb⟩, by rw [List.length_append, List.flatMap_append]; simpa using hown⟩, hgrow, by simpa using hat⟩

/-- the document's graph -/
structure Wr (w : World) (X : Nat) (v : Value) (T : List (Int × Int)) : Prop where
  head : w.heap[X]? = some (.cells #[v] 66 (0, 0))
  own : Wp 0 w v T
  vX : v.ownBlock ≠ some X
  len : T.length ≤ 10000
def Wr.F (X : Nat) (v : Value) : Nat → Prop := fun b => b = X ∨ v.ownBlock = some b
theorem Wr.low {w : World} {X : Nat} {v : Value} {T : List (Int × Int)} (h : Wr w X v T) {b : Nat} (hb : Wr.F X v b) : b < w.heap.size := by
  rcases hb with rfl | e
  · exact (Array.getElem?_eq_some_iff.1 h.head).1
  · exact (h.own.lt e).2
theorem Wr.same {w w' : World} {X : Nat} {v : Value} {T : List (Int × Int)} (h : Wr w X v T) (hb : ∀ b, Wr.F X v b → w'.heap[b]? = w.heap[b]?) : Wr w' X v T :=
  ⟨by rw [hb X (.inl rfl)]; exact h.head, h.own.same fun b e => hb b (.inr e), h.vX, h.len⟩
theorem Wr.below {w w' : World} {X : Nat} {v : Value} {T : List (Int × Int)} (h : Wr w X v T) (hb : Below w.heap.size w w') : Wr w' X v T := h.same fun b hf => hb.block b (h.low hf)
theorem Wr.cell {w : World} {X : Nat} {v : Value} {T : List (Int × Int)} (h : Wr w X v T) : w.cell? ⟨X, 0, none⟩ = some v ∧ w.frozen? ⟨X, 0, none⟩ = false := ⟨by rw [cell_of_row w X _ _ _ (0, 0) h.head]; rfl, rowFrozen h.head 0⟩
theorem Wr.new (w : World) : Wr (w.alloc (.cells #[.slice none 0 0] 66)) w.heap.size (.slice none 0 0) [] := ⟨heap_alloc_new w _, Wp.nil, by simp [Value.ownBlock], by simp⟩
/-- the pairs stored anew -/
theorem Wr.put {w w1 w2 : World} {X : Nat} {v v' : Value} {T M : List (Int × Int)} (h : Wr w X v T) (hb : Below w.heap.size w w1) (hg : w1.grownBy w2 v.ownBlock) (ho : Wp 0 w2 v' M)
    (hv : ∀ b, v'.ownBlock = some b → v.ownBlock = some b ∨ w.heap.size ≤ b) (hl : M.length ≤ 10000) :
    (w2.cell? ⟨X, 0, none⟩ = some v ∧ w2.frozen? ⟨X, 0, none⟩ = false) ∧ Wr (w2.setCell ⟨X, 0, none⟩ v') X v' M ∧ Ext (Wr.F X v) w (Wr.F X v') (w2.setCell ⟨X, 0, none⟩ v') := by
  have h1 := h.below hb
  have hX0 : X < w.heap.size := h.low (.inl rfl)
  have hX1 : X < w1.heap.size := h1.low (.inl rfl)
  have hh2 : w2.heap[X]? = some (.cells #[v] 66 (0, 0)) := by rw [hg.block X hX1 fun e => h.vX e.symm]; exact h1.head
  have hne : ∀ b, b ≠ X → (w2.setCell ⟨X, 0, none⟩ v').heap[b]? = w2.heap[b]? := fun b hb => setCell_otherL w2 _ _ hb
  have hvX : v'.ownBlock ≠ some X := fun e => by
    rcases hv X e with e1 | e1
    · exact h.vX e1
    · omega
  refine ⟨⟨?_, rowFrozen hh2 0⟩, ⟨?_, ho.same fun b e => hne b fun e2 => hvX (e2 ▸ e), hvX, hl⟩, ?_⟩
  · rw [cell_of_row w2 X _ _ _ (0, 0) hh2]; rfl
  · rw [setCell_rowL hh2]; rfl
  · refine ⟨hg.os.trans hb.os, hg.tape.trans hb.tape, hg.output.trans hb.output, ?_, fun b hbl hn => ?_, fun b hf => ?_⟩
    · have : (w2.setCell ⟨X, 0, none⟩ v').heap.size = w2.heap.size := by show (w2.heap.modify X _).size = _; simp
      rw [this]; exact Nat.le_trans hb.size hg.size
    · rw [hne b fun e => hn (.inl e), hg.block b (Nat.lt_of_lt_of_le hbl hb.size) (fun e => hn (.inr e.symm)), hb.block b hbl]
    · rcases hf with e | e
      · exact .inl (.inl e)
      · rcases hv b e with e1 | e1
        · exact .inl (.inr e1)
        · exact .inr e1
/-- whom one waits for, as they stand -/
def ofL (T : List (Int × Int)) (s : Int) : List Int := (T.filter fun p => p.1 == s).map (·.2)
theorem ofL_step (T : List (Int × Int)) (s : Int) (k : Nat) (r : Int × Int) (hr : T[k]? = some r) : ofL (T.take (k + 1)) s = ofL (T.take k) s ++ (if (r.1 == s) = true then [r.2] else []) := by
  unfold ofL
  rw [List.take_add_one, hr, Option.toList_some, List.filter_append, List.map_append]
  congr 1
  rw [List.filter_cons]
  split <;> simp
theorem ofL_len (T : List (Int × Int)) (s : Int) : (ofL T s).length ≤ T.length := by unfold ofL; rw [List.length_map]; exact List.length_filter_le _ _
/-- whom each waits for -/
def ofM (T : List (Int × Int)) : Int → List Int := fun k => riseAll (ofL T k)
theorem ofM_mem (T : List (Int × Int)) (k x : Int) : x ∈ ofM T k ↔ (k, x) ∈ T := by
  unfold ofM
  rw [riseAll_mem]
  unfold ofL
  simp only [List.mem_map, List.mem_filter, beq_iff_eq]
  constructor
  · rintro ⟨p, ⟨h1, rfl⟩, rfl⟩; exact h1
  · intro h; exact ⟨(k, x), ⟨h, rfl⟩, rfl⟩
theorem ofM_rise (T : List (Int × Int)) (k : Int) : (ofM T k).Pairwise (· < ·) := riseAll_rise _
theorem ofM_len (T : List (Int × Int)) (k : Int) : (ofM T k).length ≤ T.length := Nat.le_trans (riseAll_len _) (ofL_len _ _)
theorem ofM_ext {M N : Int → List Int} (h1 : ∀ k, (M k).Pairwise (· < ·)) (h2 : ∀ k, (N k).Pairwise (· < ·)) (h : ∀ k x, x ∈ M k ↔ x ∈ N k) : M = N := funext fun k => rise_ext _ _ (h1 k) (h2 k) (h k)
def clearP (T : List (Int × Int)) (s : Int) : List (Int × Int) := T.filter fun p => !(p.1 == s)
def goneP (T : List (Int × Int)) (s : Int) : List (Int × Int) := (clearP T s).filter fun p => !(p.2 == s)
def waitP (T : List (Int × Int)) (s : Int) (who : List Int) : List (Int × Int) := clearP T s ++ (delI who s).map fun x => (s, x)
theorem clearP_mem (T : List (Int × Int)) (s : Int) (p : Int × Int) : p ∈ clearP T s ↔ p ∈ T ∧ p.1 ≠ s := by unfold clearP; rw [List.mem_filter]; simp
theorem goneP_mem (T : List (Int × Int)) (s : Int) (p : Int × Int) : p ∈ goneP T s ↔ p ∈ T ∧ p.1 ≠ s ∧ p.2 ≠ s := by unfold goneP; rw [List.mem_filter, clearP_mem]; simp [and_assoc]
theorem waitP_mem (T : List (Int × Int)) (s : Int) (who : List Int) (p : Int × Int) : p ∈ waitP T s who ↔ (p ∈ T ∧ p.1 ≠ s) ∨ (p.1 = s ∧ p.2 ∈ who ∧ p.2 ≠ s) := by
  unfold waitP
  rw [List.mem_append, clearP_mem, List.mem_map]
  constructor
  · rintro (h | ⟨x, hx, rfl⟩)
    · exact .inl h
    · exact .inr ⟨rfl, (delI_mem _ _ _).1 hx⟩
  · rintro (h | ⟨h1, h2⟩)
    · exact .inl h
    · exact .inr ⟨p.2, (delI_mem _ _ _).2 h2, Prod.ext h1.symm rfl⟩
theorem ofM_clear (T : List (Int × Int)) (s : Int) : ofM (clearP T s) = updM (ofM T) s [] := by
  refine ofM_ext (ofM_rise _) (fun k => by unfold updM; split
                                           · simp
                                           · exact ofM_rise _ _) fun k x => ?_
  rw [ofM_mem, clearP_mem]
  by_cases e : k = s
  · subst e; rw [updM_same]; simp
  · rw [updM_other _ _ e, ofM_mem]; simp [e]
theorem ofM_gone (T : List (Int × Int)) (s : Int) : ofM (goneP T s) = fun k => delI (updM (ofM T) s [] k) s := by
  refine ofM_ext (ofM_rise _) (fun k => delI_rise (by unfold updM; split
                                                      · simp
                                                      · exact ofM_rise _ _) s) fun k x => ?_
  rw [ofM_mem, goneP_mem, delI_mem]
  by_cases e : k = s
  · subst e; rw [updM_same]; simp
  · rw [updM_other _ _ e, ofM_mem]; simp [e]
theorem ofM_wait (T : List (Int × Int)) (s : Int) (who : List Int) : ofM (waitP T s who) = updM (ofM T) s (waitL who s) := by
  refine ofM_ext (ofM_rise _) (fun k => by unfold updM; split
                                           · exact waitL_rise _ _
                                           · exact ofM_rise _ _) fun k x => ?_
  rw [ofM_mem, waitP_mem]
  by_cases e : k = s
  · subst e; rw [updM_same, waitL_mem]; simp
  · rw [updM_other _ _ e, ofM_mem]; simp [e]
theorem ofM_nil : ofM [] = fun _ => [] := rfl
theorem clearP_step (T : List (Int × Int)) (s : Int) (j : Nat) (r : Int × Int) (hr : T[j]? = some r) : clearP (T.take (j + 1)) s = clearP (T.take j) s ++ (if (r.1 == s) = true then [] else [r]) := by
  unfold clearP
  rw [List.take_add_one, hr, Option.toList_some, List.filter_append]
  congr 1
  rw [List.filter_cons]
  cases (r.1 == s) <;> simp
theorem filt2_step (T : List (Int × Int)) (s : Int) (j : Nat) (r : Int × Int) (hr : T[j]? = some r) : (T.take (j + 1)).filter (fun p => !(p.2 == s)) = (T.take j).filter (fun p => !(p.2 == s)) ++ (if (r.2 == s) = true then [] else [r]) := by
  rw [List.take_add_one, hr, Option.toList_some, List.filter_append]
  congr 1
  rw [List.filter_cons]
  cases (r.2 == s) <;> simp
theorem clearP_len (T : List (Int × Int)) (s : Int) : (clearP T s).length ≤ T.length := List.length_filter_le _ _
end Go.Proofs.Ytpgelebmhhcodaa
