/- Slices of records. -/
import Derived.Test.YtpgelebmhhcodaaDoorProg
import Derived.Test.YtpgelebmhhcodaaDoorRecRow
import Derived.Test.YtpgelebmhhcodaaDoorRecB
import Derived.Test.YtpgelebmhhcodaaDoorDskW
import Derived.Test.YtpgelebmhhcodaaDoorPlain
namespace Go.Proofs.YtpgelebmhhcodaaDoor
open Go.RowKit
set_option linter.unusedVariables false

/-- a record's cells, in a row -/
def recCl (r : RecD) : List Value := [.int .i64 r.kind, .int .i64 r.txn, .int .i64 r.page, .int .i64 r.prev, .int .i64 r.next, .int .i64 r.key, .bool r.had, .bool r.has, .int .i64 r.old, .int .i64 r.new]
theorem recCl_len (r : RecD) : (recCl r).length = 10 := rfl
theorem flatR_len (L : List RecD) : (L.flatMap recCl).length = L.length * 10 := by
  induction L with
  | nil => rfl
  | cons x L ih => rw [List.flatMap_cons, List.length_append, ih, recCl_len, List.length_cons]; omega
theorem flatR : ∀ (L : List RecD) (n i : Nat) (r : RecD), L[n]? = some r → i < 10 → (L.flatMap recCl)[n * 10 + i]? = (recCl r)[i]?
  | [], n, i, r, h, _ => by simp at h
  | x :: L, 0, i, r, h, hi => by
    simp only [List.getElem?_cons_zero, Option.some.injEq] at h
    subst h
    rw [List.flatMap_cons, List.getElem?_append_left (by simp [recCl]; omega)]
    simp
  | x :: L, n + 1, i, r, h, hi => by
    rw [List.flatMap_cons, List.getElem?_append_right (by simp [recCl]; omega), ← flatR L n i r (by simpa using h) hi]
    congr 1
    simp [recCl]
    omega

/-- a slice value that reads as a list of records -/
def Gs (w : World) (v : Value) (L : List RecD) : Prop :=
  (∀ r ∈ L, r.W) ∧ ∃ o cap, v = .slice o L.length cap ∧ L.length ≤ cap ∧ cap ≤ maxLen ∧ (o = none → cap = 0) ∧
    (L ≠ [] → ∃ g off, o = some ⟨g, off, none⟩ ∧ ∀ i r, L[i]? = some r → ∀ j, j < 10 → w.cell? ⟨g, off + i * 10 + j, none⟩ = (recCl r)[j]?)
theorem Gs.nil (w : World) : Gs w (.slice none 0 0) [] := ⟨fun _ h => by simp at h, none, 0, rfl, by simp, by simp [maxLen], fun _ => rfl, fun h => absurd rfl h⟩
theorem recCl_some (r : RecD) {j : Nat} (hj : j < 10) : ∃ v, (recCl r)[j]? = some v := ⟨_, List.getElem?_eq_getElem (by rw [recCl_len]; exact hj)⟩
theorem Gs.same {w w' : World} {v : Value} {L : List RecD} (h : Gs w v L) (hb : ∀ b, v.ownBlock = some b → w'.heap[b]? = w.heap[b]?) : Gs w' v L := by
  obtain ⟨h1, o, c, rfl, h3, h4, h5, h6⟩ := h
  refine ⟨h1, o, c, rfl, h3, h4, h5, fun hne => ?_⟩
  obtain ⟨g, off, rfl, hc⟩ := h6 hne
  refine ⟨g, off, rfl, fun i r hr j hj => ?_⟩
  rw [← hc i r hr j hj]
  exact World.cell?_of_block (hb g rfl)
theorem Gs.below {w w' : World} {v : Value} {L : List RecD} (h : Gs w v L) (hb : Below w.heap.size w w') : Gs w' v L := by
  obtain ⟨h1, o, c, rfl, h3, h4, h5, h6⟩ := h
  refine ⟨h1, o, c, rfl, h3, h4, h5, fun hne => ?_⟩
  obtain ⟨g, off, rfl, hc⟩ := h6 hne
  refine ⟨g, off, rfl, fun i r hr j hj => ?_⟩
  rw [← hc i r hr j hj]
  obtain ⟨u, hu⟩ := recCl_some r hj
  have := hc i r hr j hj
  rw [hu] at this
  exact hb.cell (Below.lt this)

/-- the ten cells of a record -/
def cells10 (w : World) (g p : Nat) (r : RecD) : Prop :=
  w.cell? ⟨g, p, none⟩ = some (.int .i64 r.kind) ∧ w.cell? ⟨g, p + 1, none⟩ = some (.int .i64 r.txn) ∧ w.cell? ⟨g, p + 2, none⟩ = some (.int .i64 r.page) ∧ w.cell? ⟨g, p + 3, none⟩ = some (.int .i64 r.prev) ∧ w.cell? ⟨g, p + 4, none⟩ = some (.int .i64 r.next) ∧
    w.cell? ⟨g, p + 5, none⟩ = some (.int .i64 r.key) ∧ w.cell? ⟨g, p + 6, none⟩ = some (.bool r.had) ∧ w.cell? ⟨g, p + 7, none⟩ = some (.bool r.has) ∧ w.cell? ⟨g, p + 8, none⟩ = some (.int .i64 r.old) ∧ w.cell? ⟨g, p + 9, none⟩ = some (.int .i64 r.new)
theorem cells10_of {w : World} {g p : Nat} {r : RecD} (h : ∀ j, j < 10 → w.cell? ⟨g, p + j, none⟩ = (recCl r)[j]?) : cells10 w g p r :=
  ⟨h 0 (by decide), h 1 (by decide), h 2 (by decide), h 3 (by decide), h 4 (by decide), h 5 (by decide), h 6 (by decide), h 7 (by decide), h 8 (by decide), h 9 (by decide)⟩
theorem Gs.at_ {w : World} {o : Option Addr} {L : List RecD} (h1 : ∀ r ∈ L, r.W) (h : L ≠ [] → ∃ g off, o = some ⟨g, off, none⟩ ∧ ∀ i r, L[i]? = some r → ∀ j, j < 10 → w.cell? ⟨g, off + i * 10 + j, none⟩ = (recCl r)[j]?) {k : Nat} (hk : k < L.length) :
    ∃ g off r, o = some ⟨g, off, none⟩ ∧ L[k]? = some r ∧ r.W ∧ cells10 w g (off + k * 10) r := by
  obtain ⟨g, off, ho, hc⟩ := h (by intro e; simp [e] at hk)
  exact ⟨g, off, L[k], ho, List.getElem?_eq_getElem hk, h1 _ (List.getElem_mem hk), cells10_of (hc k _ (List.getElem?_eq_getElem hk))⟩

/-- records in a row of the call's own -/
def Og (base : Nat) (w : World) (v : Value) (L : List RecD) : Prop := (∀ r ∈ L, r.W) ∧ w.ownsRow base 24 10 v L.length (L.flatMap recCl)
theorem Og.nil {base : Nat} {w : World} : Og base w (.slice none 0 0) [] := ⟨fun _ h => by simp at h, World.ownsRow_nil _ _ _ _⟩
theorem Og.same {base : Nat} {w w' : World} {v : Value} {L : List RecD} (h : Og base w v L) (hb : ∀ b, v.ownBlock = some b → w'.heap[b]? = w.heap[b]?) : Og base w' v L := ⟨h.1, ownsRow_same h.2 hb⟩
theorem Og.lt {base : Nat} {w : World} {v : Value} {L : List RecD} (h : Og base w v L) {b : Nat} (hb : v.ownBlock = some b) : base ≤ b ∧ b < w.heap.size := h.2.lt b hb
theorem Og.below {base : Nat} {w w' : World} {v : Value} {L : List RecD} (h : Og base w v L) (hb : Below w.heap.size w w') : Og base w' v L := h.same fun b e => hb.block b (h.lt e).2
theorem Og.mono {base base' : Nat} {w : World} {v : Value} {L : List RecD} (h : Og base w v L) (hb : base' ≤ base) : Og base' w v L := by
  refine ⟨h.1, h.2.1, ?_⟩
  rcases h.2.2 with hn | ⟨g, cap, cur, hv, hbg, hg, r⟩
  · exact .inl hn
  · exact .inr ⟨g, cap, cur, hv, by omega, hg, r⟩
/-- what it looks like -/
theorem Og.form {base : Nat} {w : World} {v : Value} {L : List RecD} (h : Og base w v L) :
    ∃ o cap, v = .slice o L.length cap ∧ L.length ≤ cap ∧ cap ≤ maxLen ∧ (o = none → cap = 0 ∧ L = []) ∧ (∀ a, o = some a → ∃ g, a = ⟨g, 0, none⟩ ∧ base ≤ g ∧ g < w.heap.size ∧ (∀ i r, L[i]? = some r → ∀ j, j < 10 → w.cell? ⟨g, i * 10 + j, none⟩ = (recCl r)[j]?)) := by
  rcases h.2.2 with ⟨rfl, hn⟩ | ⟨g, cap, cur, rfl, hbg, hg, hn, hcm, hcs, ht⟩
  · have : L = [] := List.eq_nil_of_length_eq_zero hn
    subst this
    exact ⟨none, 0, rfl, by simp, by simp [maxLen], fun _ => ⟨rfl, rfl⟩, fun a e => by simp at e⟩
  · refine ⟨some ⟨g, 0, none⟩, cap, rfl, hn, hcm, by simp, fun a e => ⟨g, by simpa using e.symm, hbg, (Array.getElem?_eq_some_iff.1 hg).1, fun i r hr j hj => ?_⟩⟩
    have hi : i < L.length := (List.getElem?_eq_some_iff.1 hr).1
    rw [cell_of_row w g _ _ _ _ hg, ← flatR L i j r hr hj, ← ht, List.getElem?_take, if_pos (by omega)]
    simp
theorem Og.gs {base : Nat} {w : World} {v : Value} {L : List RecD} (h : Og base w v L) : Gs w v L := by
  obtain ⟨o, cap, rfl, h1, h2, h3, h4⟩ := h.form
  refine ⟨h.1, o, cap, rfl, h1, h2, fun e => (h3 e).1, fun hne => ?_⟩
  cases o with
  | none => exact absurd (h3 rfl).2 hne
  | some a =>
    obtain ⟨g, rfl, _, _, hc⟩ := h4 a rfl
    exact ⟨g, 0, rfl, fun i r hr j hj => by rw [Nat.zero_add]; exact hc i r hr j hj⟩
theorem Og.at_ {base : Nat} {w : World} {o : Option Addr} {n cap : Nat} {L : List RecD} (h : Og base w (.slice o n cap) L) {k : Nat} (hk : k < L.length) :
    ∃ g r, o = some ⟨g, 0, none⟩ ∧ base ≤ g ∧ g < w.heap.size ∧ L[k]? = some r ∧ r.W ∧ cells10 w g (k * 10) r := by
  obtain ⟨o', cap', he, h1, h2, h3, h4⟩ := h.form
  simp only [Value.slice.injEq] at he
  obtain ⟨rfl, _, rfl⟩ := he
  cases o with
  | none => rw [(h3 rfl).2] at hk; simp at hk
  | some a =>
    obtain ⟨g, rfl, hb, hg, hc⟩ := h4 a rfl
    exact ⟨g, L[k], rfl, hb, hg, List.getElem?_eq_getElem hk, h.1 _ (List.getElem_mem hk), cells10_of (hc k _ (List.getElem?_eq_getElem hk))⟩

theorem recInfo : (Tryd.prog.info? 24).map (fun i => (i.zero, i.size, i.bytes)) = some (some (.agg #[.int .i64 0, .int .i64 0, .int .i64 0, .int .i64 0, .int .i64 0, .int .i64 0, .bool false, .bool false, .int .i64 0, .int .i64 0]), 10, 72) := by kernel_rfl
theorem recCl_arr (r : RecD) : (recCs r) = (recCl r).toArray := rfl
theorem oneCell_rec (r : RecD) : ∀ u ∈ recCl r, u.oneCell' = true := by
  intro u hu
  simp only [recCl, List.mem_cons, List.not_mem_nil, or_false] at hu
  rcases hu with rfl | rfl | rfl | rfl | rfl | rfl | rfl | rfl | rfl | rfl <;> rfl

/-- append of one record that lies in a block -/
theorem Og.append1 {base : Nat} {w : World} {v : Value} {L : List RecD} (h : Og base w v L) (r : RecD) (hr : r.W) (hbase : base ≤ w.heap.size) (hn : L.length ≤ 1000000) (g0 : Nat) (hg : RW g0 (recCs r) w) (c0 : Nat) (ty : TypeId) :
    ∃ gb cap w', (Builtin.append_ #[30, 30] ty #[v, .slice (some ⟨g0, 0, none⟩) 1 c0]).run Tryd.prog w = .ok (.slice (some ⟨gb, 0, none⟩) (L.length + 1) cap) w' ∧
      Og base w' (.slice (some ⟨gb, 0, none⟩) (L.length + 1) cap) (L ++ [r]) ∧ w.grownBy w' v.ownBlock ∧ (v.ownBlock = some gb ∨ gb = w.heap.size) ∧ gb < w'.heap.size ∧ L.length + 1 ≤ cap ∧ cap ≤ maxLen := by
  obtain ⟨i0, hi0, hz0, hz1, hz2⟩ := info_parts recInfo
  obtain ⟨gb, cap, w', hrun, hown, hgrow, hat, hlt⟩ := run_append_lies (P := Tryd.prog) w 30 ty base 24 i0 _ 10 72 Tryd.underlying30 hi0 hz0 hz1 hz2 rfl (by omega)
    v L.length _ h.2 ⟨g0, 0, none⟩ 1 c0 (recCl r) rfl (World.news_of_block (cs := recCs r) (t := 24) (fr := (0, 0)) hg) (oneCell_rec r) (by omega) (by simp [maxLen]; omega) (by omega) hbase _ rfl
  have hog : Og base w' (.slice (some ⟨gb, 0, none⟩) (L.length + 1) cap) (L ++ [r]) := ⟨fun x hx => by
      rcases List.mem_append.1 hx with hx | hx
      · exact h.1 x hx
      · rw [List.mem_singleton.1 hx]; exact hr, by rw [List.length_append, List.flatMap_append]; simpa using hown⟩
  refine ⟨gb, cap, w', hrun, hog, hgrow, hat, hlt, ?_⟩
  obtain ⟨o, cap', he, h1, h2, _⟩ := hog.form
  simp only [Value.slice.injEq] at he
  obtain ⟨_, _, rfl⟩ := he
  simp only [List.length_append, List.length_cons, List.length_nil] at h1
  exact ⟨h1, h2⟩
theorem Og.grown {base B : Nat} {w0 w w' : World} {v : Value} {L : List RecD} (h : Og base w v L) (hg : w.grownBy w' v.ownBlock) (hb : Below B w0 w) (h1 : B ≤ base) (h2 : B ≤ w.heap.size) : Below B w0 w' :=
  hb.grown hg h2 fun k hk => Nat.le_trans h1 (h.lt hk).1

/-- a log's plain fields -/
structure LogC where
  d : Value
  first : Int
  blocks : Int
  base : Int
  epoch : Int
  done : Int
/-- its fields' bounds -/
structure LogC.Ok (c : LogC) : Prop where
  b0 : 0 ≤ c.base
  b1 : c.base ≤ 2000000000
  k0 : 0 ≤ c.blocks
  k1 : c.blocks ≤ 1000
  f0 : 0 ≤ c.first
  f1 : c.first ≤ 1000
def LogC.F (X : Nat) (v : Value) : Nat → Prop := fun b => b = X ∨ v.ownBlock = some b
def headCs (c : LogC) (v : Value) : Array Value := #[c.d, .int .i64 c.first, .int .i64 c.blocks, .int .i64 c.base, .int .i64 c.epoch, v, .int .i64 c.done]
structure Lg (T : TypeId) (w : World) (X : Nat) (c : LogC) (v : Value) (L : List RecD) : Prop where
  head : w.heap[X]? = some (.cells (headCs c v) T (0, 0))
  own : Og 0 w v L
  vX : v.ownBlock ≠ some X
  ok : c.Ok
  len : L.length ≤ 10000
theorem Lg.low {T : TypeId} {w : World} {X : Nat} {c : LogC} {v : Value} {L : List RecD} (h : Lg T w X c v L) {b : Nat} (hb : LogC.F X v b) : b < w.heap.size := by
  rcases hb with rfl | e
  · exact (Array.getElem?_eq_some_iff.1 h.head).1
  · exact (h.own.lt e).2
theorem Lg.same {T : TypeId} {w w' : World} {X : Nat} {c : LogC} {v : Value} {L : List RecD} (h : Lg T w X c v L) (hb : ∀ b, LogC.F X v b → w'.heap[b]? = w.heap[b]?) : Lg T w' X c v L :=
  ⟨by rw [hb X (.inl rfl)]; exact h.head, h.own.same fun b e => hb b (.inr e), h.vX, h.ok, h.len⟩
theorem Lg.below {T : TypeId} {w w' : World} {X : Nat} {c : LogC} {v : Value} {L : List RecD} (h : Lg T w X c v L) (hb : Below w.heap.size w w') : Lg T w' X c v L := h.same fun b hf => hb.block b (h.low hf)
theorem Lg.apart {T : TypeId} {F F' : Nat → Prop} {w w' : World} {X : Nat} {c : LogC} {v : Value} {L : List RecD} (h : Lg T w X c v L) (he : Ext F w F' w') (hn : ∀ b, LogC.F X v b → ¬ F b) : Lg T w' X c v L := h.same fun b hf => he.block b (h.low hf) (hn b hf)
theorem Lg.cells {T : TypeId} {w : World} {X : Nat} {c : LogC} {v : Value} {L : List RecD} (h : Lg T w X c v L) :
    w.cell? ⟨X, 0, none⟩ = some c.d ∧ w.cell? ⟨X, 1, none⟩ = some (.int .i64 c.first) ∧ w.cell? ⟨X, 2, none⟩ = some (.int .i64 c.blocks) ∧ w.cell? ⟨X, 3, none⟩ = some (.int .i64 c.base) ∧ w.cell? ⟨X, 4, none⟩ = some (.int .i64 c.epoch) ∧ w.cell? ⟨X, 5, none⟩ = some v ∧ w.cell? ⟨X, 6, none⟩ = some (.int .i64 c.done) ∧ (∀ i, w.frozen? ⟨X, i, none⟩ = false) := by
  refine ⟨?_, ?_, ?_, ?_, ?_, ?_, ?_, fun i => rowFrozen h.head i⟩ <;> rw [cell_of_row w X _ _ _ (0, 0) h.head] <;> rfl

/-- a new log -/
theorem Lg.new (T : TypeId) (w : World) (c : LogC) (hc : c.Ok) : Lg T (w.alloc (.cells (headCs c (.slice none 0 0)) T)) w.heap.size c (.slice none 0 0) [] :=
  ⟨heap_alloc_new w _, Og.nil, by simp [Value.ownBlock], hc, by simp⟩

/-- the records stored anew -/
theorem Lg.put {T : TypeId} {w w1 w2 : World} {X : Nat} {c : LogC} {v v' : Value} {L M : List RecD} (h : Lg T w X c v L) (hb : Below w.heap.size w w1) (hg : w1.grownBy w2 v.ownBlock) (ho : Og 0 w2 v' M)
    (hv : ∀ b, v'.ownBlock = some b → v.ownBlock = some b ∨ w1.heap.size ≤ b) (hl : M.length ≤ 10000) :
    (w2.cell? ⟨X, 5, none⟩ = some v ∧ w2.frozen? ⟨X, 5, none⟩ = false ∧ w2.cell? ⟨X, 3, none⟩ = some (.int .i64 c.base)) ∧ Lg T (w2.setCell ⟨X, 5, none⟩ v') X c v' M ∧ Ext (LogC.F X v) w (LogC.F X v') (w2.setCell ⟨X, 5, none⟩ v') := by
  have h1 := h.below hb
  have hX1 : X < w1.heap.size := h1.low (.inl rfl)
  have hX : X < w.heap.size := h.low (.inl rfl)
  have hh2 : w2.heap[X]? = some (.cells (headCs c v) T (0, 0)) := by rw [hg.block X hX1 fun e => h.vX e.symm]; exact h1.head
  have hne : ∀ b, b ≠ X → (w2.setCell ⟨X, 5, none⟩ v').heap[b]? = w2.heap[b]? := fun b hb => setCell_otherR w2 _ _ hb
  have hvX : v'.ownBlock ≠ some X := fun e => by
    rcases hv X e with e1 | e1
    · exact h.vX e1
    · omega
  refine ⟨⟨?_, rowFrozen hh2 5, ?_⟩, ⟨?_, ho.same fun b e => hne b fun e2 => hvX (e2 ▸ e), hvX, h.ok, hl⟩, ?_⟩
  · rw [cell_of_row w2 X _ _ _ (0, 0) hh2]; rfl
  · rw [cell_of_row w2 X _ _ _ (0, 0) hh2]; rfl
  · rw [setCell_rowR hh2]; rfl
  · refine ⟨hg.os.trans hb.os, hg.tape.trans hb.tape, hg.output.trans hb.output, ?_, fun b hbl hn => ?_, fun b hf => ?_⟩
    · rw [setCell_sizeR]; exact Nat.le_trans hb.size hg.size
    · rw [hne b fun e => hn (.inl e), hg.block b (Nat.lt_of_lt_of_le hbl hb.size) (fun e => hn (.inr e.symm)), hb.block b hbl]
    · rcases hf with e | e
      · exact .inl (.inl e)
      · rcases hv b e with e1 | e1
        · exact .inl (.inr e1)
        · exact .inr (Nat.le_trans hb.size e1)

/-- ten stores into one block -/
theorem below10 {base : Nat} {w0 W : World} (h : Below base w0 W) {A : Nat} (hA : base ≤ A) (v0 v1 v2 v3 v4 v5 v6 v7 v8 v9 : Value) :
    Below base w0 ((((((((((W.setCell ⟨A, 0, none⟩ v0).setCell ⟨A, 1, none⟩ v1).setCell ⟨A, 2, none⟩ v2).setCell ⟨A, 3, none⟩ v3).setCell ⟨A, 4, none⟩ v4).setCell ⟨A, 5, none⟩ v5).setCell ⟨A, 6, none⟩ v6).setCell ⟨A, 7, none⟩ v7).setCell ⟨A, 8, none⟩ v8).setCell ⟨A, 9, none⟩ v9) :=
  ((((((((((h.setCell (p := ⟨A, 0, none⟩) hA v0).setCell (p := ⟨A, 1, none⟩) hA v1).setCell (p := ⟨A, 2, none⟩) hA v2).setCell (p := ⟨A, 3, none⟩) hA v3).setCell (p := ⟨A, 4, none⟩) hA v4).setCell (p := ⟨A, 5, none⟩) hA v5).setCell (p := ⟨A, 6, none⟩) hA v6).setCell (p := ⟨A, 7, none⟩) hA v7).setCell (p := ⟨A, 8, none⟩) hA v8).setCell (p := ⟨A, 9, none⟩) hA v9)

/-- how many records more there is room for -/
def roomN (c : LogC) (n : Int) : Int := max (min (c.blocks * 6 - n) (1073741824 - (c.base + n))) 0
end Go.Proofs.YtpgelebmhhcodaaDoor
