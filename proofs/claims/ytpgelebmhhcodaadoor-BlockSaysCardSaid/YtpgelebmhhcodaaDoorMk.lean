/- The state of phoenixmake.Rec's walk: a Seq, a record under way, the result's block. -/
import Derived.Test.YtpgelebmhhcodaaDoorProg
import Derived.Test.YtpgelebmhhcodaaDoorSeq
namespace Go.Proofs.YtpgelebmhhcodaaDoor
open Go.RowKit
set_option linter.unusedVariables false

/-- a block of a record's cells -/
def RecAt (w : World) (g : Nat) (cs : Array Value) : Prop := w.heap[g]? = some (.cells cs 24 (0, 0))
theorem RecAt.set {w : World} {g : Nat} {cs : Array Value} (h : RecAt w g cs) (i : Nat) (u : Value) : RecAt (w.setCell ⟨g, i, none⟩ u) g (cs.setIfInBounds i u) := by
  obtain ⟨hlt, hk⟩ := Array.getElem?_eq_some_iff.1 h
  show (w.heap.modify g _)[g]? = _
  rw [Array.getElem?_eq_getElem (by rw [Array.size_modify]; exact hlt), Array.getElem_modify_self, hk]
  rfl
theorem RecAt.cell {w : World} {g : Nat} {cs : Array Value} (h : RecAt w g cs) (i : Nat) : w.cell? ⟨g, i, none⟩ = cs[i]? := cell_of_row w g i _ _ _ h
theorem RecAt.frozen {w : World} {g : Nat} {cs : Array Value} (h : RecAt w g cs) (i : Nat) : w.frozen? ⟨g, i, none⟩ = false := by
  unfold RecAt at h
  simp [World.frozen?, h]

/-- what stands in the middle of phoenixmake.Rec: the Seq at block q, the record at g, the result at z -/
structure MK (base q g z : Nat) (v : Value) (l : List Int) (w0 w : World) (p : Int) (cs : Array Value) : Prop where
  seq : SeqAt w q v p
  rec_ : RecAt w g cs
  res : RecAt w z #[.int .i64 0, .int .i64 0, .int .i64 0, .int .i64 0, .int .i64 0, .int .i64 0, .bool false, .bool false, .int .i64 0, .int .i64 0]
  bel : Below base w0 w
  num : Ns .i64 w0 v l
  bq : base ≤ q
  bg : base ≤ g
  gq : g ≠ q
  zq : z ≠ q
  gz : g ≠ z
  old : w0.heap.size ≤ base

theorem MK.set {base q g z : Nat} {v : Value} {l : List Int} {w0 w : World} {p : Int} {cs : Array Value} (h : MK base q g z v l w0 w p cs) (i : Nat) (u : Value) : MK base q g z v l w0 (w.setCell ⟨g, i, none⟩ u) p (cs.setIfInBounds i u) :=
  { seq := (Below.heap_setCell w ⟨g, i, none⟩ u q (Ne.symm h.gq)).trans h.seq
    rec_ := h.rec_.set i u
    res := (Below.heap_setCell w ⟨g, i, none⟩ u z (Ne.symm h.gz)).trans h.res
    bel := h.bel.setCell (p := ⟨g, i, none⟩) h.bg u
    num := h.num, bq := h.bq, bg := h.bg, gq := h.gq, zq := h.zq, gz := h.gz, old := h.old }

theorem MK.next {base q g z : Nat} {v : Value} {l : List Int} {w0 w : World} {p b : Int} {c0 c1 c2 c3 c4 c5 c6 c7 c8 c9 : Value} (h : MK base q g z v l w0 w p #[c0, c1, c2, c3, c4, c5, c6, c7, c8, c9]) (h0 : 0 ≤ p) (h1 : p ≤ 1000) (hl : l.length ≤ 1000) (hb : 0 < b) (hb2 : b ≤ 4611686018427387904) :
    Calls Tryd.prog 6 #[.pointer (some ⟨q, 0, none⟩), .int .i64 b] w fun e w' => (∃ x, e = .returned (.int .i64 x) ∧ 0 ≤ x ∧ x < b) ∧ MK base q g z v l w0 w' (p + 1) #[c0, c1, c2, c3, c4, c5, c6, c7, c8, c9] ∧
      (w'.cell? ⟨g, 0, none⟩ = some c0 ∧ w'.cell? ⟨g, 1, none⟩ = some c1 ∧ w'.cell? ⟨g, 2, none⟩ = some c2 ∧ w'.cell? ⟨g, 3, none⟩ = some c3 ∧ w'.cell? ⟨g, 4, none⟩ = some c4 ∧ w'.cell? ⟨g, 5, none⟩ = some c5 ∧ w'.cell? ⟨g, 6, none⟩ = some c6 ∧ w'.cell? ⟨g, 7, none⟩ = some c7 ∧ w'.cell? ⟨g, 8, none⟩ = some c8 ∧ w'.cell? ⟨g, 9, none⟩ = some c9) ∧
      (w'.frozen? ⟨g, 0, none⟩ = false ∧ w'.frozen? ⟨g, 1, none⟩ = false ∧ w'.frozen? ⟨g, 2, none⟩ = false ∧ w'.frozen? ⟨g, 3, none⟩ = false ∧ w'.frozen? ⟨g, 4, none⟩ = false ∧ w'.frozen? ⟨g, 5, none⟩ = false ∧ w'.frozen? ⟨g, 6, none⟩ = false ∧ w'.frozen? ⟨g, 7, none⟩ = false ∧ w'.frozen? ⟨g, 8, none⟩ = false ∧ w'.frozen? ⟨g, 9, none⟩ = false) ∧
      (w'.cell? ⟨z, 0, none⟩ = some (.int .i64 0) ∧ w'.cell? ⟨z, 1, none⟩ = some (.int .i64 0) ∧ w'.cell? ⟨z, 2, none⟩ = some (.int .i64 0) ∧ w'.cell? ⟨z, 3, none⟩ = some (.int .i64 0) ∧ w'.cell? ⟨z, 4, none⟩ = some (.int .i64 0) ∧ w'.cell? ⟨z, 5, none⟩ = some (.int .i64 0) ∧ w'.cell? ⟨z, 6, none⟩ = some (.bool false) ∧ w'.cell? ⟨z, 7, none⟩ = some (.bool false) ∧ w'.cell? ⟨z, 8, none⟩ = some (.int .i64 0) ∧ w'.cell? ⟨z, 9, none⟩ = some (.int .i64 0)) ∧
      (w'.frozen? ⟨z, 0, none⟩ = false ∧ w'.frozen? ⟨z, 1, none⟩ = false ∧ w'.frozen? ⟨z, 2, none⟩ = false ∧ w'.frozen? ⟨z, 3, none⟩ = false ∧ w'.frozen? ⟨z, 4, none⟩ = false ∧ w'.frozen? ⟨z, 5, none⟩ = false ∧ w'.frozen? ⟨z, 6, none⟩ = false ∧ w'.frozen? ⟨z, 7, none⟩ = false ∧ w'.frozen? ⟨z, 8, none⟩ = false ∧ w'.frozen? ⟨z, 9, none⟩ = false) := by
  refine (seqNext' q l v p b w h.seq (h.num.below (h.bel.mono h.old)) h0 h1 hl hb hb2).mono ?_
  rintro e w' ⟨hx, hs, ho, hsz, hB⟩
  have hr : RecAt w' g #[c0, c1, c2, c3, c4, c5, c6, c7, c8, c9] := (ho g h.gq).trans h.rec_
  have hz := (ho z h.zq).trans h.res
  refine ⟨hx, ⟨hs, hr, (ho z h.zq).trans h.res, hB _ _ h.bel h.bq, h.num, h.bq, h.bg, h.gq, h.zq, h.gz, h.old⟩, ⟨hr.cell 0, hr.cell 1, hr.cell 2, hr.cell 3, hr.cell 4, hr.cell 5, hr.cell 6, hr.cell 7, hr.cell 8, hr.cell 9⟩, ⟨hr.frozen 0, hr.frozen 1, hr.frozen 2, hr.frozen 3, hr.frozen 4, hr.frozen 5, hr.frozen 6, hr.frozen 7, hr.frozen 8, hr.frozen 9⟩, ⟨RecAt.cell hz 0, RecAt.cell hz 1, RecAt.cell hz 2, RecAt.cell hz 3, RecAt.cell hz 4, RecAt.cell hz 5, RecAt.cell hz 6, RecAt.cell hz 7, RecAt.cell hz 8, RecAt.cell hz 9⟩, RecAt.frozen hz 0, RecAt.frozen hz 1, RecAt.frozen hz 2, RecAt.frozen hz 3, RecAt.frozen hz 4, RecAt.frozen hz 5, RecAt.frozen hz 6, RecAt.frozen hz 7, RecAt.frozen hz 8, RecAt.frozen hz 9⟩

/-- where the record's block is laid -/
theorem MK.start {base q z : Nat} {v : Value} {l : List Int} {w0 w : World} {p : Int} (cs : Array Value) (hs : SeqAt w q v p) (hz : RecAt w z #[.int .i64 0, .int .i64 0, .int .i64 0, .int .i64 0, .int .i64 0, .int .i64 0, .bool false, .bool false, .int .i64 0, .int .i64 0])
    (hB : Below base w0 w) (hn : Ns .i64 w0 v l) (hq : base ≤ q) (hzq : z ≠ q) (ho : w0.heap.size ≤ base) (hbz : base ≤ w.heap.size) : MK base q w.heap.size z v l w0 (w.alloc (.cells cs 24)) p cs := by
  have h1 := (Array.getElem?_eq_some_iff.1 hs).1
  have h2 := (Array.getElem?_eq_some_iff.1 hz).1
  exact { seq := (Below.heap_alloc w _ q h1).trans hs
          rec_ := heap_alloc_new w _
          res := (Below.heap_alloc w _ z h2).trans hz
          bel := hB.alloc hbz _
          num := hn, bq := hq, bg := hbz, gq := by omega, zq := hzq, gz := by omega, old := ho }

/-- the ten stores ahead of a new block -/
theorem below_ten_alloc {base z : Nat} {w0 w : World} (h : Below base w0 w) (hz : base ≤ z) (hs : base ≤ w.heap.size) (a0 a1 a2 a3 a4 a5 a6 a7 a8 a9 : Value) (o : Obj) : Below base w0 (((((((((((w.setCell ⟨z, 0, none⟩ a0).setCell ⟨z, 1, none⟩ a1).setCell ⟨z, 2, none⟩ a2).setCell ⟨z, 3, none⟩ a3).setCell ⟨z, 4, none⟩ a4).setCell ⟨z, 5, none⟩ a5).setCell ⟨z, 6, none⟩ a6).setCell ⟨z, 7, none⟩ a7).setCell ⟨z, 8, none⟩ a8).setCell ⟨z, 9, none⟩ a9).alloc o) :=
  Below.alloc ((((((((((h.setCell (p := ⟨z, 0, none⟩) hz a0).setCell (p := ⟨z, 1, none⟩) hz a1).setCell (p := ⟨z, 2, none⟩) hz a2).setCell (p := ⟨z, 3, none⟩) hz a3).setCell (p := ⟨z, 4, none⟩) hz a4).setCell (p := ⟨z, 5, none⟩) hz a5).setCell (p := ⟨z, 6, none⟩) hz a6).setCell (p := ⟨z, 7, none⟩) hz a7).setCell (p := ⟨z, 8, none⟩) hz a8).setCell (p := ⟨z, 9, none⟩) hz a9) (by simp [World.setCell]; omega) o

/-- behind the last ten stores, into the result's block -/
theorem MK.done {base q g z : Nat} {v : Value} {l : List Int} {w0 w : World} {p : Int} {cs : Array Value} (h : MK base q g z v l w0 w p cs) (hz : base ≤ z) (a0 a1 a2 a3 a4 a5 a6 a7 a8 a9 : Value) : Below base w0 ((((((((((w.setCell ⟨z, 0, none⟩ a0).setCell ⟨z, 1, none⟩ a1).setCell ⟨z, 2, none⟩ a2).setCell ⟨z, 3, none⟩ a3).setCell ⟨z, 4, none⟩ a4).setCell ⟨z, 5, none⟩ a5).setCell ⟨z, 6, none⟩ a6).setCell ⟨z, 7, none⟩ a7).setCell ⟨z, 8, none⟩ a8).setCell ⟨z, 9, none⟩ a9) :=
  ((((((((((h.bel.setCell (p := ⟨z, 0, none⟩) hz a0).setCell (p := ⟨z, 1, none⟩) hz a1).setCell (p := ⟨z, 2, none⟩) hz a2).setCell (p := ⟨z, 3, none⟩) hz a3).setCell (p := ⟨z, 4, none⟩) hz a4).setCell (p := ⟨z, 5, none⟩) hz a5).setCell (p := ⟨z, 6, none⟩) hz a6).setCell (p := ⟨z, 7, none⟩) hz a7).setCell (p := ⟨z, 8, none⟩) hz a8).setCell (p := ⟨z, 9, none⟩) hz a9)
end Go.Proofs.YtpgelebmhhcodaaDoor
