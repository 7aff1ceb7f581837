/- The state of phoenixmake.Rec's walk, with a frame: a Seq anywhere in its numbers, a record under way, the result's block. -/
import Derived.Test.YtpgelebmhhcodaaDoorProg
import Derived.Test.YtpgelebmhhcodaaDoorMk
import Derived.Test.YtpgelebmhhcodaaDoorDskM
import Derived.Test.YtpgelebmhhcodaaDoorInts
import Derived.Test.YtpgelebmhhcodaaDoorPlain
namespace Go.Proofs.YtpgelebmhhcodaaDoor
open Go.RowKit
set_option linter.unusedVariables false
set_option linter.unusedSimpArgs false

theorem Ns.ext {ik : IntKind} {F F' : Nat → Prop} {w w' : World} {v : Value} {l : List Int} (h : Ns ik w v l) (he : Ext F w F' w') (hn : l ≠ [] → ∀ b, v.ownBlock = some b → ¬ F b) : Ns ik w' v l := by
  obtain ⟨h1, o, c, rfl, h3, h4, h5, h6⟩ := h
  refine ⟨h1, o, c, rfl, h3, h4, h5, fun hne => ?_⟩
  obtain ⟨a, ha, hc⟩ := h6 hne
  refine ⟨a, ha, fun i hi => ?_⟩
  rw [← hc i hi]
  have hlt := Below.lt (hc i hi)
  refine World.cell?_of_block ?_
  have e : (a.add i).block = a.block := by unfold Addr.add; split <;> rfl
  rw [e] at hlt ⊢
  exact he.block a.block hlt (hn hne a.block (by rw [ha]; rfl))
theorem Ext.setNew {F F' : Nat → Prop} {w0 w : World} (h : Ext F w0 F' w) {g : Nat} (hg : w0.heap.size ≤ g) (i : Nat) (u : Value) : Ext F w0 F' (w.setCell ⟨g, i, none⟩ u) :=
  ⟨h.os, h.tape, h.output, by show _ ≤ (w.heap.modify g _).size; rw [Array.size_modify]; exact h.size, fun k hk hn => by
    show (w.heap.modify g _)[k]? = _
    rw [Array.getElem?_modify, if_neg (by omega)]
    exact h.block k hk hn, h.grow⟩
theorem Ext.alloc {F F' : Nat → Prop} {w0 w : World} (h : Ext F w0 F' w) (o : Obj) : Ext F w0 F' (w.alloc o) :=
  ⟨h.os, h.tape, h.output, by rw [show (w.alloc o).heap.size = w.heap.size + 1 by simp]; exact Nat.le_succ_of_le h.size, fun k hk hn => by
    rw [Below.heap_alloc w o k (Nat.lt_of_lt_of_le hk h.size)]
    exact h.block k hk hn, h.grow⟩

structure MKx (q g z : Nat) (v : Value) (l : List Int) (w0 w : World) (p : Int) (cs : Array Value) : Prop where
  seq : SeqAt w q v p
  rec_ : RecAt w g cs
  res : RecAt w z #[.int .i64 0, .int .i64 0, .int .i64 0, .int .i64 0, .int .i64 0, .int .i64 0, .bool false, .bool false, .int .i64 0, .int .i64 0]
  bel : Ext (fun b => b = q) w0 (fun b => b = q) w
  num : Ns .i64 w0 v l
  vq : l ≠ [] → v.ownBlock ≠ some q
  gq : g ≠ q
  zq : z ≠ q
  gz : g ≠ z
  hg : w0.heap.size ≤ g
  hz : w0.heap.size ≤ z

theorem MKx.set {q g z : Nat} {v : Value} {l : List Int} {w0 w : World} {p : Int} {cs : Array Value} (h : MKx q g z v l w0 w p cs) (i : Nat) (u : Value) : MKx q g z v l w0 (w.setCell ⟨g, i, none⟩ u) p (cs.setIfInBounds i u) :=
  { seq := (Below.heap_setCell w ⟨g, i, none⟩ u q (Ne.symm h.gq)).trans h.seq
    rec_ := h.rec_.set i u
    res := (Below.heap_setCell w ⟨g, i, none⟩ u z (Ne.symm h.gz)).trans h.res
    bel := h.bel.setNew h.hg i u
    num := h.num, vq := h.vq, gq := h.gq, zq := h.zq, gz := h.gz, hg := h.hg, hz := h.hz }

/-- what Next leaves, as a frame -/
theorem seqNextX (q : Nat) (l : List Int) (v : Value) (p b : Int) (w0 w : World) (hrow : SeqAt w q v p) (hx : Ext (fun b => b = q) w0 (fun b => b = q) w) (hv : Ns .i64 w0 v l) (vq : l ≠ [] → v.ownBlock ≠ some q) (h0 : 0 ≤ p) (h1 : p ≤ 1000) (hl : l.length ≤ 1000) (hb : 0 < b) (hb2 : b ≤ 4611686018427387904) :
    Calls Tryd.prog 6 #[.pointer (some ⟨q, 0, none⟩), .int .i64 b] w fun e w' => (∃ x, e = .returned (.int .i64 x) ∧ 0 ≤ x ∧ x < b) ∧
      (SeqAt w' q v (p + 1) ∧ (∀ g, g ≠ q → w'.heap[g]? = w.heap[g]?) ∧ w'.heap.size = w.heap.size ∧ Ext (fun b => b = q) w0 (fun b => b = q) w') := by
  refine (seqNext' q l v p b w hrow (hv.ext hx fun hne b e h => vq hne (by rw [← h]; exact e)) h0 h1 hl hb hb2).mono ?_
  rintro e w' ⟨hx', hs, ho, hsz, hB⟩
  have hB0 := hB 0 w (Below.refl 0 w) (Nat.zero_le _)
  exact ⟨hx', hs, ho, hsz, hB0.os.trans hx.os, hB0.tape.trans hx.tape, hB0.output.trans hx.output, by rw [hsz]; exact hx.size, fun k hk hn => (ho k hn).trans (hx.block k hk hn), hx.grow⟩

theorem MKx.next {q g z : Nat} {v : Value} {l : List Int} {w0 w : World} {p b : Int} {c0 c1 c2 c3 c4 c5 c6 c7 c8 c9 : Value} (h : MKx q g z v l w0 w p #[c0, c1, c2, c3, c4, c5, c6, c7, c8, c9]) (h0 : 0 ≤ p) (h1 : p ≤ 1000) (hl : l.length ≤ 1000) (hb : 0 < b) (hb2 : b ≤ 4611686018427387904) :
    Calls Tryd.prog 6 #[.pointer (some ⟨q, 0, none⟩), .int .i64 b] w fun e w' => (∃ x, e = .returned (.int .i64 x) ∧ 0 ≤ x ∧ x < b) ∧ MKx q g z v l w0 w' (p + 1) #[c0, c1, c2, c3, c4, c5, c6, c7, c8, c9] ∧
      (w'.cell? ⟨g, 0, none⟩ = some c0 ∧ w'.cell? ⟨g, 1, none⟩ = some c1 ∧ w'.cell? ⟨g, 2, none⟩ = some c2 ∧ w'.cell? ⟨g, 3, none⟩ = some c3 ∧ w'.cell? ⟨g, 4, none⟩ = some c4 ∧ w'.cell? ⟨g, 5, none⟩ = some c5 ∧ w'.cell? ⟨g, 6, none⟩ = some c6 ∧ w'.cell? ⟨g, 7, none⟩ = some c7 ∧ w'.cell? ⟨g, 8, none⟩ = some c8 ∧ w'.cell? ⟨g, 9, none⟩ = some c9) ∧
      (w'.frozen? ⟨g, 0, none⟩ = false ∧ w'.frozen? ⟨g, 1, none⟩ = false ∧ w'.frozen? ⟨g, 2, none⟩ = false ∧ w'.frozen? ⟨g, 3, none⟩ = false ∧ w'.frozen? ⟨g, 4, none⟩ = false ∧ w'.frozen? ⟨g, 5, none⟩ = false ∧ w'.frozen? ⟨g, 6, none⟩ = false ∧ w'.frozen? ⟨g, 7, none⟩ = false ∧ w'.frozen? ⟨g, 8, none⟩ = false ∧ w'.frozen? ⟨g, 9, none⟩ = false) ∧
      (w'.cell? ⟨z, 0, none⟩ = some (.int .i64 0) ∧ w'.cell? ⟨z, 1, none⟩ = some (.int .i64 0) ∧ w'.cell? ⟨z, 2, none⟩ = some (.int .i64 0) ∧ w'.cell? ⟨z, 3, none⟩ = some (.int .i64 0) ∧ w'.cell? ⟨z, 4, none⟩ = some (.int .i64 0) ∧ w'.cell? ⟨z, 5, none⟩ = some (.int .i64 0) ∧ w'.cell? ⟨z, 6, none⟩ = some (.bool false) ∧ w'.cell? ⟨z, 7, none⟩ = some (.bool false) ∧ w'.cell? ⟨z, 8, none⟩ = some (.int .i64 0) ∧ w'.cell? ⟨z, 9, none⟩ = some (.int .i64 0)) ∧
      (w'.frozen? ⟨z, 0, none⟩ = false ∧ w'.frozen? ⟨z, 1, none⟩ = false ∧ w'.frozen? ⟨z, 2, none⟩ = false ∧ w'.frozen? ⟨z, 3, none⟩ = false ∧ w'.frozen? ⟨z, 4, none⟩ = false ∧ w'.frozen? ⟨z, 5, none⟩ = false ∧ w'.frozen? ⟨z, 6, none⟩ = false ∧ w'.frozen? ⟨z, 7, none⟩ = false ∧ w'.frozen? ⟨z, 8, none⟩ = false ∧ w'.frozen? ⟨z, 9, none⟩ = false) := by
  refine (seqNextX q l v p b w0 w h.seq h.bel h.num h.vq h0 h1 hl hb hb2).mono ?_
  rintro e w' ⟨hx, hs, ho, hsz, hB⟩
  have hr : RecAt w' g #[c0, c1, c2, c3, c4, c5, c6, c7, c8, c9] := (ho g h.gq).trans h.rec_
  have hz := (ho z h.zq).trans h.res
  refine ⟨hx, ⟨hs, hr, (ho z h.zq).trans h.res, hB, h.num, h.vq, h.gq, h.zq, h.gz, h.hg, h.hz⟩, ⟨hr.cell 0, hr.cell 1, hr.cell 2, hr.cell 3, hr.cell 4, hr.cell 5, hr.cell 6, hr.cell 7, hr.cell 8, hr.cell 9⟩, ⟨hr.frozen 0, hr.frozen 1, hr.frozen 2, hr.frozen 3, hr.frozen 4, hr.frozen 5, hr.frozen 6, hr.frozen 7, hr.frozen 8, hr.frozen 9⟩, ⟨RecAt.cell hz 0, RecAt.cell hz 1, RecAt.cell hz 2, RecAt.cell hz 3, RecAt.cell hz 4, RecAt.cell hz 5, RecAt.cell hz 6, RecAt.cell hz 7, RecAt.cell hz 8, RecAt.cell hz 9⟩, RecAt.frozen hz 0, RecAt.frozen hz 1, RecAt.frozen hz 2, RecAt.frozen hz 3, RecAt.frozen hz 4, RecAt.frozen hz 5, RecAt.frozen hz 6, RecAt.frozen hz 7, RecAt.frozen hz 8, RecAt.frozen hz 9⟩

/-- where the record's block is laid -/
theorem MKx.start {q z : Nat} {v : Value} {l : List Int} {w0 w : World} {p : Int} (cs : Array Value) (hs : SeqAt w q v p) (hz : RecAt w z #[.int .i64 0, .int .i64 0, .int .i64 0, .int .i64 0, .int .i64 0, .int .i64 0, .bool false, .bool false, .int .i64 0, .int .i64 0])
    (hB : Ext (fun b => b = q) w0 (fun b => b = q) w) (hn : Ns .i64 w0 v l) (hv : l ≠ [] → v.ownBlock ≠ some q) (hzq : z ≠ q) (hz0 : w0.heap.size ≤ z) : MKx q w.heap.size z v l w0 (w.alloc (.cells cs 24)) p cs := by
  have h1 := (Array.getElem?_eq_some_iff.1 hs).1
  have h2 := (Array.getElem?_eq_some_iff.1 hz).1
  exact { seq := (Below.heap_alloc w _ q h1).trans hs
          rec_ := heap_alloc_new w _
          res := (Below.heap_alloc w _ z h2).trans hz
          bel := hB.alloc _
          num := hn, vq := hv, gq := by omega, zq := hzq, gz := by omega, hg := hB.size, hz := hz0 }

/-- ten stores into the result's block -/
theorem ten_done {q z : Nat} {v : Value} {w0 w : World} {p : Int} (hs : SeqAt w q v p) (hB : Ext (fun b => b = q) w0 (fun b => b = q) w) (hzq : z ≠ q) (hz : w0.heap.size ≤ z) (a0 a1 a2 a3 a4 a5 a6 a7 a8 a9 : Value) :
    SeqAt ((((((((((w.setCell ⟨z, 0, none⟩ a0).setCell ⟨z, 1, none⟩ a1).setCell ⟨z, 2, none⟩ a2).setCell ⟨z, 3, none⟩ a3).setCell ⟨z, 4, none⟩ a4).setCell ⟨z, 5, none⟩ a5).setCell ⟨z, 6, none⟩ a6).setCell ⟨z, 7, none⟩ a7).setCell ⟨z, 8, none⟩ a8).setCell ⟨z, 9, none⟩ a9) q v p ∧
    Ext (fun b => b = q) w0 (fun b => b = q) ((((((((((w.setCell ⟨z, 0, none⟩ a0).setCell ⟨z, 1, none⟩ a1).setCell ⟨z, 2, none⟩ a2).setCell ⟨z, 3, none⟩ a3).setCell ⟨z, 4, none⟩ a4).setCell ⟨z, 5, none⟩ a5).setCell ⟨z, 6, none⟩ a6).setCell ⟨z, 7, none⟩ a7).setCell ⟨z, 8, none⟩ a8).setCell ⟨z, 9, none⟩ a9) := by
  have st : ∀ (w : World) (i : Nat) (u : Value), SeqAt w q v p → SeqAt (w.setCell ⟨z, i, none⟩ u) q v p := fun w i u h => (Below.heap_setCell w ⟨z, i, none⟩ u q (Ne.symm hzq)).trans h
  exact ⟨st _ _ _ (st _ _ _ (st _ _ _ (st _ _ _ (st _ _ _ (st _ _ _ (st _ _ _ (st _ _ _ (st _ _ _ (st _ _ _ hs))))))))),
    (((((((((hB.setNew hz 0 a0).setNew hz 1 a1).setNew hz 2 a2).setNew hz 3 a3).setNew hz 4 a4).setNew hz 5 a5).setNew hz 6 a6).setNew hz 7 a7).setNew hz 8 a8).setNew hz 9 a9⟩

/-- what Rec leaves -/
def MakePost (q : Nat) (v : Value) (w : World) (p : Int) (e : Ending) (w' : World) : Prop :=
  ∃ (r : RecD) (p' : Int), e = .returned (recV r) ∧ r.W ∧ okR r = true ∧ p ≤ p' ∧ p' ≤ p + 10 ∧ SeqAt w' q v p' ∧ Ext (fun b => b = q) w (fun b => b = q) w'
theorem MakePost.mk' {q : Nat} {v : Value} {w w' : World} {p p' : Int} {e : Ending} (r : RecD) (he : e = .returned (recV r)) (hw : r.W) (hok : okR r = true) (h1 : p ≤ p') (h2 : p' ≤ p + 10) (h : SeqAt w' q v p' ∧ Ext (fun b => b = q) w (fun b => b = q) w') : MakePost q v w p e w' :=
  ⟨r, p', he, hw, hok, h1, h2, h.1, h.2⟩
theorem MKx.done {q g z : Nat} {v : Value} {l : List Int} {w0 w : World} {p : Int} {cs : Array Value} (h : MKx q g z v l w0 w p cs) (a0 a1 a2 a3 a4 a5 a6 a7 a8 a9 : Value) :
    SeqAt ((((((((((w.setCell ⟨z, 0, none⟩ a0).setCell ⟨z, 1, none⟩ a1).setCell ⟨z, 2, none⟩ a2).setCell ⟨z, 3, none⟩ a3).setCell ⟨z, 4, none⟩ a4).setCell ⟨z, 5, none⟩ a5).setCell ⟨z, 6, none⟩ a6).setCell ⟨z, 7, none⟩ a7).setCell ⟨z, 8, none⟩ a8).setCell ⟨z, 9, none⟩ a9) q v p ∧
    Ext (fun b => b = q) w0 (fun b => b = q) ((((((((((w.setCell ⟨z, 0, none⟩ a0).setCell ⟨z, 1, none⟩ a1).setCell ⟨z, 2, none⟩ a2).setCell ⟨z, 3, none⟩ a3).setCell ⟨z, 4, none⟩ a4).setCell ⟨z, 5, none⟩ a5).setCell ⟨z, 6, none⟩ a6).setCell ⟨z, 7, none⟩ a7).setCell ⟨z, 8, none⟩ a8).setCell ⟨z, 9, none⟩ a9) :=
  ten_done h.seq h.bel h.zq h.hz a0 a1 a2 a3 a4 a5 a6 a7 a8 a9
theorem ten_alloc_done {q z : Nat} {v : Value} {w0 w : World} {p : Int} (hs : SeqAt w q v p) (hB : Ext (fun b => b = q) w0 (fun b => b = q) w) (hzq : z ≠ q) (hz : w0.heap.size ≤ z) (a0 a1 a2 a3 a4 a5 a6 a7 a8 a9 : Value) (o : Obj) :
    SeqAt (((((((((((w.setCell ⟨z, 0, none⟩ a0).setCell ⟨z, 1, none⟩ a1).setCell ⟨z, 2, none⟩ a2).setCell ⟨z, 3, none⟩ a3).setCell ⟨z, 4, none⟩ a4).setCell ⟨z, 5, none⟩ a5).setCell ⟨z, 6, none⟩ a6).setCell ⟨z, 7, none⟩ a7).setCell ⟨z, 8, none⟩ a8).setCell ⟨z, 9, none⟩ a9).alloc o) q v p ∧
    Ext (fun b => b = q) w0 (fun b => b = q) (((((((((((w.setCell ⟨z, 0, none⟩ a0).setCell ⟨z, 1, none⟩ a1).setCell ⟨z, 2, none⟩ a2).setCell ⟨z, 3, none⟩ a3).setCell ⟨z, 4, none⟩ a4).setCell ⟨z, 5, none⟩ a5).setCell ⟨z, 6, none⟩ a6).setCell ⟨z, 7, none⟩ a7).setCell ⟨z, 8, none⟩ a8).setCell ⟨z, 9, none⟩ a9).alloc o) := by
  obtain ⟨h1, h2⟩ := ten_done hs hB hzq hz a0 a1 a2 a3 a4 a5 a6 a7 a8 a9
  exact ⟨(Below.heap_alloc _ _ q (Array.getElem?_eq_some_iff.1 h1).1).trans h1, h2.alloc _⟩

set_option maxHeartbeats 8000000 in
theorem makeX (q : Nat) (v : Value) (l : List Int) (w : World) (p : Int) (hs : SeqAt w q v p) (hn : Ns .i64 w v l) (hvq : l ≠ [] → v.ownBlock ≠ some q) (hl : l.length ≤ 1000) (hp0 : 0 ≤ p) (hp1 : p ≤ 900) :
    Calls Tryd.prog 16 #[.pointer (some ⟨q, 0, none⟩)] w (MakePost q v w p) := by
  have hqs : q < w.heap.size := (Array.getElem?_eq_some_iff.1 hs).1
  have hs1 : ∀ cs T, SeqAt (w.alloc (.cells cs T)) q v p := fun cs T => (Below.heap_alloc w _ q hqs).trans hs
  have hx1 : ∀ cs T, Ext (fun b => b = q) w (fun b => b = q) (w.alloc (.cells cs T)) := fun cs T => (Ext.refl _ _).alloc _
  have HN := Lib.hid hn
  have HS := Lib.hid hs1
  have HX := Lib.hid hx1
  clear hs1 hx1 hn hs
  go_enter Tryd.func16, Tryd.ntmps16
  go_wp2_with fail
  refine (seqNextX q l v p 10 w _ (HS.out _ _) (HX.out _ _) HN.out hvq (by omega) (by omega) hl (by decide) (by decide)).mono ?_
  rintro e w1 ⟨⟨x, rfl, hx0, hx1⟩, hs2, ho2, hsz2, hB2⟩
  have hz2 := (ho2 w.heap.size (by omega)).trans (heap_alloc_new w _)
  have hsz3 : w1.heap.size = w.heap.size + 1 := by rw [hsz2]; simp
  have hst := fun cs => MKx.start (p := p + 1) cs hs2 hz2 hB2 HN.out hvq (by omega) (Nat.le_refl _)
  simp only [hsz3] at hst
  have HST := Lib.hid hst
  have hx : x = 0 ∨ x = 1 ∨ x = 2 ∨ x = 3 ∨ x = 4 ∨ x = 5 ∨ x = 6 ∨ x = 7 ∨ x = 8 ∨ x = 9 := by omega
  clear hst ho2 hsz2
  rcases hx with rfl | rfl | rfl | rfl | rfl | rfl | rfl | rfl | rfl | rfl
  · go_wp2_with fail
    refine (MKx.next (b := 5) (HST.out _) (by omega) (by omega) hl (by decide) (by decide)).mono ?_
    skip
    rintro e v0 ⟨⟨y0, rfl, hy0, gy0⟩, m0, ⟨c0, c1, c2, c3, c4, c5, c6, c7, c8, c9⟩, ⟨f0, f1, f2, f3, f4, f5, f6, f7, f8, f9⟩, ⟨r0, r1, r2, r3, r4, r5, r6, r7, r8, r9⟩, ⟨s0, s1, s2, s3, s4, s5, s6, s7, s8, s9⟩⟩
    go_wp2_with fail
    exact bodyPost_ret (v := .agg #[.int .i64 1, .int .i64 (1 + y0), .int .i64 0, .int .i64 0, .int .i64 0, .int .i64 0, .bool false, .bool false, .int .i64 0, .int .i64 0]) (by simp [results, Tryd.results16, go_sem, *]) rfl (MakePost.mk' ⟨1, 1 + y0, 0, 0, 0, 0, false, false, 0, 0⟩ rfl (by constructor <;> simp [I64] <;> omega) (by simp [okR, inB, txnTop, pageTop, prevB, nextB, keyB, valsB] <;> omega) (by omega) (by omega) (MKx.done (m0.set 1 (.int .i64 (1 + y0))) _ _ _ _ _ _ _ _ _ _))
  · go_wp2_with fail
    refine (MKx.next (b := 5) (HST.out _) (by omega) (by omega) hl (by decide) (by decide)).mono ?_
    skip
    rintro e v0 ⟨⟨y0, rfl, hy0, gy0⟩, m0, ⟨c0, c1, c2, c3, c4, c5, c6, c7, c8, c9⟩, ⟨f0, f1, f2, f3, f4, f5, f6, f7, f8, f9⟩, ⟨r0, r1, r2, r3, r4, r5, r6, r7, r8, r9⟩, ⟨s0, s1, s2, s3, s4, s5, s6, s7, s8, s9⟩⟩
    go_wp2_with fail
    refine (MKx.next (b := 4) (m0.set 1 (.int .i64 (1 + y0))) (by omega) (by omega) hl (by decide) (by decide)).mono ?_
    clear c0 c1 c2 c3 c4 c5 c6 c7 c8 c9 f0 f1 f2 f3 f4 f5 f6 f7 f8 f9 r0 r1 r2 r3 r4 r5 r6 r7 r8 r9 s0 s1 s2 s3 s4 s5 s6 s7 s8 s9
    rintro e v1 ⟨⟨y1, rfl, hy1, gy1⟩, m1, ⟨c0, c1, c2, c3, c4, c5, c6, c7, c8, c9⟩, ⟨f0, f1, f2, f3, f4, f5, f6, f7, f8, f9⟩, ⟨r0, r1, r2, r3, r4, r5, r6, r7, r8, r9⟩, ⟨s0, s1, s2, s3, s4, s5, s6, s7, s8, s9⟩⟩
    go_wp2_with fail
    refine (MKx.next (b := 20) (m1.set 2 (.int .i64 (1 + y1))) (by omega) (by omega) hl (by decide) (by decide)).mono ?_
    clear c0 c1 c2 c3 c4 c5 c6 c7 c8 c9 f0 f1 f2 f3 f4 f5 f6 f7 f8 f9 r0 r1 r2 r3 r4 r5 r6 r7 r8 r9 s0 s1 s2 s3 s4 s5 s6 s7 s8 s9
    rintro e v2 ⟨⟨y2, rfl, hy2, gy2⟩, m2, ⟨c0, c1, c2, c3, c4, c5, c6, c7, c8, c9⟩, ⟨f0, f1, f2, f3, f4, f5, f6, f7, f8, f9⟩, ⟨r0, r1, r2, r3, r4, r5, r6, r7, r8, r9⟩, ⟨s0, s1, s2, s3, s4, s5, s6, s7, s8, s9⟩⟩
    go_wp2_with fail
    refine (MKx.next (b := 40) (m2.set 3 (.int .i64 (y2))) (by omega) (by omega) hl (by decide) (by decide)).mono ?_
    clear c0 c1 c2 c3 c4 c5 c6 c7 c8 c9 f0 f1 f2 f3 f4 f5 f6 f7 f8 f9 r0 r1 r2 r3 r4 r5 r6 r7 r8 r9 s0 s1 s2 s3 s4 s5 s6 s7 s8 s9
    rintro e v3 ⟨⟨y3, rfl, hy3, gy3⟩, m3, ⟨c0, c1, c2, c3, c4, c5, c6, c7, c8, c9⟩, ⟨f0, f1, f2, f3, f4, f5, f6, f7, f8, f9⟩, ⟨r0, r1, r2, r3, r4, r5, r6, r7, r8, r9⟩, ⟨s0, s1, s2, s3, s4, s5, s6, s7, s8, s9⟩⟩
    go_wp2_with fail
    refine (MKx.next (b := 3) (m3.set 5 (.int .i64 (y3))) (by omega) (by omega) hl (by decide) (by decide)).mono ?_
    clear c0 c1 c2 c3 c4 c5 c6 c7 c8 c9 f0 f1 f2 f3 f4 f5 f6 f7 f8 f9 r0 r1 r2 r3 r4 r5 r6 r7 r8 r9 s0 s1 s2 s3 s4 s5 s6 s7 s8 s9
    rintro e v4 ⟨⟨y4, rfl, hy4, gy4⟩, m4, ⟨c0, c1, c2, c3, c4, c5, c6, c7, c8, c9⟩, ⟨f0, f1, f2, f3, f4, f5, f6, f7, f8, f9⟩, ⟨r0, r1, r2, r3, r4, r5, r6, r7, r8, r9⟩, ⟨s0, s1, s2, s3, s4, s5, s6, s7, s8, s9⟩⟩
    by_cases hh : 0 < y4
    · have dh : decide (0 < y4) = true := by simpa using hh
      go_wp2_with fail
      refine (MKx.next (b := 1000) (m4.set 7 (.bool true)) (by omega) (by omega) hl (by decide) (by decide)).mono ?_
      clear c0 c1 c2 c3 c4 c5 c6 c7 c8 c9 f0 f1 f2 f3 f4 f5 f6 f7 f8 f9 r0 r1 r2 r3 r4 r5 r6 r7 r8 r9 s0 s1 s2 s3 s4 s5 s6 s7 s8 s9
      rintro e v5 ⟨⟨y5, rfl, hy5, gy5⟩, m5, ⟨c0, c1, c2, c3, c4, c5, c6, c7, c8, c9⟩, ⟨f0, f1, f2, f3, f4, f5, f6, f7, f8, f9⟩, ⟨r0, r1, r2, r3, r4, r5, r6, r7, r8, r9⟩, ⟨s0, s1, s2, s3, s4, s5, s6, s7, s8, s9⟩⟩
      go_wp2_with fail
      refine (MKx.next (b := 2) (m5.set 9 (.int .i64 (y5 - 500))) (by omega) (by omega) hl (by decide) (by decide)).mono ?_
      clear c0 c1 c2 c3 c4 c5 c6 c7 c8 c9 f0 f1 f2 f3 f4 f5 f6 f7 f8 f9 r0 r1 r2 r3 r4 r5 r6 r7 r8 r9 s0 s1 s2 s3 s4 s5 s6 s7 s8 s9
      rintro e v6 ⟨⟨y6, rfl, hy6, gy6⟩, m6, ⟨c0, c1, c2, c3, c4, c5, c6, c7, c8, c9⟩, ⟨f0, f1, f2, f3, f4, f5, f6, f7, f8, f9⟩, ⟨r0, r1, r2, r3, r4, r5, r6, r7, r8, r9⟩, ⟨s0, s1, s2, s3, s4, s5, s6, s7, s8, s9⟩⟩
      by_cases h6 : y6 = 0
      · subst h6
        go_wp2_with fail
        refine (MKx.next (b := 1000) (m6.set 6 (.bool true)) (by omega) (by omega) hl (by decide) (by decide)).mono ?_
        clear c0 c1 c2 c3 c4 c5 c6 c7 c8 c9 f0 f1 f2 f3 f4 f5 f6 f7 f8 f9 r0 r1 r2 r3 r4 r5 r6 r7 r8 r9 s0 s1 s2 s3 s4 s5 s6 s7 s8 s9
        rintro e v7 ⟨⟨y7, rfl, hy7, gy7⟩, m7, ⟨c0, c1, c2, c3, c4, c5, c6, c7, c8, c9⟩, ⟨f0, f1, f2, f3, f4, f5, f6, f7, f8, f9⟩, ⟨r0, r1, r2, r3, r4, r5, r6, r7, r8, r9⟩, ⟨s0, s1, s2, s3, s4, s5, s6, s7, s8, s9⟩⟩
        go_wp2_with fail
        exact bodyPost_ret (v := .agg #[.int .i64 2, .int .i64 (1 + y0), .int .i64 (1 + y1), .int .i64 y2, .int .i64 0, .int .i64 y3, .bool true, .bool true, .int .i64 (y7 - 500), .int .i64 (y5 - 500)]) (by simp [results, Tryd.results16, go_sem, *]) rfl (MakePost.mk' ⟨2, 1 + y0, 1 + y1, y2, 0, y3, true, true, y7 - 500, y5 - 500⟩ rfl (by constructor <;> simp [I64] <;> omega) (by simp [okR, inB, txnTop, pageTop, prevB, nextB, keyB, valsB] <;> omega) (by omega) (by omega) (MKx.done (m7.set 8 (.int .i64 (y7 - 500))) _ _ _ _ _ _ _ _ _ _))
      · have d6 : (y6 == 0) = false := by simpa using h6
        go_wp2_with fail
        exact bodyPost_ret (v := .agg #[.int .i64 2, .int .i64 (1 + y0), .int .i64 (1 + y1), .int .i64 y2, .int .i64 0, .int .i64 y3, .bool false, .bool true, .int .i64 0, .int .i64 (y5 - 500)]) (by simp [results, Tryd.results16, go_sem, *]) rfl (MakePost.mk' ⟨2, 1 + y0, 1 + y1, y2, 0, y3, false, true, 0, y5 - 500⟩ rfl (by constructor <;> simp [I64] <;> omega) (by simp [okR, inB, txnTop, pageTop, prevB, nextB, keyB, valsB] <;> omega) (by omega) (by omega) (MKx.done (m6.set 6 (.bool false)) _ _ _ _ _ _ _ _ _ _))
    · have dh : decide (0 < y4) = false := by simpa using hh
      go_wp2_with fail
      refine (MKx.next (b := 2) (m4.set 7 (.bool false)) (by omega) (by omega) hl (by decide) (by decide)).mono ?_
      clear c0 c1 c2 c3 c4 c5 c6 c7 c8 c9 f0 f1 f2 f3 f4 f5 f6 f7 f8 f9 r0 r1 r2 r3 r4 r5 r6 r7 r8 r9 s0 s1 s2 s3 s4 s5 s6 s7 s8 s9
      rintro e v5 ⟨⟨y5, rfl, hy5, gy5⟩, m5, ⟨c0, c1, c2, c3, c4, c5, c6, c7, c8, c9⟩, ⟨f0, f1, f2, f3, f4, f5, f6, f7, f8, f9⟩, ⟨r0, r1, r2, r3, r4, r5, r6, r7, r8, r9⟩, ⟨s0, s1, s2, s3, s4, s5, s6, s7, s8, s9⟩⟩
      by_cases h6 : y5 = 0
      · subst h6
        go_wp2_with fail
        refine (MKx.next (b := 1000) (m5.set 6 (.bool true)) (by omega) (by omega) hl (by decide) (by decide)).mono ?_
        clear c0 c1 c2 c3 c4 c5 c6 c7 c8 c9 f0 f1 f2 f3 f4 f5 f6 f7 f8 f9 r0 r1 r2 r3 r4 r5 r6 r7 r8 r9 s0 s1 s2 s3 s4 s5 s6 s7 s8 s9
        rintro e v7 ⟨⟨y7, rfl, hy7, gy7⟩, m7, ⟨c0, c1, c2, c3, c4, c5, c6, c7, c8, c9⟩, ⟨f0, f1, f2, f3, f4, f5, f6, f7, f8, f9⟩, ⟨r0, r1, r2, r3, r4, r5, r6, r7, r8, r9⟩, ⟨s0, s1, s2, s3, s4, s5, s6, s7, s8, s9⟩⟩
        go_wp2_with fail
        exact bodyPost_ret (v := .agg #[.int .i64 2, .int .i64 (1 + y0), .int .i64 (1 + y1), .int .i64 y2, .int .i64 0, .int .i64 y3, .bool true, .bool false, .int .i64 (y7 - 500), .int .i64 0]) (by simp [results, Tryd.results16, go_sem, *]) rfl (MakePost.mk' ⟨2, 1 + y0, 1 + y1, y2, 0, y3, true, false, y7 - 500, 0⟩ rfl (by constructor <;> simp [I64] <;> omega) (by simp [okR, inB, txnTop, pageTop, prevB, nextB, keyB, valsB] <;> omega) (by omega) (by omega) (MKx.done (m7.set 8 (.int .i64 (y7 - 500))) _ _ _ _ _ _ _ _ _ _))
      · have d6 : (y5 == 0) = false := by simpa using h6
        go_wp2_with fail
        refine (MKx.next (b := 1000) (m5.set 6 (.bool true)) (by omega) (by omega) hl (by decide) (by decide)).mono ?_
        clear c0 c1 c2 c3 c4 c5 c6 c7 c8 c9 f0 f1 f2 f3 f4 f5 f6 f7 f8 f9 r0 r1 r2 r3 r4 r5 r6 r7 r8 r9 s0 s1 s2 s3 s4 s5 s6 s7 s8 s9
        rintro e v7 ⟨⟨y7, rfl, hy7, gy7⟩, m7, ⟨c0, c1, c2, c3, c4, c5, c6, c7, c8, c9⟩, ⟨f0, f1, f2, f3, f4, f5, f6, f7, f8, f9⟩, ⟨r0, r1, r2, r3, r4, r5, r6, r7, r8, r9⟩, ⟨s0, s1, s2, s3, s4, s5, s6, s7, s8, s9⟩⟩
        go_wp2_with fail
        exact bodyPost_ret (v := .agg #[.int .i64 2, .int .i64 (1 + y0), .int .i64 (1 + y1), .int .i64 y2, .int .i64 0, .int .i64 y3, .bool true, .bool false, .int .i64 (y7 - 500), .int .i64 0]) (by simp [results, Tryd.results16, go_sem, *]) rfl (MakePost.mk' ⟨2, 1 + y0, 1 + y1, y2, 0, y3, true, false, y7 - 500, 0⟩ rfl (by constructor <;> simp [I64] <;> omega) (by simp [okR, inB, txnTop, pageTop, prevB, nextB, keyB, valsB] <;> omega) (by omega) (by omega) (MKx.done (m7.set 8 (.int .i64 (y7 - 500))) _ _ _ _ _ _ _ _ _ _))
  · go_wp2_with fail
    refine (MKx.next (b := 5) (HST.out _) (by omega) (by omega) hl (by decide) (by decide)).mono ?_
    skip
    rintro e v0 ⟨⟨y0, rfl, hy0, gy0⟩, m0, ⟨c0, c1, c2, c3, c4, c5, c6, c7, c8, c9⟩, ⟨f0, f1, f2, f3, f4, f5, f6, f7, f8, f9⟩, ⟨r0, r1, r2, r3, r4, r5, r6, r7, r8, r9⟩, ⟨s0, s1, s2, s3, s4, s5, s6, s7, s8, s9⟩⟩
    go_wp2_with fail
    refine (MKx.next (b := 4) (m0.set 1 (.int .i64 (1 + y0))) (by omega) (by omega) hl (by decide) (by decide)).mono ?_
    clear c0 c1 c2 c3 c4 c5 c6 c7 c8 c9 f0 f1 f2 f3 f4 f5 f6 f7 f8 f9 r0 r1 r2 r3 r4 r5 r6 r7 r8 r9 s0 s1 s2 s3 s4 s5 s6 s7 s8 s9
    rintro e v1 ⟨⟨y1, rfl, hy1, gy1⟩, m1, ⟨c0, c1, c2, c3, c4, c5, c6, c7, c8, c9⟩, ⟨f0, f1, f2, f3, f4, f5, f6, f7, f8, f9⟩, ⟨r0, r1, r2, r3, r4, r5, r6, r7, r8, r9⟩, ⟨s0, s1, s2, s3, s4, s5, s6, s7, s8, s9⟩⟩
    go_wp2_with fail
    refine (MKx.next (b := 20) (m1.set 2 (.int .i64 (1 + y1))) (by omega) (by omega) hl (by decide) (by decide)).mono ?_
    clear c0 c1 c2 c3 c4 c5 c6 c7 c8 c9 f0 f1 f2 f3 f4 f5 f6 f7 f8 f9 r0 r1 r2 r3 r4 r5 r6 r7 r8 r9 s0 s1 s2 s3 s4 s5 s6 s7 s8 s9
    rintro e v2 ⟨⟨y2, rfl, hy2, gy2⟩, m2, ⟨c0, c1, c2, c3, c4, c5, c6, c7, c8, c9⟩, ⟨f0, f1, f2, f3, f4, f5, f6, f7, f8, f9⟩, ⟨r0, r1, r2, r3, r4, r5, r6, r7, r8, r9⟩, ⟨s0, s1, s2, s3, s4, s5, s6, s7, s8, s9⟩⟩
    go_wp2_with fail
    refine (MKx.next (b := 40) (m2.set 3 (.int .i64 (y2))) (by omega) (by omega) hl (by decide) (by decide)).mono ?_
    clear c0 c1 c2 c3 c4 c5 c6 c7 c8 c9 f0 f1 f2 f3 f4 f5 f6 f7 f8 f9 r0 r1 r2 r3 r4 r5 r6 r7 r8 r9 s0 s1 s2 s3 s4 s5 s6 s7 s8 s9
    rintro e v3 ⟨⟨y3, rfl, hy3, gy3⟩, m3, ⟨c0, c1, c2, c3, c4, c5, c6, c7, c8, c9⟩, ⟨f0, f1, f2, f3, f4, f5, f6, f7, f8, f9⟩, ⟨r0, r1, r2, r3, r4, r5, r6, r7, r8, r9⟩, ⟨s0, s1, s2, s3, s4, s5, s6, s7, s8, s9⟩⟩
    go_wp2_with fail
    refine (MKx.next (b := 3) (m3.set 5 (.int .i64 (y3))) (by omega) (by omega) hl (by decide) (by decide)).mono ?_
    clear c0 c1 c2 c3 c4 c5 c6 c7 c8 c9 f0 f1 f2 f3 f4 f5 f6 f7 f8 f9 r0 r1 r2 r3 r4 r5 r6 r7 r8 r9 s0 s1 s2 s3 s4 s5 s6 s7 s8 s9
    rintro e v4 ⟨⟨y4, rfl, hy4, gy4⟩, m4, ⟨c0, c1, c2, c3, c4, c5, c6, c7, c8, c9⟩, ⟨f0, f1, f2, f3, f4, f5, f6, f7, f8, f9⟩, ⟨r0, r1, r2, r3, r4, r5, r6, r7, r8, r9⟩, ⟨s0, s1, s2, s3, s4, s5, s6, s7, s8, s9⟩⟩
    by_cases hh : 0 < y4
    · have dh : decide (0 < y4) = true := by simpa using hh
      go_wp2_with fail
      refine (MKx.next (b := 1000) (m4.set 7 (.bool true)) (by omega) (by omega) hl (by decide) (by decide)).mono ?_
      clear c0 c1 c2 c3 c4 c5 c6 c7 c8 c9 f0 f1 f2 f3 f4 f5 f6 f7 f8 f9 r0 r1 r2 r3 r4 r5 r6 r7 r8 r9 s0 s1 s2 s3 s4 s5 s6 s7 s8 s9
      rintro e v5 ⟨⟨y5, rfl, hy5, gy5⟩, m5, ⟨c0, c1, c2, c3, c4, c5, c6, c7, c8, c9⟩, ⟨f0, f1, f2, f3, f4, f5, f6, f7, f8, f9⟩, ⟨r0, r1, r2, r3, r4, r5, r6, r7, r8, r9⟩, ⟨s0, s1, s2, s3, s4, s5, s6, s7, s8, s9⟩⟩
      go_wp2_with fail
      refine (MKx.next (b := 20) ((m5.set 9 (.int .i64 (y5 - 500))).set 6 (.bool true)) (by omega) (by omega) hl (by decide) (by decide)).mono ?_
      clear c0 c1 c2 c3 c4 c5 c6 c7 c8 c9 f0 f1 f2 f3 f4 f5 f6 f7 f8 f9 r0 r1 r2 r3 r4 r5 r6 r7 r8 r9 s0 s1 s2 s3 s4 s5 s6 s7 s8 s9
      rintro e v6 ⟨⟨y6, rfl, hy6, gy6⟩, m6, ⟨c0, c1, c2, c3, c4, c5, c6, c7, c8, c9⟩, ⟨f0, f1, f2, f3, f4, f5, f6, f7, f8, f9⟩, ⟨r0, r1, r2, r3, r4, r5, r6, r7, r8, r9⟩, ⟨s0, s1, s2, s3, s4, s5, s6, s7, s8, s9⟩⟩
      go_wp2_with fail
      refine (MKx.next (b := 20) (m6.set 8 (.int .i64 (1 + y6))) (by omega) (by omega) hl (by decide) (by decide)).mono ?_
      clear c0 c1 c2 c3 c4 c5 c6 c7 c8 c9 f0 f1 f2 f3 f4 f5 f6 f7 f8 f9 r0 r1 r2 r3 r4 r5 r6 r7 r8 r9 s0 s1 s2 s3 s4 s5 s6 s7 s8 s9
      rintro e v7 ⟨⟨y7, rfl, hy7, gy7⟩, m7, ⟨c0, c1, c2, c3, c4, c5, c6, c7, c8, c9⟩, ⟨f0, f1, f2, f3, f4, f5, f6, f7, f8, f9⟩, ⟨r0, r1, r2, r3, r4, r5, r6, r7, r8, r9⟩, ⟨s0, s1, s2, s3, s4, s5, s6, s7, s8, s9⟩⟩
      go_wp2_with fail
      exact bodyPost_ret (v := .agg #[.int .i64 3, .int .i64 (1 + y0), .int .i64 (1 + y1), .int .i64 y2, .int .i64 y7, .int .i64 y3, .bool true, .bool true, .int .i64 (1 + y6), .int .i64 (y5 - 500)]) (by simp [results, Tryd.results16, go_sem, *]) rfl (MakePost.mk' ⟨3, 1 + y0, 1 + y1, y2, y7, y3, true, true, 1 + y6, y5 - 500⟩ rfl (by constructor <;> simp [I64] <;> omega) (by simp [okR, inB, txnTop, pageTop, prevB, nextB, keyB, valsB] <;> omega) (by omega) (by omega) (MKx.done (m7.set 4 (.int .i64 (y7))) _ _ _ _ _ _ _ _ _ _))
    · have dh : decide (0 < y4) = false := by simpa using hh
      go_wp2_with fail
      refine (MKx.next (b := 20) ((m4.set 7 (.bool false)).set 6 (.bool true)) (by omega) (by omega) hl (by decide) (by decide)).mono ?_
      clear c0 c1 c2 c3 c4 c5 c6 c7 c8 c9 f0 f1 f2 f3 f4 f5 f6 f7 f8 f9 r0 r1 r2 r3 r4 r5 r6 r7 r8 r9 s0 s1 s2 s3 s4 s5 s6 s7 s8 s9
      rintro e v6 ⟨⟨y6, rfl, hy6, gy6⟩, m6, ⟨c0, c1, c2, c3, c4, c5, c6, c7, c8, c9⟩, ⟨f0, f1, f2, f3, f4, f5, f6, f7, f8, f9⟩, ⟨r0, r1, r2, r3, r4, r5, r6, r7, r8, r9⟩, ⟨s0, s1, s2, s3, s4, s5, s6, s7, s8, s9⟩⟩
      go_wp2_with fail
      refine (MKx.next (b := 20) (m6.set 8 (.int .i64 (1 + y6))) (by omega) (by omega) hl (by decide) (by decide)).mono ?_
      clear c0 c1 c2 c3 c4 c5 c6 c7 c8 c9 f0 f1 f2 f3 f4 f5 f6 f7 f8 f9 r0 r1 r2 r3 r4 r5 r6 r7 r8 r9 s0 s1 s2 s3 s4 s5 s6 s7 s8 s9
      rintro e v7 ⟨⟨y7, rfl, hy7, gy7⟩, m7, ⟨c0, c1, c2, c3, c4, c5, c6, c7, c8, c9⟩, ⟨f0, f1, f2, f3, f4, f5, f6, f7, f8, f9⟩, ⟨r0, r1, r2, r3, r4, r5, r6, r7, r8, r9⟩, ⟨s0, s1, s2, s3, s4, s5, s6, s7, s8, s9⟩⟩
      go_wp2_with fail
      exact bodyPost_ret (v := .agg #[.int .i64 3, .int .i64 (1 + y0), .int .i64 (1 + y1), .int .i64 y2, .int .i64 y7, .int .i64 y3, .bool true, .bool false, .int .i64 (1 + y6), .int .i64 0]) (by simp [results, Tryd.results16, go_sem, *]) rfl (MakePost.mk' ⟨3, 1 + y0, 1 + y1, y2, y7, y3, true, false, 1 + y6, 0⟩ rfl (by constructor <;> simp [I64] <;> omega) (by simp [okR, inB, txnTop, pageTop, prevB, nextB, keyB, valsB] <;> omega) (by omega) (by omega) (MKx.done (m7.set 4 (.int .i64 (y7))) _ _ _ _ _ _ _ _ _ _))
  · go_wp2_with fail
    refine (MKx.next (b := 5) (HST.out _) (by omega) (by omega) hl (by decide) (by decide)).mono ?_
    skip
    rintro e v0 ⟨⟨y0, rfl, hy0, gy0⟩, m0, ⟨c0, c1, c2, c3, c4, c5, c6, c7, c8, c9⟩, ⟨f0, f1, f2, f3, f4, f5, f6, f7, f8, f9⟩, ⟨r0, r1, r2, r3, r4, r5, r6, r7, r8, r9⟩, ⟨s0, s1, s2, s3, s4, s5, s6, s7, s8, s9⟩⟩
    go_wp2_with fail
    refine (MKx.next (b := 20) (m0.set 1 (.int .i64 (1 + y0))) (by omega) (by omega) hl (by decide) (by decide)).mono ?_
    clear c0 c1 c2 c3 c4 c5 c6 c7 c8 c9 f0 f1 f2 f3 f4 f5 f6 f7 f8 f9 r0 r1 r2 r3 r4 r5 r6 r7 r8 r9 s0 s1 s2 s3 s4 s5 s6 s7 s8 s9
    rintro e v1 ⟨⟨y1, rfl, hy1, gy1⟩, m1, ⟨c0, c1, c2, c3, c4, c5, c6, c7, c8, c9⟩, ⟨f0, f1, f2, f3, f4, f5, f6, f7, f8, f9⟩, ⟨r0, r1, r2, r3, r4, r5, r6, r7, r8, r9⟩, ⟨s0, s1, s2, s3, s4, s5, s6, s7, s8, s9⟩⟩
    go_wp2_with fail
    exact bodyPost_ret (v := .agg #[.int .i64 4, .int .i64 (1 + y0), .int .i64 0, .int .i64 y1, .int .i64 0, .int .i64 0, .bool false, .bool false, .int .i64 0, .int .i64 0]) (by simp [results, Tryd.results16, go_sem, *]) rfl (MakePost.mk' ⟨4, 1 + y0, 0, y1, 0, 0, false, false, 0, 0⟩ rfl (by constructor <;> simp [I64] <;> omega) (by simp [okR, inB, txnTop, pageTop, prevB, nextB, keyB, valsB] <;> omega) (by omega) (by omega) (MKx.done (m1.set 3 (.int .i64 (y1))) _ _ _ _ _ _ _ _ _ _))
  · go_wp2_with fail
    refine (MKx.next (b := 5) (HST.out _) (by omega) (by omega) hl (by decide) (by decide)).mono ?_
    skip
    rintro e v0 ⟨⟨y0, rfl, hy0, gy0⟩, m0, ⟨c0, c1, c2, c3, c4, c5, c6, c7, c8, c9⟩, ⟨f0, f1, f2, f3, f4, f5, f6, f7, f8, f9⟩, ⟨r0, r1, r2, r3, r4, r5, r6, r7, r8, r9⟩, ⟨s0, s1, s2, s3, s4, s5, s6, s7, s8, s9⟩⟩
    go_wp2_with fail
    refine (MKx.next (b := 20) (m0.set 1 (.int .i64 (1 + y0))) (by omega) (by omega) hl (by decide) (by decide)).mono ?_
    clear c0 c1 c2 c3 c4 c5 c6 c7 c8 c9 f0 f1 f2 f3 f4 f5 f6 f7 f8 f9 r0 r1 r2 r3 r4 r5 r6 r7 r8 r9 s0 s1 s2 s3 s4 s5 s6 s7 s8 s9
    rintro e v1 ⟨⟨y1, rfl, hy1, gy1⟩, m1, ⟨c0, c1, c2, c3, c4, c5, c6, c7, c8, c9⟩, ⟨f0, f1, f2, f3, f4, f5, f6, f7, f8, f9⟩, ⟨r0, r1, r2, r3, r4, r5, r6, r7, r8, r9⟩, ⟨s0, s1, s2, s3, s4, s5, s6, s7, s8, s9⟩⟩
    go_wp2_with fail
    exact bodyPost_ret (v := .agg #[.int .i64 5, .int .i64 (1 + y0), .int .i64 0, .int .i64 y1, .int .i64 0, .int .i64 0, .bool false, .bool false, .int .i64 0, .int .i64 0]) (by simp [results, Tryd.results16, go_sem, *]) rfl (MakePost.mk' ⟨5, 1 + y0, 0, y1, 0, 0, false, false, 0, 0⟩ rfl (by constructor <;> simp [I64] <;> omega) (by simp [okR, inB, txnTop, pageTop, prevB, nextB, keyB, valsB] <;> omega) (by omega) (by omega) (MKx.done (m1.set 3 (.int .i64 (y1))) _ _ _ _ _ _ _ _ _ _))
  · go_wp2_with fail
    refine (MKx.next (b := 5) (HST.out _) (by omega) (by omega) hl (by decide) (by decide)).mono ?_
    skip
    rintro e v0 ⟨⟨y0, rfl, hy0, gy0⟩, m0, ⟨c0, c1, c2, c3, c4, c5, c6, c7, c8, c9⟩, ⟨f0, f1, f2, f3, f4, f5, f6, f7, f8, f9⟩, ⟨r0, r1, r2, r3, r4, r5, r6, r7, r8, r9⟩, ⟨s0, s1, s2, s3, s4, s5, s6, s7, s8, s9⟩⟩
    go_wp2_with fail
    refine (MKx.next (b := 20) (m0.set 1 (.int .i64 (1 + y0))) (by omega) (by omega) hl (by decide) (by decide)).mono ?_
    clear c0 c1 c2 c3 c4 c5 c6 c7 c8 c9 f0 f1 f2 f3 f4 f5 f6 f7 f8 f9 r0 r1 r2 r3 r4 r5 r6 r7 r8 r9 s0 s1 s2 s3 s4 s5 s6 s7 s8 s9
    rintro e v1 ⟨⟨y1, rfl, hy1, gy1⟩, m1, ⟨c0, c1, c2, c3, c4, c5, c6, c7, c8, c9⟩, ⟨f0, f1, f2, f3, f4, f5, f6, f7, f8, f9⟩, ⟨r0, r1, r2, r3, r4, r5, r6, r7, r8, r9⟩, ⟨s0, s1, s2, s3, s4, s5, s6, s7, s8, s9⟩⟩
    go_wp2_with fail
    exact bodyPost_ret (v := .agg #[.int .i64 6, .int .i64 (1 + y0), .int .i64 0, .int .i64 y1, .int .i64 0, .int .i64 0, .bool false, .bool false, .int .i64 0, .int .i64 0]) (by simp [results, Tryd.results16, go_sem, *]) rfl (MakePost.mk' ⟨6, 1 + y0, 0, y1, 0, 0, false, false, 0, 0⟩ rfl (by constructor <;> simp [I64] <;> omega) (by simp [okR, inB, txnTop, pageTop, prevB, nextB, keyB, valsB] <;> omega) (by omega) (by omega) (MKx.done (m1.set 3 (.int .i64 (y1))) _ _ _ _ _ _ _ _ _ _))
  · have hm := HST.out #[.int .i64 7, .int .i64 0, .int .i64 0, .int .i64 0, .int .i64 0, .int .i64 0, .bool false, .bool false, .int .i64 0, .int .i64 0]
    have s0 := RecAt.frozen hz2 0
    have s1 := RecAt.frozen hz2 1
    have s2 := RecAt.frozen hz2 2
    have s3 := RecAt.frozen hz2 3
    have s4 := RecAt.frozen hz2 4
    have s5 := RecAt.frozen hz2 5
    have s6 := RecAt.frozen hz2 6
    have s7 := RecAt.frozen hz2 7
    have s8 := RecAt.frozen hz2 8
    have s9 := RecAt.frozen hz2 9
    have r0 := RecAt.cell hz2 0
    have r1 := RecAt.cell hz2 1
    have r2 := RecAt.cell hz2 2
    have r3 := RecAt.cell hz2 3
    have r4 := RecAt.cell hz2 4
    have r5 := RecAt.cell hz2 5
    have r6 := RecAt.cell hz2 6
    have r7 := RecAt.cell hz2 7
    have r8 := RecAt.cell hz2 8
    have r9 := RecAt.cell hz2 9
    simp only [List.getElem?_toArray, List.getElem?_cons_zero, List.getElem?_cons_succ] at r0 r1 r2 r3 r4 r5 r6 r7 r8 r9
    go_wp2_with fail
    exact bodyPost_ret (v := .agg #[.int .i64 7, .int .i64 0, .int .i64 0, .int .i64 0, .int .i64 0, .int .i64 0, .bool false, .bool false, .int .i64 0, .int .i64 0]) (by simp [results, Tryd.results16, go_sem, *]) rfl (MakePost.mk' ⟨7, 0, 0, 0, 0, 0, false, false, 0, 0⟩ rfl (by constructor <;> simp [I64] <;> omega) (by simp [okR, inB, txnTop, pageTop, prevB, nextB, keyB, valsB] <;> omega) (by omega) (by omega) (ten_alloc_done hs2 hB2 (by omega) (by omega) _ _ _ _ _ _ _ _ _ _ _))
  · go_wp2_with fail
    refine (MKx.next (b := 5) (HST.out _) (by omega) (by omega) hl (by decide) (by decide)).mono ?_
    skip
    rintro e v0 ⟨⟨y0, rfl, hy0, gy0⟩, m0, ⟨c0, c1, c2, c3, c4, c5, c6, c7, c8, c9⟩, ⟨f0, f1, f2, f3, f4, f5, f6, f7, f8, f9⟩, ⟨r0, r1, r2, r3, r4, r5, r6, r7, r8, r9⟩, ⟨s0, s1, s2, s3, s4, s5, s6, s7, s8, s9⟩⟩
    go_wp2_with fail
    refine (MKx.next (b := 20) (m0.set 1 (.int .i64 (1 + y0))) (by omega) (by omega) hl (by decide) (by decide)).mono ?_
    clear c0 c1 c2 c3 c4 c5 c6 c7 c8 c9 f0 f1 f2 f3 f4 f5 f6 f7 f8 f9 r0 r1 r2 r3 r4 r5 r6 r7 r8 r9 s0 s1 s2 s3 s4 s5 s6 s7 s8 s9
    rintro e v1 ⟨⟨y1, rfl, hy1, gy1⟩, m1, ⟨c0, c1, c2, c3, c4, c5, c6, c7, c8, c9⟩, ⟨f0, f1, f2, f3, f4, f5, f6, f7, f8, f9⟩, ⟨r0, r1, r2, r3, r4, r5, r6, r7, r8, r9⟩, ⟨s0, s1, s2, s3, s4, s5, s6, s7, s8, s9⟩⟩
    go_wp2_with fail
    refine (MKx.next (b := 3) (m1.set 3 (.int .i64 (y1))) (by omega) (by omega) hl (by decide) (by decide)).mono ?_
    clear c0 c1 c2 c3 c4 c5 c6 c7 c8 c9 f0 f1 f2 f3 f4 f5 f6 f7 f8 f9 r0 r1 r2 r3 r4 r5 r6 r7 r8 r9 s0 s1 s2 s3 s4 s5 s6 s7 s8 s9
    rintro e v2 ⟨⟨y2, rfl, hy2, gy2⟩, m2, ⟨c0, c1, c2, c3, c4, c5, c6, c7, c8, c9⟩, ⟨f0, f1, f2, f3, f4, f5, f6, f7, f8, f9⟩, ⟨r0, r1, r2, r3, r4, r5, r6, r7, r8, r9⟩, ⟨s0, s1, s2, s3, s4, s5, s6, s7, s8, s9⟩⟩
    go_wp2_with fail
    refine (MKx.next (b := 20) (m2.set 5 (.int .i64 (y2))) (by omega) (by omega) hl (by decide) (by decide)).mono ?_
    clear c0 c1 c2 c3 c4 c5 c6 c7 c8 c9 f0 f1 f2 f3 f4 f5 f6 f7 f8 f9 r0 r1 r2 r3 r4 r5 r6 r7 r8 r9 s0 s1 s2 s3 s4 s5 s6 s7 s8 s9
    rintro e v3 ⟨⟨y3, rfl, hy3, gy3⟩, m3, ⟨c0, c1, c2, c3, c4, c5, c6, c7, c8, c9⟩, ⟨f0, f1, f2, f3, f4, f5, f6, f7, f8, f9⟩, ⟨r0, r1, r2, r3, r4, r5, r6, r7, r8, r9⟩, ⟨s0, s1, s2, s3, s4, s5, s6, s7, s8, s9⟩⟩
    go_wp2_with fail
    exact bodyPost_ret (v := .agg #[.int .i64 8, .int .i64 (1 + y0), .int .i64 0, .int .i64 y1, .int .i64 y3, .int .i64 y2, .bool false, .bool false, .int .i64 0, .int .i64 0]) (by simp [results, Tryd.results16, go_sem, *]) rfl (MakePost.mk' ⟨8, 1 + y0, 0, y1, y3, y2, false, false, 0, 0⟩ rfl (by constructor <;> simp [I64] <;> omega) (by simp [okR, inB, txnTop, pageTop, prevB, nextB, keyB, valsB] <;> omega) (by omega) (by omega) (MKx.done (m3.set 4 (.int .i64 (y3))) _ _ _ _ _ _ _ _ _ _))
  · go_wp2_with fail
    refine (MKx.next (b := 4) (HST.out _) (by omega) (by omega) hl (by decide) (by decide)).mono ?_
    skip
    rintro e v0 ⟨⟨y0, rfl, hy0, gy0⟩, m0, ⟨c0, c1, c2, c3, c4, c5, c6, c7, c8, c9⟩, ⟨f0, f1, f2, f3, f4, f5, f6, f7, f8, f9⟩, ⟨r0, r1, r2, r3, r4, r5, r6, r7, r8, r9⟩, ⟨s0, s1, s2, s3, s4, s5, s6, s7, s8, s9⟩⟩
    go_wp2_with fail
    refine (MKx.next (b := 20) (m0.set 2 (.int .i64 (1 + y0))) (by omega) (by omega) hl (by decide) (by decide)).mono ?_
    clear c0 c1 c2 c3 c4 c5 c6 c7 c8 c9 f0 f1 f2 f3 f4 f5 f6 f7 f8 f9 r0 r1 r2 r3 r4 r5 r6 r7 r8 r9 s0 s1 s2 s3 s4 s5 s6 s7 s8 s9
    rintro e v1 ⟨⟨y1, rfl, hy1, gy1⟩, m1, ⟨c0, c1, c2, c3, c4, c5, c6, c7, c8, c9⟩, ⟨f0, f1, f2, f3, f4, f5, f6, f7, f8, f9⟩, ⟨r0, r1, r2, r3, r4, r5, r6, r7, r8, r9⟩, ⟨s0, s1, s2, s3, s4, s5, s6, s7, s8, s9⟩⟩
    go_wp2_with fail
    exact bodyPost_ret (v := .agg #[.int .i64 9, .int .i64 0, .int .i64 (1 + y0), .int .i64 (1 + y1), .int .i64 0, .int .i64 0, .bool false, .bool false, .int .i64 0, .int .i64 0]) (by simp [results, Tryd.results16, go_sem, *]) rfl (MakePost.mk' ⟨9, 0, 1 + y0, 1 + y1, 0, 0, false, false, 0, 0⟩ rfl (by constructor <;> simp [I64] <;> omega) (by simp [okR, inB, txnTop, pageTop, prevB, nextB, keyB, valsB] <;> omega) (by omega) (by omega) (MKx.done (m1.set 3 (.int .i64 (1 + y1))) _ _ _ _ _ _ _ _ _ _))
  · go_wp2_with fail
    refine (MKx.next (b := 9) (HST.out _) (by omega) (by omega) hl (by decide) (by decide)).mono ?_
    skip
    rintro e v0 ⟨⟨y0, rfl, hy0, gy0⟩, m0, ⟨c0, c1, c2, c3, c4, c5, c6, c7, c8, c9⟩, ⟨f0, f1, f2, f3, f4, f5, f6, f7, f8, f9⟩, ⟨r0, r1, r2, r3, r4, r5, r6, r7, r8, r9⟩, ⟨s0, s1, s2, s3, s4, s5, s6, s7, s8, s9⟩⟩
    go_wp2_with fail
    exact bodyPost_ret (v := .agg #[.int .i64 10, .int .i64 0, .int .i64 0, .int .i64 0, .int .i64 y0, .int .i64 0, .bool false, .bool false, .int .i64 0, .int .i64 0]) (by simp [results, Tryd.results16, go_sem, *]) rfl (MakePost.mk' ⟨10, 0, 0, 0, y0, 0, false, false, 0, 0⟩ rfl (by constructor <;> simp [I64] <;> omega) (by simp [okR, inB, txnTop, pageTop, prevB, nextB, keyB, valsB] <;> omega) (by omega) (by omega) (MKx.done (m0.set 4 (.int .i64 (y0))) _ _ _ _ _ _ _ _ _ _))
end Go.Proofs.YtpgelebmhhcodaaDoor
