/- The graph of who waits for whom, in memory. -/
import Derived.Test.YtpgelebmhhcodaaWtG
import Derived.Test.YtpgelebmhhcodaaDskM
namespace Go.Proofs.Ytpgelebmhhcodaa
open Go.RowKit
set_option linter.unusedVariables false

theorem Oi.blk {base : Nat} {w : World} {v : Value} {l : List Int} (h : Oi base w v l) {g : Nat} (hg : v.ownBlock = some g) : ∃ cur, w.heap[g]? = some (.cells cur 3 (0, 0)) := by
  rcases h.2.2 with ⟨rfl, _⟩ | ⟨g', cap, cur, rfl, _, h1, _⟩
  · simp [Value.ownBlock] at hg
  · have : g' = g := by simpa [Value.ownBlock] using hg
    subst this
    exact ⟨cur, h1⟩
theorem Ext.grown {F : Nat → Prop} {w w' : World} {r : Option Nat} (h : w.grownBy w' r) (hr : ∀ b, r = some b → F b) : Ext F w F w' :=
  ⟨h.os, h.tape, h.output, h.size, fun k hk hn => h.block k hk fun e => hn (hr k e.symm), fun _ h => .inl h⟩

/-- the graph: mo its map, f the map's elements, M whom each waits for -/
structure Gr (w : World) (X : Nat) (mo : Option Nat) (n : Nat) (f : Int → Option Value) (M : Int → List Int) : Prop where
  head : w.heap[X]? = some (.cells #[.map mo] 39 (0, 0))
  mp : (mo = none ∧ ∀ k, f k = none) ∨ ∃ b, mo = some b ∧ Mp w b n f
  own : ∀ k v, f k = some v → Oi 0 w v (M k)
  no : ∀ k, f k = none → M k = []
  apart : ∀ k k' v v' g, f k = some v → f k' = some v' → v.ownBlock = some g → v'.ownBlock = some g → k = k'
def Gr.F (X : Nat) (mo : Option Nat) (f : Int → Option Value) : Nat → Prop := fun b => b = X ∨ mo = some b ∨ ∃ k v, f k = some v ∧ v.ownBlock = some b
theorem Gr.low {w : World} {X : Nat} {mo : Option Nat} {n : Nat} {f : Int → Option Value} {M : Int → List Int} (h : Gr w X mo n f M) {b : Nat} (hb : Gr.F X mo f b) : b < w.heap.size := by
  rcases hb with rfl | e | ⟨k, v, e1, e2⟩
  · exact (Array.getElem?_eq_some_iff.1 h.head).1
  · rcases h.mp with ⟨e1, _⟩ | ⟨b', e1, e2⟩
    · rw [e1] at e; simp at e
    · rw [e1] at e
      obtain rfl : b' = b := by simpa using e
      exact e2.lt
  · exact ((h.own k v e1).lt e2).2
theorem Gr.same {w w' : World} {X : Nat} {mo : Option Nat} {n : Nat} {f : Int → Option Value} {M : Int → List Int} (h : Gr w X mo n f M) (hb : ∀ b, Gr.F X mo f b → w'.heap[b]? = w.heap[b]?) : Gr w' X mo n f M := by
  refine ⟨by rw [hb X (.inl rfl)]; exact h.head, ?_, fun k v e => (h.own k v e).same fun b e2 => hb b (.inr (.inr ⟨k, v, e, e2⟩)), h.no, h.apart⟩
  rcases h.mp with e | ⟨b, rfl, e2⟩
  · exact .inl e
  · exact .inr ⟨b, rfl, e2.same (hb b (.inr (.inl rfl)))⟩
theorem Gr.below {w w' : World} {X : Nat} {mo : Option Nat} {n : Nat} {f : Int → Option Value} {M : Int → List Int} (h : Gr w X mo n f M) (hb : Below w.heap.size w w') : Gr w' X mo n f M := h.same fun b hf => hb.block b (h.low hf)
theorem Gr.cell {w : World} {X : Nat} {mo : Option Nat} {n : Nat} {f : Int → Option Value} {M : Int → List Int} (h : Gr w X mo n f M) : w.cell? ⟨X, 0, none⟩ = some (.map mo) ∧ w.frozen? ⟨X, 0, none⟩ = false :=
  ⟨by rw [cell_of_row w X _ _ _ (0, 0) h.head]; rfl, rowFrozen h.head 0⟩
theorem Gr.new (w : World) : Gr (w.alloc (.cells #[.map none] 39)) w.heap.size none 0 (fun _ => none) (fun _ => []) :=
  ⟨heap_alloc_new w _, .inl ⟨rfl, fun _ => rfl⟩, fun k v e => by simp at e, fun _ _ => rfl, fun k k' v v' g e => by simp at e⟩
theorem Gr.rowX {w : World} {X : Nat} {mo : Option Nat} {n : Nat} {f : Int → Option Value} {M : Int → List Int} (h : Gr w X mo n f M) {k : Int} {v : Value} (hk : f k = some v) : v.ownBlock ≠ some X := fun e => by
  obtain ⟨cur, hc⟩ := (h.own k v hk).blk e
  rw [h.head] at hc
  simp at hc
theorem Gr.rowB {w : World} {X b : Nat} {n : Nat} {f : Int → Option Value} {M : Int → List Int} (h : Gr w X (some b) n f M) {k : Int} {v : Value} (hk : f k = some v) : v.ownBlock ≠ some b := fun e => by
  obtain ⟨cur, hc⟩ := (h.own k v hk).blk e
  rcases h.mp with ⟨e1, _⟩ | ⟨b', e1, e2⟩
  · simp at e1
  · obtain rfl : b = b' := by simpa using e1
    obtain ⟨es, c, hm⟩ := e2.form
    rw [hm] at hc
    simp at hc
theorem Gr.XB {w : World} {X b : Nat} {n : Nat} {f : Int → Option Value} {M : Int → List Int} (h : Gr w X (some b) n f M) : X ≠ b := fun e => by
  rcases h.mp with ⟨e1, _⟩ | ⟨b', e1, e2⟩
  · simp at e1
  · obtain rfl : b = b' := by simpa using e1
    obtain ⟨es, c, hm⟩ := e2.form
    have := h.head
    rw [e, hm] at this
    simp at this
theorem Gr.map {w : World} {X b : Nat} {n : Nat} {f : Int → Option Value} {M : Int → List Int} (h : Gr w X (some b) n f M) : Mp w b n f := by
  rcases h.mp with ⟨e1, _⟩ | ⟨b', e1, e2⟩
  · simp at e1
  · obtain rfl : b = b' := by simpa using e1
    exact e2
theorem Gr.nilM {w : World} {X : Nat} {n : Nat} {f : Int → Option Value} {M : Int → List Int} (h : Gr w X none n f M) (k : Int) : f k = none := by
  rcases h.mp with ⟨_, e⟩ | ⟨b', e1, e2⟩
  · exact e k
  · simp at e1
theorem Gr.key {w : World} {X : Nat} {mo : Option Nat} {n : Nat} {f : Int → Option Value} {M : Int → List Int} (h : Gr w X mo n f M) {k : Int} {v : Value} (hk : f k = some v) : I64L k := by
  rcases h.mp with ⟨_, e⟩ | ⟨b', e1, e2⟩
  · rw [e k] at hk; simp at hk
  · exact e2.key hk
theorem rowsZero (w : World) : (zeroValue 34).run Try.prog w = .ok (.slice none 0 0) w := by kernel_rfl
/-- the slice at a key -/
def rowAt (f : Int → Option Value) (k : Int) : Value := (f k).getD (.slice none 0 0)
theorem Gr.row {w : World} {X : Nat} {mo : Option Nat} {n : Nat} {f : Int → Option Value} {M : Int → List Int} (h : Gr w X mo n f M) (k : Int) : Ns .i64 w (rowAt f k) (M k) := by
  unfold rowAt
  cases e : f k with
  | none => rw [h.no k e]; exact Ns.nil _ _
  | some v => exact (h.own k v e).ns
theorem Gr.look {w : World} {X : Nat} {mo : Option Nat} {n : Nat} {f : Int → Option Value} {M : Int → List Int} (h : Gr w X mo n f M) {k : Int} (hk : I64L k) :
    (Instr.lookup 37 (.map mo) (.int .i64 k) false).run Try.prog w = .ok (rowAt f k) w := by
  rcases h.mp with ⟨rfl, e⟩ | ⟨b, rfl, e2⟩
  · rw [look_nilM Try.underlying37 (rowsZero w) hk]
    unfold rowAt
    rw [e k]
    rfl
  · rw [e2.look Try.underlying37 (rowsZero w) hk]
    rfl
theorem Gr.lookN {w : World} {X : Nat} {mo : Option Nat} {n : Nat} {f : Int → Option Value} {M : Int → List Int} (h : Gr w X mo n f M) {k : Int} (hk : I64L k) (m : Nat) :
    (Instr.lookup 37 (.map mo) (.int .i64 k) false).run Try.prog (w.drewN m) = .ok (rowAt f k) (w.drewN m) := (h.below (bdrew _ _ m)).look hk

/-- the graph but for what lies at one key -/
structure GrH (w : World) (X b n : Nat) (f : Int → Option Value) (M : Int → List Int) (s : Int) : Prop where
  head : w.heap[X]? = some (.cells #[.map (some b)] 39 (0, 0))
  mp : Mp w b n f
  own : ∀ k v, k ≠ s → f k = some v → Oi 0 w v (M k)
  no : ∀ k, k ≠ s → f k = none → M k = []
  apart : ∀ k k' v v' g, f k = some v → f k' = some v' → v.ownBlock = some g → v'.ownBlock = some g → k = k'
theorem Gr.hole {w : World} {X b n : Nat} {f : Int → Option Value} {M : Int → List Int} (h : Gr w X (some b) n f M) (s : Int) : GrH w X b n f M s := ⟨h.head, h.map, fun k v _ e => h.own k v e, fun k _ e => h.no k e, h.apart⟩
/-- a slice stored at a key -/
theorem GrH.put {w : World} {X b n : Nat} {f : Int → Option Value} {M : Int → List Int} {s : Int} (h : GrH w X b n f M s) (hs : I64L s) (hn : n < 1000000) {v : Value} {l : List Int} (ho : Oi 0 w v l) (hv : ∀ g, v.ownBlock = some g → (∀ k u, k ≠ s → f k = some u → u.ownBlock ≠ some g)) :
    ∃ w2, (Instr.mapUpdate 37 (.map (some b)) (.int .i64 s) v).run Try.prog w = .ok () w2 ∧ Gr w2 X (some b) (n + 1) (updM f s (some v)) (updM M s l) ∧ w.grownBy w2 (some b) ∧ w2.heap.size = w.heap.size := by
  obtain ⟨w2, hrun, hmp, hg, hsz⟩ := h.mp.store Try.underlying37 hn hs v
  obtain ⟨es, c, hm⟩ := h.mp.form
  have hX : X ≠ b := fun e => by
    have := h.head
    rw [e, hm] at this
    simp at this
  have hXlt : X < w.heap.size := (Array.getElem?_eq_some_iff.1 h.head).1
  have hB : ∀ (u : Value) (m : List Int), Oi 0 w u m → u.ownBlock ≠ some b := fun u m hu e2 => by
    obtain ⟨cur, hc⟩ := hu.blk e2
    rw [hm] at hc
    simp at hc
  refine ⟨w2, hrun, ⟨?_, .inr ⟨b, rfl, hmp⟩, fun k u e => ?_, fun k e => ?_, fun k k' u u' g e1 e2 e3 e4 => ?_⟩, hg, hsz⟩
  · rw [hg.block X hXlt (by simpa using hX)]; exact h.head
  · by_cases ek : k = s
    · subst ek
      rw [updM_same] at e ⊢
      obtain rfl : v = u := by simpa using e
      refine ho.same fun g e2 => hg.block g (ho.lt e2).2 ?_
      rintro e3
      exact hB _ _ ho (by rw [e2, e3])
    · rw [updM_other _ _ ek] at e ⊢
      have hu := h.own k u ek e
      refine hu.same fun g e2 => hg.block g (hu.lt e2).2 ?_
      rintro e3
      exact hB _ _ hu (by rw [e2, e3])
  · by_cases ek : k = s
    · subst ek; rw [updM_same] at e; simp at e
    · rw [updM_other _ _ ek] at e ⊢
      exact h.no k ek e
  · by_cases ek : k = s
    · by_cases ek' : k' = s
      · rw [ek, ek']
      · subst ek
        rw [updM_same] at e1
        rw [updM_other _ _ ek'] at e2
        obtain rfl : v = u := by simpa using e1
        exact absurd e4 (hv g e3 k' u' ek' e2)
    · by_cases ek' : k' = s
      · subst ek'
        rw [updM_other _ _ ek] at e1
        rw [updM_same] at e2
        obtain rfl : v = u' := by simpa using e2
        exact absurd e3 (hv g e4 k u ek e1)
      · rw [updM_other _ _ ek] at e1
        rw [updM_other _ _ ek'] at e2
        exact h.apart k k' u u' g e1 e2 e3 e4
theorem Gr.put {w : World} {X b n : Nat} {f : Int → Option Value} {M : Int → List Int} (h : Gr w X (some b) n f M) {s : Int} (hs : I64L s) (hn : n < 1000000) {v : Value} {l : List Int} (ho : Oi 0 w v l) (hv : ∀ g, v.ownBlock = some g → (∀ k u, k ≠ s → f k = some u → u.ownBlock ≠ some g)) :
    ∃ w2, (Instr.mapUpdate 37 (.map (some b)) (.int .i64 s) v).run Try.prog w = .ok () w2 ∧ Gr w2 X (some b) (n + 1) (updM f s (some v)) (updM M s l) ∧ w.grownBy w2 (some b) ∧ w2.heap.size = w.heap.size := (h.hole s).put hs hn ho hv
theorem Gr.setN {w : World} {X b n n' : Nat} {f : Int → Option Value} {M : Int → List Int} (h : Gr w X (some b) n f M) (hm : Mp w b n' f) : Gr w X (some b) n' f M := ⟨h.head, .inr ⟨b, rfl, hm⟩, h.own, h.no, h.apart⟩
theorem Ext.put {F0 : Nat → Prop} {w0 w w2 : World} {X b : Nat} {f : Int → Option Value} (he : Ext F0 w0 (Gr.F X (some b) f) w) (hg : w.grownBy w2 (some b)) {s : Int} {v : Value} (hv : ∀ g, v.ownBlock = some g → Gr.F X (some b) f g ∨ w0.heap.size ≤ g) :
    Ext F0 w0 (Gr.F X (some b) (updM f s (some v))) w2 := by
  refine ⟨hg.os.trans he.os, hg.tape.trans he.tape, hg.output.trans he.output, Nat.le_trans he.size hg.size, fun k hk hnf => ?_, fun k hk => ?_⟩
  · rw [hg.block k (Nat.lt_of_lt_of_le hk he.size) (fun e => ?_), he.block k hk hnf]
    rcases he.grow b (.inr (.inl rfl)) with h1 | h1
    · obtain rfl : k = b := by simpa using e
      exact hnf h1
    · obtain rfl : k = b := by simpa using e
      omega
  · rcases hk with e | e | ⟨j, x, e1, e2⟩
    · exact he.grow k (.inl e)
    · exact he.grow k (.inr (.inl e))
    · by_cases ej : j = s
      · subst ej
        rw [updM_same] at e1
        obtain rfl : v = x := by simpa using e1
        rcases hv k e2 with h1 | h1
        · exact he.grow k h1
        · exact .inr h1
      · rw [updM_other _ _ ej] at e1
        exact he.grow k (.inr (.inr ⟨j, x, e1, e2⟩))
theorem Ext.out {F0 F1 : Nat → Prop} {w0 w w2 : World} {r : Option Nat} (he : Ext F0 w0 F1 w) (hg : w.grownBy w2 r) (hr : ∀ b, r = some b → F1 b ∨ w0.heap.size ≤ b) : Ext F0 w0 F1 w2 := by
  refine ⟨hg.os.trans he.os, hg.tape.trans he.tape, hg.output.trans he.output, Nat.le_trans he.size hg.size, fun k hk hnf => ?_, he.grow⟩
  rw [hg.block k (Nat.lt_of_lt_of_le hk he.size) (fun e => ?_), he.block k hk hnf]
  rcases hr k e.symm with h1 | h1
  · rcases he.grow k h1 with h2 | h2
    · exact hnf h2
    · omega
  · omega
/-- a key struck out -/
theorem Gr.strike {w : World} {X : Nat} {mo : Option Nat} {n : Nat} {f : Int → Option Value} {M : Int → List Int} (h : Gr w X mo n f M) {s : Int} (hs : I64L s) :
    ∃ w2, (∀ ty, (Builtin.delete_ #[37, 3] ty #[.map mo, .int .i64 s]).run Try.prog w = .ok (.tuple #[]) w2) ∧ Gr w2 X mo n (updM f s none) (updM M s []) ∧ Ext (Gr.F X mo f) w (Gr.F X mo (updM f s none)) w2 := by
  rcases h.mp with ⟨rfl, e⟩ | ⟨b, rfl, e2⟩
  · have hf : updM f s none = f := by
      funext k; unfold updM; split
      · rw [e k]
      · rfl
    have hM : updM M s [] = M := by
      funext k; unfold updM; split
      · rw [h.no k (e k)]
      · rfl
    rw [hf, hM]
    exact ⟨w, fun ty => del_nilM Try.underlying37 hs ty, h, Ext.refl _ _⟩
  · obtain ⟨w2, hrun, hmp, hg, hsz⟩ := e2.del Try.underlying37 hs 0
    have hX := h.XB
    have hXlt := h.low (.inl rfl)
    refine ⟨w2, fun ty => hrun, ⟨?_, .inr ⟨b, rfl, hmp⟩, fun k u e => ?_, fun k e => ?_, fun k k' u u' g e1 e2 e3 e4 => ?_⟩, ⟨hg.os, hg.tape, hg.output, hg.size, fun k hk hnf => hg.block k hk (fun e => hnf (.inr (.inl e.symm))), fun k hk => ?_⟩⟩
    · rw [hg.block X hXlt (by simpa using hX)]; exact h.head
    · by_cases ek : k = s
      · subst ek; rw [updM_same] at e; simp at e
      · rw [updM_other _ _ ek] at e ⊢
        refine (h.own k u e).same fun g e2 => hg.block g ((h.own k u e).lt e2).2 ?_
        rintro e3
        exact h.rowB e (by rw [e2, e3])
    · by_cases ek : k = s
      · subst ek; rw [updM_same]
      · rw [updM_other _ _ ek] at e ⊢
        exact h.no k e
    · have hne : ∀ j x, updM f s none j = some x → f j = some x := fun j x e => by
        by_cases ek : j = s
        · subst ek; rw [updM_same] at e; simp at e
        · rw [updM_other _ _ ek] at e; exact e
      exact h.apart k k' u u' g (hne _ _ e1) (hne _ _ e2) e3 e4
    · rcases hk with e | e | ⟨j, x, e1, e2⟩
      · exact .inl (.inl e)
      · exact .inl (.inr (.inl e))
      · by_cases ej : j = s
        · subst ej; rw [updM_same] at e1; simp at e1
        · rw [updM_other _ _ ej] at e1
          exact .inl (.inr (.inr ⟨j, x, e1, e2⟩))
/-- a map made where there was none -/
theorem Gr.make {w : World} {X n : Nat} {f : Int → Option Value} {M : Int → List Int} (h : Gr w X none n f M) {w1 : World} (hb : Below w.heap.size w w1) :
    Gr ((w1.alloc (.map #[] 0)).setCell ⟨X, 0, none⟩ (.map (some w1.heap.size))) X (some w1.heap.size) 0 f M ∧ Ext (Gr.F X none f) w (Gr.F X (some w1.heap.size) f) ((w1.alloc (.map #[] 0)).setCell ⟨X, 0, none⟩ (.map (some w1.heap.size))) := by
  have hf := h.nilM
  have hb1 : Below w.heap.size w (w1.alloc (.map #[] 0)) := hb.alloc hb.size _
  have hX := (h.below hb1).head
  have hXlt : X < w.heap.size := h.low (.inl rfl)
  have hXs := hb.size
  have hne : w1.heap.size ≠ X := by omega
  have hmade := Mp.made w1
  have he : Ext (fun b => b = X) (w1.alloc (.map #[] 0)) (fun b => b = X) ((w1.alloc (.map #[] 0)).setCell ⟨X, 0, none⟩ (.map (some w1.heap.size))) := ext_setCell (F := fun b => b = X) rfl _ _
  refine ⟨⟨?_, .inr ⟨_, rfl, ?_⟩, fun k v e => by rw [hf k] at e; simp at e, h.no, fun k k' v v' g e => by rw [hf k] at e; simp at e⟩, ?_⟩
  · rw [setCell_rowL hX]; rfl
  · have hfe : f = fun _ => none := funext hf
    rw [hfe]
    exact hmade.same (setCell_otherL _ _ _ hne)
  · refine ⟨he.os.trans hb1.os, he.tape.trans hb1.tape, he.output.trans hb1.output, Nat.le_trans hb1.size he.size, fun k hk hnf => ?_, fun k hk => ?_⟩
    · rw [he.block k (Nat.lt_of_lt_of_le hk hb1.size) (fun e => hnf (.inl e)), hb1.block k hk]
    · rcases hk with e | e | ⟨j, x, e1, e2⟩
      · exact .inl (.inl e)
      · obtain rfl : w1.heap.size = k := by simpa using e
        exact .inr hb.size
      · rw [hf j] at e1; simp at e1
end Go.Proofs.Ytpgelebmhhcodaa
