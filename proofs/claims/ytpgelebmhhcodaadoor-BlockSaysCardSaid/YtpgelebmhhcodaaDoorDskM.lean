/- Where a disk lies in memory, and what keeps it. -/
import Derived.Test.YtpgelebmhhcodaaDoorProg
import Derived.Test.YtpgelebmhhcodaaDoorDskP
import Derived.Test.YtpgelebmhhcodaaDoorMasRow
namespace Go.Proofs.YtpgelebmhhcodaaDoor
open Go.RowKit
set_option linter.unusedVariables false

/-- memory outside what is owned is as it was; what is owned grows by new blocks alone -/
structure Ext (F : Nat → Prop) (w : World) (F' : Nat → Prop) (w' : World) : Prop where
  os : w'.os = w.os
  tape : w'.tape = w.tape
  output : w'.output = w.output
  size : w.heap.size ≤ w'.heap.size
  block : ∀ k, k < w.heap.size → ¬ F k → w'.heap[k]? = w.heap[k]?
  grow : ∀ k, F' k → F k ∨ w.heap.size ≤ k
theorem Ext.refl (F : Nat → Prop) (w : World) : Ext F w F w := ⟨rfl, rfl, rfl, Nat.le_refl _, fun _ _ _ => rfl, fun _ h => .inl h⟩
theorem Ext.trans {F F' F'' : Nat → Prop} {w w' w'' : World} (h : Ext F w F' w') (k : Ext F' w' F'' w'') : Ext F w F'' w'' :=
  ⟨k.os.trans h.os, k.tape.trans h.tape, k.output.trans h.output, Nat.le_trans h.size k.size,
    fun b hb hn => (k.block b (Nat.lt_of_lt_of_le hb h.size) fun hf => (h.grow b hf).elim hn fun hle => absurd hb (Nat.not_lt.2 hle)).trans (h.block b hb hn),
    fun b hf => (k.grow b hf).elim (fun hf' => h.grow b hf') fun hle => .inr (Nat.le_trans h.size hle)⟩
theorem Ext.of_below {F : Nat → Prop} {w w' : World} (h : Below w.heap.size w w') : Ext F w F w' := ⟨h.os, h.tape, h.output, h.size, fun k hk _ => h.block k hk, fun _ h => .inl h⟩
theorem Ext.below {F F' : Nat → Prop} {w w' : World} {B : Nat} (h : Ext F w F' w') (hF : ∀ k, F k → B ≤ k) (hB : B ≤ w.heap.size) : Below B w w' :=
  ⟨h.os, h.tape, h.output, h.size, fun k hk => h.block k (Nat.lt_of_lt_of_le hk hB) fun hf => absurd hk (Nat.not_lt.2 (hF k hf))⟩
theorem Ext.low {F F' : Nat → Prop} {w w' : World} {B : Nat} (h : Ext F w F' w') (hF : ∀ k, F k → B ≤ k) (hB : B ≤ w.heap.size) : ∀ k, F' k → B ≤ k := fun k hk => (h.grow k hk).elim (hF k) fun hle => Nat.le_trans hB hle

theorem Bs.same {w w' : World} {v : Value} {l : List Int} (h : Bs w v l) (hb : ∀ b, v.ownBlock = some b → w'.heap[b]? = w.heap[b]?) : Bs w' v l := by
  obtain ⟨h1, o, c, rfl, h3, h4, h5, h6⟩ := h
  refine ⟨h1, o, c, rfl, h3, h4, h5, fun hne => ?_⟩
  obtain ⟨a, ha, hc⟩ := h6 hne
  refine ⟨a, ha, fun i hi => ?_⟩
  rw [← hc i hi]
  refine World.cell?_of_block ?_
  have e : (a.add i).block = a.block := by unfold Addr.add; split <;> rfl
  rw [e]
  exact hb a.block (by rw [ha]; rfl)

/-- bytes that lie in one of these blocks -/
def BsR (w : World) (R : Nat → Prop) (v : Value) (l : List Int) : Prop := Bs w v l ∧ ∀ b, v.ownBlock = some b → R b
theorem BsR.same {w w' : World} {R R' : Nat → Prop} {v : Value} {l : List Int} (h : BsR w R v l) (hb : ∀ b, R b → w'.heap[b]? = w.heap[b]?) (hR : ∀ b, R b → R' b) : BsR w' R' v l :=
  ⟨h.1.same fun b e => hb b (h.2 b e), fun b e => hR b (h.2 b e)⟩

theorem ownsRow_same {w w' : World} {base size n : Nat} {e : TypeId} {v : Value} {xs : List Value} (h : w.ownsRow base e size v n xs) (hb : ∀ b, v.ownBlock = some b → w'.heap[b]? = w.heap[b]?) : w'.ownsRow base e size v n xs := by
  obtain ⟨h1, h2⟩ := h
  refine ⟨h1, ?_⟩
  rcases h2 with h2 | ⟨g, cap, cur, rfl, h3, h4, h5⟩
  · exact .inl h2
  · exact .inr ⟨g, cap, cur, rfl, h3, by rw [hb g rfl]; exact h4, h5⟩

/-- the loose versions: a row of their own, of slices of bytes -/
def LooseAt (w : World) (R : Nat → Prop) (v : Value) (L : List (List Int)) : Prop :=
  ∃ xs : List Value, w.ownsRow 0 25 1 v L.length xs ∧ ∀ i, i < L.length → BsR w R (xs.getD i undef) (L.getD i [])
theorem LooseAt.same {w w' : World} {R R' : Nat → Prop} {v : Value} {L : List (List Int)} (h : LooseAt w R v L) (hv : ∀ b, v.ownBlock = some b → w'.heap[b]? = w.heap[b]?) (hb : ∀ b, R b → w'.heap[b]? = w.heap[b]?) (hR : ∀ b, R b → R' b) : LooseAt w' R' v L := by
  obtain ⟨xs, h1, h2⟩ := h
  exact ⟨xs, ownsRow_same h1 hv, fun i hi => (h2 i hi).same hb hR⟩
theorem LooseAt.nil (w : World) (R : Nat → Prop) : LooseAt w R (.slice none 0 0) [] := ⟨[], World.ownsRow_nil _ _ _ _, fun i hi => absurd hi (by simp)⟩

/-- a sector: its two cells -/
structure SecAt (w : World) (R : Nat → Prop) (u v : Value) (s : SecD) : Prop where
  fast : BsR w R u s.fast
  flen : s.fast.length = 256
  loose : LooseAt w R v s.loose
  llen : ∀ b ∈ s.loose, b.length = 256
  many : s.loose.length ≤ 1000000
theorem SecAt.same {w w' : World} {R R' : Nat → Prop} {u v : Value} {s : SecD} (h : SecAt w R u v s) (hv : ∀ b, v.ownBlock = some b → w'.heap[b]? = w.heap[b]?) (hb : ∀ b, R b → w'.heap[b]? = w.heap[b]?) (hR : ∀ b, R b → R' b) : SecAt w' R' u v s :=
  ⟨h.fast.same hb hR, h.flen, h.loose.same hv hb hR, h.llen, h.many⟩

/-- where a disk lies -/
structure DG where
  G : Nat
  cap : Nat
  U : Nat → Value
  V : Nat → Value
  R : Nat → Prop
def DG.F (g : DG) (H n : Nat) : Nat → Prop := fun b => b = H ∨ b = g.G ∨ (∃ i, i < n ∧ (g.V i).ownBlock = some b) ∨ g.R b

theorem LooseAt.lt {w : World} {R : Nat → Prop} {v : Value} {L : List (List Int)} (h : LooseAt w R v L) {b : Nat} (hb : v.ownBlock = some b) : b < w.heap.size := by
  obtain ⟨xs, h1, _⟩ := h
  exact (h1.lt b hb).2
theorem ext_setCell {F : Nat → Prop} {w : World} {H : Nat} (hF : F H) (i : Nat) (v : Value) : Ext F w F (w.setCell ⟨H, i, none⟩ v) :=
  ⟨rfl, rfl, rfl, by show _ ≤ (w.heap.modify H _).size; simp, fun k _ hn => by
    show (w.heap.modify H _)[k]? = _
    rw [Array.getElem?_modify, if_neg (fun (e : H = k) => hn (by rw [← e]; exact hF))], fun _ h => .inl h⟩

def upd {α : Type} (f : Nat → α) (k : Nat) (x : α) : Nat → α := fun i => if i = k then x else f i
theorem upd_at {α : Type} (f : Nat → α) (k : Nat) (x : α) : upd f k x k = x := by simp [upd]
theorem upd_ne {α : Type} (f : Nat → α) {k i : Nat} (x : α) (h : i ≠ k) : upd f k x i = f i := by simp [upd, h]

end Go.Proofs.YtpgelebmhhcodaaDoor
