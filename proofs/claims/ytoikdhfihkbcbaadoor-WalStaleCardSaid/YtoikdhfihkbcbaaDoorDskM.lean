/- Where a disk lies in memory, and what keeps it. -/
import Derived.Test.YtoikdhfihkbcbaaDoorProg
import Derived.Test.YtoikdhfihkbcbaaDoorDskP
import Derived.Test.YtoikdhfihkbcbaaDoorMasRow
namespace Go.Proofs.YtoikdhfihkbcbaaDoor
open Go.RowKit
set_option linter.unusedVariables false

/-- memory outside what is owned is as it was; what is owned grows by new blocks alone -/
structure Ext (F : Nat → Prop) (w : World) (F' : Nat → Prop) (w' : World) : Prop where
  os : w'.os = w.os
  tape : w'.tape = w.tape
  output : w'.output = w.output
  size : w.heap.size ≤ w'.heap.size
  block : ∀ k, k < w.heap.size → ¬ F k → w'.heap[k]? = w.heap[k]?
  grow : ∀ k, F' k → F k ∨ w.heap.size ≤ k
theorem Ext.refl (F : Nat → Prop) (w : World) : Ext F w F w := ⟨rfl, rfl, rfl, Nat.le_refl _, fun _ _ _ => rfl, fun _ h => .inl h⟩
theorem Ext.trans {F F' F'' : Nat → Prop} {w w' w'' : World} (h : Ext F w F' w') (k : Ext F' w' F'' w'') : Ext F w F'' w'' :=
  ⟨k.os.trans h.os, k.tape.trans h.tape, k.output.trans h.output, Nat.le_trans h.size k.size,
    fun b hb hn => (k.block b (Nat.lt_of_lt_of_le hb h.size) fun hf => (h.grow b hf).elim hn fun hle => absurd hb (Nat.not_lt.2 hle)).trans (h.block b hb hn),
    fun b hf => (k.grow b hf).elim (fun hf' => h.grow b hf') fun hle => .inr (Nat.le_trans h.size hle)⟩
theorem Ext.of_below {F : Nat → Prop} {w w' : World} (h : Below w.heap.size w w') : Ext F w F w' := ⟨h.os, h.tape, h.output, h.size, fun k hk _ => h.block k hk, fun _ h => .inl h⟩
theorem Ext.below {F F' : Nat → Prop} {w w' : World} {B : Nat} (h : Ext F w F' w') (hF : ∀ k, F k → B ≤ k) (hB : B ≤ w.heap.size) : Below B w w' :=
  ⟨h.os, h.tape, h.output, h.size, fun k hk => h.block k (Nat.lt_of_lt_of_le hk hB) fun hf => absurd hk (Nat.not_lt.2 (hF k hf))⟩
theorem Ext.low {F F' : Nat → Prop} {w w' : World} {B : Nat} (h : Ext F w F' w') (hF : ∀ k, F k → B ≤ k) (hB : B ≤ w.heap.size) : ∀ k, F' k → B ≤ k := fun k hk => (h.grow k hk).elim (hF k) fun hle => Nat.le_trans hB hle

theorem Bs.same {w w' : World} {v : Value} {l : List Int} (h : Bs w v l) (hb : ∀ b, v.ownBlock = some b → w'.heap[b]? = w.heap[b]?) : Bs w' v l := by
  obtain ⟨h1, o, c, rfl, h3, h4, h5, h6⟩ := h
  refine ⟨h1, o, c, rfl, h3, h4, h5, fun hne => ?_⟩
  obtain ⟨a, ha, hc⟩ := h6 hne
  refine ⟨a, ha, fun i hi => ?_⟩
  rw [← hc i hi]
  refine World.cell?_of_block ?_
  have e : (a.add i).block = a.block := by unfold Addr.add; split <;> rfl
  rw [e]
  exact hb a.block (by rw [ha]; rfl)

/-- bytes that lie in one of these blocks -/
def BsR (w : World) (R : Nat → Prop) (v : Value) (l : List Int) : Prop := Bs w v l ∧ ∀ b, v.ownBlock = some b → R b
theorem BsR.same {w w' : World} {R R' : Nat → Prop} {v : Value} {l : List Int} (h : BsR w R v l) (hb : ∀ b, R b → w'.heap[b]? = w.heap[b]?) (hR : ∀ b, R b → R' b) : BsR w' R' v l :=
  ⟨h.1.same fun b e => hb b (h.2 b e), fun b e => hR b (h.2 b e)⟩

theorem ownsRow_same {w w' : World} {base size n : Nat} {e : TypeId} {v : Value} {xs : List Value} (h : w.ownsRow base e size v n xs) (hb : ∀ b, v.ownBlock = some b → w'.heap[b]? = w.heap[b]?) : w'.ownsRow base e size v n xs := by
  obtain ⟨h1, h2⟩ := h
  refine ⟨h1, ?_⟩
  rcases h2 with h2 | ⟨g, cap, cur, rfl, h3, h4, h5⟩
  · exact .inl h2
  · exact .inr ⟨g, cap, cur, rfl, h3, by rw [hb g rfl]; exact h4, h5⟩

/-- the loose versions: a row of their own, of slices of bytes -/
def LooseAt (w : World) (R : Nat → Prop) (v : Value) (L : List (List Int)) : Prop :=
  ∃ xs : List Value, w.ownsRow 0 33 1 v L.length xs ∧ ∀ i, i < L.length → BsR w R (xs.getD i undef) (L.getD i [])
theorem LooseAt.same {w w' : World} {R R' : Nat → Prop} {v : Value} {L : List (List Int)} (h : LooseAt w R v L) (hv : ∀ b, v.ownBlock = some b → w'.heap[b]? = w.heap[b]?) (hb : ∀ b, R b → w'.heap[b]? = w.heap[b]?) (hR : ∀ b, R b → R' b) : LooseAt w' R' v L := by
  obtain ⟨xs, h1, h2⟩ := h
  exact ⟨xs, ownsRow_same h1 hv, fun i hi => (h2 i hi).same hb hR⟩
theorem LooseAt.nil (w : World) (R : Nat → Prop) : LooseAt w R (.slice none 0 0) [] := ⟨[], World.ownsRow_nil _ _ _ _, fun i hi => absurd hi (by simp)⟩

/-- a sector: its two cells -/
structure SecAt (w : World) (R : Nat → Prop) (u v : Value) (s : SecD) : Prop where
  fast : BsR w R u s.fast
  flen : s.fast.length = 256
  loose : LooseAt w R v s.loose
  llen : ∀ b ∈ s.loose, b.length = 256
  many : s.loose.length ≤ 1000000
theorem SecAt.same {w w' : World} {R R' : Nat → Prop} {u v : Value} {s : SecD} (h : SecAt w R u v s) (hv : ∀ b, v.ownBlock = some b → w'.heap[b]? = w.heap[b]?) (hb : ∀ b, R b → w'.heap[b]? = w.heap[b]?) (hR : ∀ b, R b → R' b) : SecAt w' R' u v s :=
  ⟨h.fast.same hb hR, h.flen, h.loose.same hv hb hR, h.llen, h.many⟩

/-- where a disk lies -/
structure DG where
  G : Nat
  cap : Nat
  U : Nat → Value
  V : Nat → Value
  R : Nat → Prop
def DG.F (g : DG) (H n : Nat) : Nat → Prop := fun b => b = H ∨ b = g.G ∨ (∃ i, i < n ∧ (g.V i).ownBlock = some b) ∨ g.R b

structure Dk (w : World) (H : Nat) (d : DiskD) (g : DG) : Prop where
  head : w.heap[H]? = some (.cells #[.slice (some ⟨g.G, 0, none⟩) d.l.length g.cap, .bool d.off, .int .i64 d.fuse] 93 (0, 0))
  row : ∃ cur, w.heap[g.G]? = some (.cells cur 95 (0, 0)) ∧ cur.size = g.cap * 2 ∧ ∀ i, i < d.l.length → cur[i * 2]? = some (g.U i) ∧ cur[i * 2 + 1]? = some (g.V i)
  capn : d.l.length ≤ g.cap
  capm : g.cap ≤ maxLen
  n1 : 1 ≤ d.l.length
  n2 : d.l.length ≤ 200
  f1 : -1 ≤ d.fuse
  f2 : d.fuse ≤ 9223372036854775807
  sec : ∀ i, i < d.l.length → SecAt w g.R (g.U i) (g.V i) (d.sec i)
  hR : ∀ b, g.R b → b < w.heap.size ∧ b ≠ H ∧ b ≠ g.G ∧ ∀ i, i < d.l.length → (g.V i).ownBlock ≠ some b
  GH : g.G ≠ H
  VH : ∀ i, i < d.l.length → (g.V i).ownBlock ≠ some H ∧ (g.V i).ownBlock ≠ some g.G
  VV : ∀ i j, i < d.l.length → j < d.l.length → i ≠ j → ∀ b, (g.V i).ownBlock = some b → (g.V j).ownBlock ≠ some b

theorem LooseAt.lt {w : World} {R : Nat → Prop} {v : Value} {L : List (List Int)} (h : LooseAt w R v L) {b : Nat} (hb : v.ownBlock = some b) : b < w.heap.size := by
  obtain ⟨xs, h1, _⟩ := h
  exact (h1.lt b hb).2
theorem Dk.low {w : World} {H : Nat} {d : DiskD} {g : DG} (h : Dk w H d g) {b : Nat} (hb : g.F H d.l.length b) : b < w.heap.size := by
  rcases hb with rfl | rfl | ⟨i, hi, hb⟩ | hb
  · exact (Array.getElem?_eq_some_iff.1 h.head).1
  · obtain ⟨cur, hc, _⟩ := h.row
    exact (Array.getElem?_eq_some_iff.1 hc).1
  · exact (h.sec i hi).loose.lt hb
  · exact (h.hR b hb).1
/-- a disk is as it was where its blocks are -/
theorem Dk.same {w w' : World} {H : Nat} {d : DiskD} {g : DG} (h : Dk w H d g) (hs : w.heap.size ≤ w'.heap.size) (hb : ∀ b, g.F H d.l.length b → w'.heap[b]? = w.heap[b]?) : Dk w' H d g where
  head := by rw [hb H (.inl rfl)]; exact h.head
  row := by rw [hb g.G (.inr (.inl rfl))]; exact h.row
  capn := h.capn
  capm := h.capm
  n1 := h.n1
  n2 := h.n2
  f1 := h.f1
  f2 := h.f2
  sec := fun i hi => (h.sec i hi).same (fun b e => hb b (.inr (.inr (.inl ⟨i, hi, e⟩)))) (fun b r => hb b (.inr (.inr (.inr r)))) fun _ r => r
  hR := fun b r => ⟨Nat.lt_of_lt_of_le (h.hR b r).1 hs, (h.hR b r).2⟩
  GH := h.GH
  VH := h.VH
  VV := h.VV
theorem Dk.below {w w' : World} {H : Nat} {d : DiskD} {g : DG} (h : Dk w H d g) (hb : Below w.heap.size w w') : Dk w' H d g := h.same hb.size fun b hf => hb.block b (h.low hf)
/-- a disk, where another's doings leave it alone -/
theorem Dk.apart {F F' : Nat → Prop} {w w' : World} {H : Nat} {d : DiskD} {g : DG} (h : Dk w H d g) (he : Ext F w F' w') (hn : ∀ b, g.F H d.l.length b → ¬ F b) : Dk w' H d g := h.same he.size fun b hf => he.block b (h.low hf) (hn b hf)

/-- the header written: the power, the fuse -/
theorem Dk.setOff {w : World} {H : Nat} {d : DiskD} {g : DG} (h : Dk w H d g) (o : Bool) : Dk (w.setCell ⟨H, 1, none⟩ (.bool o)) H { d with off := o } g := by
  have hne : ∀ b, b ≠ H → (w.setCell ⟨H, 1, none⟩ (.bool o)).heap[b]? = w.heap[b]? := fun b hb => by
    show (w.heap.modify H _)[b]? = _
    rw [Array.getElem?_modify, if_neg (Ne.symm hb)]
  have hsz : (w.setCell ⟨H, 1, none⟩ (.bool o)).heap.size = w.heap.size := by show (w.heap.modify H _).size = _; simp
  exact {
    head := by
      obtain ⟨hlt, hk⟩ := Array.getElem?_eq_some_iff.1 h.head
      show (w.heap.modify H _)[H]? = _
      rw [Array.getElem?_eq_getElem (by rw [Array.size_modify]; exact hlt), Array.getElem_modify_self, hk]
      rfl
    row := by rw [hne g.G h.GH]; exact h.row
    capn := h.capn, capm := h.capm, n1 := h.n1, n2 := h.n2, f1 := h.f1, f2 := h.f2
    sec := fun i hi => (h.sec i hi).same (fun b e => hne b fun e2 => (h.VH i hi).1 (e2 ▸ e)) (fun b r => hne b (h.hR b r).2.1) fun _ r => r
    hR := fun b r => ⟨by rw [hsz]; exact (h.hR b r).1, (h.hR b r).2⟩
    GH := h.GH, VH := h.VH, VV := h.VV }
theorem Dk.setFuse {w : World} {H : Nat} {d : DiskD} {g : DG} (h : Dk w H d g) (f : Int) (h1 : -1 ≤ f) (h2 : f ≤ 9223372036854775807) : Dk (w.setCell ⟨H, 2, none⟩ (.int .i64 f)) H { d with fuse := f } g := by
  have hne : ∀ b, b ≠ H → (w.setCell ⟨H, 2, none⟩ (.int .i64 f)).heap[b]? = w.heap[b]? := fun b hb => by
    show (w.heap.modify H _)[b]? = _
    rw [Array.getElem?_modify, if_neg (Ne.symm hb)]
  have hsz : (w.setCell ⟨H, 2, none⟩ (.int .i64 f)).heap.size = w.heap.size := by show (w.heap.modify H _).size = _; simp
  exact {
    head := by
      obtain ⟨hlt, hk⟩ := Array.getElem?_eq_some_iff.1 h.head
      show (w.heap.modify H _)[H]? = _
      rw [Array.getElem?_eq_getElem (by rw [Array.size_modify]; exact hlt), Array.getElem_modify_self, hk]
      rfl
    row := by rw [hne g.G h.GH]; exact h.row
    capn := h.capn, capm := h.capm, n1 := h.n1, n2 := h.n2, f1 := h1, f2 := h2
    sec := fun i hi => (h.sec i hi).same (fun b e => hne b fun e2 => (h.VH i hi).1 (e2 ▸ e)) (fun b r => hne b (h.hR b r).2.1) fun _ r => r
    hR := fun b r => ⟨by rw [hsz]; exact (h.hR b r).1, (h.hR b r).2⟩
    GH := h.GH, VH := h.VH, VV := h.VV }
theorem ext_setCell {F : Nat → Prop} {w : World} {H : Nat} (hF : F H) (i : Nat) (v : Value) : Ext F w F (w.setCell ⟨H, i, none⟩ v) :=
  ⟨rfl, rfl, rfl, by show _ ≤ (w.heap.modify H _).size; simp, fun k _ hn => by
    show (w.heap.modify H _)[k]? = _
    rw [Array.getElem?_modify, if_neg (fun (e : H = k) => hn (by rw [← e]; exact hF))], fun _ h => .inl h⟩

/-- the header's cells -/
theorem Dk.headCells {w : World} {H : Nat} {d : DiskD} {g : DG} (h : Dk w H d g) :
    w.cell? ⟨H, 0, none⟩ = some (.slice (some ⟨g.G, 0, none⟩) d.l.length g.cap) ∧ w.cell? ⟨H, 1, none⟩ = some (.bool d.off) ∧ w.cell? ⟨H, 2, none⟩ = some (.int .i64 d.fuse) ∧
      w.frozen? ⟨H, 0, none⟩ = false ∧ w.frozen? ⟨H, 1, none⟩ = false ∧ w.frozen? ⟨H, 2, none⟩ = false := by
  refine ⟨?_, ?_, ?_, rowFrozen h.head _, rowFrozen h.head _, rowFrozen h.head _⟩ <;> rw [cell_of_row w H _ _ _ (0, 0) h.head] <;> rfl
/-- a sector's cells -/
theorem Dk.secCells {w : World} {H : Nat} {d : DiskD} {g : DG} (h : Dk w H d g) {i : Nat} (hi : i < d.l.length) :
    w.cell? ⟨g.G, i * 2, none⟩ = some (g.U i) ∧ w.cell? ⟨g.G, i * 2 + 1, none⟩ = some (g.V i) ∧ ∀ j, w.frozen? ⟨g.G, j, none⟩ = false := by
  obtain ⟨cur, hc, _, hcell⟩ := h.row
  obtain ⟨h1, h2⟩ := hcell i hi
  refine ⟨?_, ?_, fun j => rowFrozen hc _⟩ <;> rw [cell_of_row w g.G _ _ _ (0, 0) hc] <;> assumption

def upd {α : Type} (f : Nat → α) (k : Nat) (x : α) : Nat → α := fun i => if i = k then x else f i
theorem upd_at {α : Type} (f : Nat → α) (k : Nat) (x : α) : upd f k x k = x := by simp [upd]
theorem upd_ne {α : Type} (f : Nat → α) {k i : Nat} (x : α) (h : i ≠ k) : upd f k x i = f i := by simp [upd, h]

/-- a sector put anew -/
theorem Dk.put {w w' : World} {H : Nat} {d : DiskD} {g : DG} (h : Dk w H d g) (k : Nat) (hk : k < d.l.length) (u' v' : Value) (s' : SecD) (R' : Nat → Prop)
    (hsz : w.heap.size ≤ w'.heap.size)
    (hrow : ∀ cur, w.heap[g.G]? = some (.cells cur 95 (0, 0)) → w'.heap[g.G]? = some (.cells ((cur.setIfInBounds (k * 2) u').setIfInBounds (k * 2 + 1) v') 95 (0, 0)))
    (hkeep : ∀ b, g.F H d.l.length b → b ≠ g.G → (g.V k).ownBlock ≠ some b → w'.heap[b]? = w.heap[b]?)
    (hR : ∀ b, g.R b → R' b) (hR' : ∀ b, R' b → g.R b ∨ (w.heap.size ≤ b ∧ b < w'.heap.size))
    (hs : SecAt w' R' u' v' s')
    (hv : ∀ b, v'.ownBlock = some b → (g.V k).ownBlock = some b ∨ (w.heap.size ≤ b ∧ ¬ R' b)) :
    Dk w' H { d with l := d.l.set k s' } ⟨g.G, g.cap, upd g.U k u', upd g.V k v', R'⟩ := by
  have hlow : ∀ {b}, g.F H d.l.length b → b < w.heap.size := fun hb => h.low hb
  have hGl := hlow (.inr (.inl rfl) : g.F H d.l.length g.G)
  have hHl := hlow (.inl rfl : g.F H d.l.length H)
  have hVl : ∀ i, i < d.l.length → ∀ b, (g.V i).ownBlock = some b → b < w.heap.size := fun i hi b e => hlow (.inr (.inr (.inl ⟨i, hi, e⟩)))
  have hVv : ∀ i, i < d.l.length → ∀ b, (upd g.V k v' i).ownBlock = some b → ((g.V i).ownBlock = some b) ∨ (w.heap.size ≤ b ∧ ¬ R' b ∧ i = k) := fun i hi b e => by
    by_cases hik : i = k
    · subst hik
      rw [upd_at] at e
      rcases hv b e with h1 | ⟨h1, h2⟩
      · exact .inl h1
      · exact .inr ⟨h1, h2, rfl⟩
    · rw [upd_ne _ _ hik] at e; exact .inl e
  have hkR : ∀ b, g.R b → w'.heap[b]? = w.heap[b]? := fun b r => hkeep b (.inr (.inr (.inr r))) (h.hR b r).2.2.1 ((h.hR b r).2.2.2 k hk)
  constructor
  · show w'.heap[H]? = _
    rw [hkeep H (.inl rfl) (Ne.symm h.GH) (h.VH k hk).1, h.head]
    simp
  · obtain ⟨cur, hc, hcs, hcell⟩ := h.row
    refine ⟨_, hrow cur hc, by simpa using hcs, fun i hi => ?_⟩
    have hi' : i < d.l.length := by simpa using hi
    obtain ⟨h1, h2⟩ := hcell i hi'
    have hb1 : i * 2 + 1 < cur.size := (Array.getElem?_eq_some_iff.1 h2).1
    by_cases hik : i = k
    · subst hik
      show _ = some (upd g.U i u' i) ∧ _ = some (upd g.V i v' i)
      rw [upd_at, upd_at]
      constructor
      · rw [Array.getElem?_setIfInBounds_ne (by omega), Array.getElem?_setIfInBounds_self_of_lt (by omega)]
      · rw [Array.getElem?_setIfInBounds_self_of_lt (by simpa using hb1)]
    · show _ = some (upd g.U k u' i) ∧ _ = some (upd g.V k v' i)
      rw [upd_ne _ _ hik, upd_ne _ _ hik]
      constructor
      · rw [Array.getElem?_setIfInBounds_ne (by omega), Array.getElem?_setIfInBounds_ne (by omega)]; exact h1
      · rw [Array.getElem?_setIfInBounds_ne (by omega), Array.getElem?_setIfInBounds_ne (by omega)]; exact h2
  · simpa using h.capn
  · exact h.capm
  · simpa using h.n1
  · simpa using h.n2
  · exact h.f1
  · exact h.f2
  · intro i hi
    have hi' : i < d.l.length := by simpa using hi
    show SecAt w' R' (upd g.U k u' i) (upd g.V k v' i) _
    by_cases hik : i = k
    · subst hik
      rw [upd_at, upd_at]
      have e : DiskD.sec { d with l := d.l.set i s' } i = s' := by simp [DiskD.sec, List.getD_eq_getElem?_getD, hi']
      rw [e]; exact hs
    · rw [upd_ne _ _ hik, upd_ne _ _ hik]
      have e : DiskD.sec { d with l := d.l.set k s' } i = d.sec i := by simp [DiskD.sec, List.getD_eq_getElem?_getD, List.getElem?_set_ne (Ne.symm hik)]
      rw [e]
      refine (h.sec i hi').same (fun b eb => hkeep b (.inr (.inr (.inl ⟨i, hi', eb⟩))) (fun e2 => (h.VH i hi').2 (e2 ▸ eb)) (h.VV i k hi' hk hik b eb)) hkR hR
  · intro b hb
    refine ⟨?_, ?_, ?_, ?_⟩
    · rcases hR' b hb with r | ⟨_, r⟩
      · exact Nat.lt_of_lt_of_le (h.hR b r).1 hsz
      · exact r
    · rcases hR' b hb with r | ⟨r, _⟩
      · exact (h.hR b r).2.1
      · omega
    · show b ≠ g.G
      rcases hR' b hb with r | ⟨r, _⟩
      · exact (h.hR b r).2.2.1
      · omega
    · intro i hi e
      have hi' : i < d.l.length := by simpa using hi
      rcases hVv i hi' b e with h1 | ⟨_, h2, _⟩
      · rcases hR' b hb with r | ⟨r, _⟩
        · exact (h.hR b r).2.2.2 i hi' h1
        · have := hVl i hi' b h1; omega
      · exact h2 hb
  · exact h.GH
  · intro i hi
    have hi' : i < d.l.length := by simpa using hi
    refine ⟨fun e => ?_, fun e => ?_⟩
    · rcases hVv i hi' H e with h1 | ⟨h1, _⟩
      · exact (h.VH i hi').1 h1
      · omega
    · rcases hVv i hi' g.G e with h1 | ⟨h1, _⟩
      · exact (h.VH i hi').2 h1
      · omega
  · intro i j hi hj hij b e1 e2
    have hi' : i < d.l.length := by simpa using hi
    have hj' : j < d.l.length := by simpa using hj
    rcases hVv i hi' b e1 with h1 | ⟨h1, _, hk1⟩
    · rcases hVv j hj' b e2 with h2 | ⟨h2, _, hk2⟩
      · exact h.VV i j hi' hj' hij b h1 h2
      · have := hVl i hi' b h1; omega
    · rcases hVv j hj' b e2 with h2 | ⟨h2, _, hk2⟩
      · have := hVl j hj' b h2; omega
      · omega
end Go.Proofs.YtoikdhfihkbcbaaDoor
