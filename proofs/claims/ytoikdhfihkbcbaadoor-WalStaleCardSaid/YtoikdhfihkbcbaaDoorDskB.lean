/- What a store, an append do to a disk's memory. -/
import Derived.Test.YtoikdhfihkbcbaaDoorDskA
import Derived.Deep.AppendLies
import Derived.OwnWalk
namespace Go.Proofs.YtoikdhfihkbcbaaDoor
open Go.RowKit
set_option linter.unusedVariables false

theorem set_same {cur : Array Value} {i : Nat} {v : Value} (h : cur[i]? = some v) : cur.setIfInBounds i v = cur := by
  apply Array.ext_getElem?
  intro j
  rw [Array.getElem?_setIfInBounds]
  split
  · rename_i e
    subst e
    rw [h, if_pos (Array.getElem?_eq_some_iff.1 h).1]
  · rfl
theorem setCell_rowD {w : World} {A : Nat} {T : TypeId} {cs : Array Value} {r : Nat × Nat} (h : w.heap[A]? = some (.cells cs T r)) (i : Nat) (v : Value) : (w.setCell ⟨A, i, none⟩ v).heap[A]? = some (.cells (cs.setIfInBounds i v) T r) := by
  obtain ⟨hlt, hk⟩ := Array.getElem?_eq_some_iff.1 h
  show (w.heap.modify A _)[A]? = _
  rw [Array.getElem?_eq_getElem (by rw [Array.size_modify]; exact hlt), Array.getElem_modify_self, hk]
  rfl
theorem setCell_sizeD (w : World) (a : Addr) (v : Value) : (w.setCell a v).heap.size = w.heap.size := by
  show (w.heap.modify a.block _).size = _
  rw [Array.size_modify]
theorem setCell_otherD (w : World) {A g : Nat} (i : Nat) (v : Value) (h : g ≠ A) : (w.setCell ⟨A, i, none⟩ v).heap[g]? = w.heap[g]? := by
  show (w.heap.modify A _)[g]? = _
  rw [Array.getElem?_modify, if_neg (Ne.symm h)]

/-- a sector's fast version put anew -/
theorem Dk.setU {w : World} {H : Nat} {d : DiskD} {g : DG} (h : Dk w H d g) (k : Nat) (hk : k < d.l.length) (u' : Value) (f' : List Int) (hu : BsR w g.R u' f') (hl : f'.length = 256) :
    Dk (w.setCell ⟨g.G, k * 2, none⟩ u') H { d with l := d.l.set k ⟨f', (d.sec k).loose⟩ } ⟨g.G, g.cap, upd g.U k u', upd g.V k (g.V k), g.R⟩ := by
  have hs := h.sec k hk
  have hne : ∀ b, b ≠ g.G → (w.setCell ⟨g.G, k * 2, none⟩ u').heap[b]? = w.heap[b]? := fun b hb => setCell_otherD w _ _ hb
  refine h.put k hk u' (g.V k) ⟨f', (d.sec k).loose⟩ g.R (by rw [setCell_sizeD]; exact Nat.le_refl _) (fun cur hc => ?_) (fun b _ hb _ => hne b hb) (fun _ r => r) (fun _ r => .inl r) ?_ (fun b e => .inl e)
  · obtain ⟨cur', hc', _, hcell⟩ := h.row
    obtain rfl : cur' = cur := by rw [hc] at hc'; simpa using hc'.symm
    rw [setCell_rowD hc, set_same (i := k * 2 + 1)]
    rw [Array.getElem?_setIfInBounds_ne (by omega)]
    exact (hcell k hk).2
  · have hvn : ∀ b, (g.V k).ownBlock = some b → (w.setCell ⟨g.G, k * 2, none⟩ u').heap[b]? = w.heap[b]? := fun b e => hne b fun e2 => (h.VH k hk).2 (by rw [← e2]; exact e)
    have hRn : ∀ b, g.R b → (w.setCell ⟨g.G, k * 2, none⟩ u').heap[b]? = w.heap[b]? := fun b r => hne b (h.hR b r).2.2.1
    exact ⟨hu.same hRn fun _ r => r, hl, hs.loose.same hvn hRn fun _ r => r, hs.llen, hs.many⟩
/-- a sector's loose versions gone -/
theorem Dk.setV0 {w : World} {H : Nat} {d : DiskD} {g : DG} (h : Dk w H d g) (k : Nat) (hk : k < d.l.length) :
    Dk (w.setCell ⟨g.G, k * 2 + 1, none⟩ (.slice none 0 0)) H { d with l := d.l.set k ⟨(d.sec k).fast, []⟩ } ⟨g.G, g.cap, upd g.U k (g.U k), upd g.V k (.slice none 0 0), g.R⟩ := by
  have hs := h.sec k hk
  have hne : ∀ b, b ≠ g.G → (w.setCell ⟨g.G, k * 2 + 1, none⟩ (.slice none 0 0)).heap[b]? = w.heap[b]? := fun b hb => setCell_otherD w _ _ hb
  refine h.put k hk (g.U k) (.slice none 0 0) ⟨(d.sec k).fast, []⟩ g.R (by rw [setCell_sizeD]; exact Nat.le_refl _) (fun cur hc => ?_) (fun b _ hb _ => hne b hb) (fun _ r => r) (fun _ r => .inl r) ?_ (fun b e => by simp [Value.ownBlock] at e)
  · obtain ⟨cur', hc', _, hcell⟩ := h.row
    obtain rfl : cur' = cur := by rw [hc] at hc'; simpa using hc'.symm
    rw [setCell_rowD hc, set_same (hcell k hk).1]
  · have hRn : ∀ b, g.R b → (w.setCell ⟨g.G, k * 2 + 1, none⟩ (.slice none 0 0)).heap[b]? = w.heap[b]? := fun b r => hne b (h.hR b r).2.2.1
    exact ⟨hs.fast.same hRn fun _ r => r, hs.flen, LooseAt.nil _ _, fun b hb => by simp at hb, by simp⟩
/-- one block of bytes more -/
theorem Dk.moreR {w : World} {H : Nat} {d : DiskD} {g : DG} (h : Dk w H d g) (r : Nat) (hr : r < w.heap.size) (hn : ¬ g.F H d.l.length r) : Dk w H d { g with R := fun b => g.R b ∨ b = r } where
  head := h.head
  row := h.row
  capn := h.capn
  capm := h.capm
  n1 := h.n1
  n2 := h.n2
  f1 := h.f1
  f2 := h.f2
  sec := fun i hi => (h.sec i hi).same (fun _ _ => rfl) (fun _ _ => rfl) fun _ r => .inl r
  hR := fun b hb => by
    rcases hb with hb | rfl
    · exact h.hR b hb
    · exact ⟨hr, fun e => hn (.inl e), fun e => hn (.inr (.inl e)), fun i hi e => hn (.inr (.inr (.inl ⟨i, hi, e⟩)))⟩
  GH := h.GH
  VH := h.VH
  VV := h.VV

theorem secInfo : (Tryd.prog.info? 33).map (fun i => (i.zero, i.size, i.bytes)) = some (some (.slice none 0 0), 1, 24) := by kernel_rfl

/-- a sector written: one loose version more -/
theorem Dk.write {w W : World} {H : Nat} {d : DiskD} {g : DG} (h : Dk w H d g) (k : Nat) (hk : k < d.l.length) (hb : Below w.heap.size w W) (x : Value) (b : List Int) (hx : Ob 5 w.heap.size W x b) (hl : b.length = 256) (hm : (d.sec k).loose.length < 1000000) :
    ∃ gb cap w2 g', (Builtin.append_ #[48, 48] 48 #[g.V k, .slice (some ⟨W.heap.size, 0, none⟩) 1 1]).run Tryd.prog (W.alloc (.cells #[x] 33)) = .ok (.slice (some ⟨gb, 0, none⟩) ((d.sec k).loose.length + 1) cap) w2 ∧
      (w2.cell? ⟨g.G, k * 2 + 1, none⟩ = some (g.V k) ∧ w2.frozen? ⟨g.G, k * 2 + 1, none⟩ = false) ∧
      Dk (w2.setCell ⟨g.G, k * 2 + 1, none⟩ (.slice (some ⟨gb, 0, none⟩) ((d.sec k).loose.length + 1) cap)) H (addL d k b) g' ∧
      Ext (g.F H d.l.length) w (g'.F H d.l.length) (w2.setCell ⟨g.G, k * 2 + 1, none⟩ (.slice (some ⟨gb, 0, none⟩) ((d.sec k).loose.length + 1) cap)) ∧
      w.heap.size ≤ w2.heap.size := by
  obtain ⟨i0, hi0, hz0, hz1, hz2⟩ := info_parts secInfo
  obtain ⟨r, cx, hxv, hr1, hr2, hcx, _⟩ := hx.row (ne_nil_of_lt (k := 0) (by omega))
  rw [hl] at hxv
  have hb1 : Below w.heap.size w (W.alloc (.cells #[x] 33)) := hb.alloc hb.size _
  have hsz1 : (W.alloc (.cells #[x] 33)).heap.size = W.heap.size + 1 := by simp
  have hW := hb.size
  have h1 := h.below hb1
  have hnF : ¬ g.F H d.l.length r := fun hf => by have := h.low hf; omega
  have h2 := h1.moreR r (by omega) hnF
  have hx1 : Ob 5 w.heap.size (W.alloc (.cells #[x] 33)) x b := hx.below ((Below.refl _ _).alloc (Nat.le_refl _) _)
  obtain ⟨xs, hown, hel⟩ := (h2.sec k hk).loose
  obtain ⟨gb, cap, w2, hrun, hown2, hgrow, hat, hlt⟩ := run_append_lies (P := Tryd.prog) (W.alloc (.cells #[x] 33)) 48 48 0 33 i0 _ 1 24 Tryd.underlying48 hi0 hz0 hz1 hz2 rfl (by omega)
    (g.V k) (d.sec k).loose.length xs hown ⟨W.heap.size, 0, none⟩ 1 1 [x] rfl (World.news_of_block (cs := #[x]) (t := 33) (fr := (0, 0)) (heap_alloc_new W _)) (by rw [hxv]; simp [Value.oneCell']) (by omega) (by simp [maxLen]; omega) (by omega) (Nat.zero_le _) _ rfl
  have hgsz := hgrow.size
  have hkeep : ∀ c, c < W.heap.size + 1 → (g.V k).ownBlock ≠ some c → w2.heap[c]? = (W.alloc (.cells #[x] 33)).heap[c]? := fun c hc hne => hgrow.block c (by omega) (fun e => hne e.symm)
  have hcells := h2.secCells hk
  have hGlow := h1.low (b := g.G) (.inr (.inl rfl))
  have hGsame := hkeep g.G (by omega) (h.VH k hk).2
  have hne : ∀ c, c ≠ g.G → (w2.setCell ⟨g.G, k * 2 + 1, none⟩ (.slice (some ⟨gb, 0, none⟩) ((d.sec k).loose.length + 1) cap)).heap[c]? = w2.heap[c]? := fun c hc => setCell_otherD w2 _ _ hc
  have hgbF : (g.V k).ownBlock = some gb ∨ (W.alloc (.cells #[x] 33)).heap.size ≤ gb := hat.imp id fun e => Nat.le_of_eq e.symm
  have hgR : ∀ c, (g.R c ∨ c = r) → c ≠ gb ∧ c ≠ g.G ∧ w2.heap[c]? = (W.alloc (.cells #[x] 33)).heap[c]? := fun c hc => by
    have hh := h2.hR c hc
    refine ⟨fun e => ?_, hh.2.2.1, hkeep c (by omega) (hh.2.2.2 k hk)⟩
    rcases hgbF with e1 | e1
    · exact hh.2.2.2 k hk (by rw [e]; exact e1)
    · omega
  have hput := h2.put (w' := w2.setCell ⟨g.G, k * 2 + 1, none⟩ (.slice (some ⟨gb, 0, none⟩) ((d.sec k).loose.length + 1) cap)) k hk (g.U k) (.slice (some ⟨gb, 0, none⟩) ((d.sec k).loose.length + 1) cap) ⟨(d.sec k).fast, (d.sec k).loose ++ [b]⟩ (fun c => g.R c ∨ c = r)
    (by rw [setCell_sizeD]; exact hgsz)
    (fun cur hc => by
      obtain ⟨cur', hc', _, hcell⟩ := h2.row
      obtain rfl : cur' = cur := by
        have : w2.heap[g.G]? = (W.alloc (.cells #[x] 33)).heap[g.G]? := hGsame
        rw [hc] at hc'; simpa using hc'.symm
      rw [setCell_rowD (hGsame.trans hc), set_same (hcell k hk).1])
    (fun c hf hc hv => (hne c hc).trans (hkeep c (by have := h2.low hf; omega) hv))
    (fun _ hc => hc) (fun _ hc => .inl hc)
    (by
      have hs := h2.sec k hk
      have hRn : ∀ c, (g.R c ∨ c = r) → (w2.setCell ⟨g.G, k * 2 + 1, none⟩ (.slice (some ⟨gb, 0, none⟩) ((d.sec k).loose.length + 1) cap)).heap[c]? = (W.alloc (.cells #[x] 33)).heap[c]? := fun c hc => (hne c (hgR c hc).2.1).trans (hgR c hc).2.2
      refine ⟨hs.fast.same hRn fun _ q => q, hs.flen, ⟨xs ++ [x], ?_, fun i hi => ?_⟩, fun c hc => ?_, by simp; omega⟩
      · have e : ((d.sec k).loose ++ [b]).length = (d.sec k).loose.length + 1 := by simp
        show World.ownsRow _ 0 33 1 _ ((d.sec k).loose ++ [b]).length _
        rw [e]
        refine ownsRow_same hown2 fun c e => ?_
        have : gb = c := by simpa [Value.ownBlock] using e
        subst this
        refine hne gb fun e2 => ?_
        rcases hgbF with e1 | e1
        · exact (h.VH k hk).2 (by rw [← e2]; exact e1)
        · omega
      · have hi' : i < (d.sec k).loose.length + 1 := by simpa using hi
        have hxl : xs.length = (d.sec k).loose.length := by have := hown.1; omega
        by_cases hi2 : i < (d.sec k).loose.length
        · rw [List.getD_eq_getElem?_getD, List.getElem?_append_left (by omega), ← List.getD_eq_getElem?_getD]
          show BsR _ _ _ (((d.sec k).loose ++ [b]).getD i [])
          rw [List.getD_eq_getElem?_getD (l := (d.sec k).loose ++ [b]), List.getElem?_append_left hi2, ← List.getD_eq_getElem?_getD]
          exact (hel i hi2).same hRn fun _ q => q
        · obtain rfl : i = (d.sec k).loose.length := by omega
          have e1 : (xs ++ [x]).getD (d.sec k).loose.length undef = x := by rw [← hxl]; simp
          have e2 : ((d.sec k).loose ++ [b]).getD (d.sec k).loose.length [] = b := by simp
          show BsR _ _ _ (((d.sec k).loose ++ [b]).getD _ [])
          rw [e1, e2]
          have hbr : BsR (W.alloc (.cells #[x] 33)) (fun c => g.R c ∨ c = r) x b := ⟨hx1.bs, fun c e => .inr (by rw [hxv] at e; simpa [Value.ownBlock] using e.symm)⟩
          exact hbr.same hRn fun _ q => q
      · rcases List.mem_append.1 hc with h3 | h3
        · exact hs.llen c h3
        · simp at h3; rw [h3]; exact hl)
    (fun c e => by
      have e' : gb = c := by simpa [Value.ownBlock] using e
      subst e'
      rcases hgbF with e1 | e1
      · exact .inl e1
      · exact .inr ⟨e1, fun hc => (hgR gb hc).1 rfl⟩)
  refine ⟨gb, cap, w2, _, hrun, ⟨?_, ?_⟩, hput, ?_, by omega⟩
  · rw [World.cell?_of_block (a := ⟨g.G, k * 2 + 1, none⟩) hGsame]; exact hcells.2.1
  · rw [World.frozen?_of_block (a := ⟨g.G, k * 2 + 1, none⟩) hGsame]; exact hcells.2.2 _
  · refine ⟨?_, ?_, ?_, by rw [setCell_sizeD]; omega, fun c hc hn => ?_, fun c hf => ?_⟩
    · exact (hgrow.os).trans hb1.os
    · exact (hgrow.tape).trans hb1.tape
    · exact (hgrow.output).trans hb1.output
    · rw [hne c fun e => hn (.inr (.inl e)), hkeep c (by omega) fun e => hn (.inr (.inr (.inl ⟨k, hk, e⟩)))]
      exact hb1.block c hc
    · rcases hf with e | e | ⟨i, hi, e⟩ | e | e
      · exact .inl (.inl e)
      · exact .inl (.inr (.inl e))
      · by_cases hik : i = k
        · subst hik
          have e0 : (upd g.V i (.slice (some ⟨gb, 0, none⟩) ((d.sec i).loose.length + 1) cap) i).ownBlock = some c := e
          rw [upd_at] at e0
          have e' : gb = c := by simpa [Value.ownBlock] using e0
          subst e'
          rcases hgbF with e1 | e1
          · exact .inl (.inr (.inr (.inl ⟨i, hi, e1⟩)))
          · exact .inr (by omega)
        · have e2 : (g.V i).ownBlock = some c := by
            have : upd g.V k (.slice (some ⟨gb, 0, none⟩) ((d.sec k).loose.length + 1) cap) i = g.V i := upd_ne _ _ hik
            rw [← this]; exact e
          exact .inl (.inr (.inr (.inl ⟨i, hi, e2⟩)))
      · exact .inl (.inr (.inr (.inr e)))
      · exact .inr (by omega)
end Go.Proofs.YtoikdhfihkbcbaaDoor
