/- Plain: Flush over a disk that has its power. -/
import Derived.Test.YtoikdhfihkbcbaaDoorWlM
namespace Go.Proofs.YtoikdhfihkbcbaaDoor
open Go.RowKit
set_option linter.unusedVariables false

theorem WL.new {w0 w : World} {H : Nat} {d : DiskD} {g : DG} (hb : Below w0.heap.size w0 w) (hd : Dk w H d g) (hl : ∀ b, g.F H d.l.length b → w0.heap.size ≤ b) (c : LogC) (hc : c.Ok) (hcd : c.d = .pointer (some ⟨H, 0, none⟩)) :
    WL w0 w.heap.size H (w.alloc (.cells (headCs c (.slice none 0 0)) 97)) c (.slice none 0 0) [] d g :=
  ⟨hb.alloc hb.size _, Lg.new _ w c hc, hd.below ((Below.refl _ _).alloc (Nat.le_refl _) _), hcd, hl,
    fun b h => by
      rcases h with rfl | h
      · exact hb.size
      · simp [Value.ownBlock] at h,
    fun b h hf => by
      rcases h with rfl | h
      · exact absurd (hd.low hf) (Nat.lt_irrefl _)
      · simp [Value.ownBlock] at h,
    fun r hr => by simp at hr⟩

/-- a disk with its power, no fuse -/
structure OnD (d : DiskD) : Prop where
  off : d.off = false
  fuse : d.fuse < 0
theorem OnD.spend {d : DiskD} (h : OnD d) : spendB d = true ∧ spendD d = d := by
  have := h.fuse
  constructor
  · simp [spendB]; omega
  · unfold spendD; rw [if_pos h.fuse]
theorem OnD.add {d : DiskD} (h : OnD d) (i : Nat) (b : List Int) : OnD (addL d i b) := ⟨h.off, h.fuse⟩
theorem OnD.new (n : Int) : OnD (newD n) := ⟨rfl, by show (-1 : Int) < 0; omega⟩
theorem OnD.write {d : DiskD} (h : OnD d) (i : Nat) (hi : i < d.l.length) (b : List Int) (hb : b.length = 256) : writeC d (i : Int) b = 0 ∧ writeD d (i : Int) b = addL d i b := by
  have hh : d.has (i : Int) = true := by simp [DiskD.has]; omega
  have hs := (h.add i b).spend
  constructor
  · simp [writeC, h.off, hh, hb, h.spend.1]
  · simp [writeD, h.off, hh, hb, hs.2]
theorem OnD.sync {d : DiskD} (h : OnD d) : syncC d = 0 ∧ syncD d = { d with l := d.l.map syncS } := by
  constructor
  · simp [syncC, h.off, h.spend.1]
  · simp [syncD, h.off, h.spend.1, h.spend.2]
theorem addL_sec (d : DiskD) (i : Nat) (hi : i < d.l.length) (b : List Int) (s : Nat) : (addL d i b).sec s = if s = i then ⟨(d.sec i).fast, (d.sec i).loose ++ [b]⟩ else d.sec s := by
  unfold addL DiskD.sec
  simp only [List.getD_eq_getElem?_getD, List.getElem?_set]
  by_cases e : i = s
  · subst e; simp [hi]
  · rw [if_neg e, if_neg (Ne.symm e)]
theorem addL_top (d : DiskD) (i : Nat) (hi : i < d.l.length) (b : List Int) (s : Nat) : topS ((addL d i b).sec s) = if s = i then b else topS (d.sec s) := by
  rw [addL_sec d i hi b s]
  by_cases e : s = i
  · rw [if_pos e, if_pos e]; simp [topS]
  · rw [if_neg e, if_neg e]
theorem mapS_sec (d : DiskD) (s : Nat) : ({ d with l := d.l.map syncS } : DiskD).sec s = ⟨topS (d.sec s), []⟩ := by
  unfold DiskD.sec
  simp only [List.getD_eq_getElem?_getD, List.getElem?_map]
  cases d.l[s]? with
  | none => rfl
  | some x => rfl

/-- what so many blocks leave, flushed -/
structure FlR (D d : DiskD) (f : Nat) (epoch : Int) (L : List RecD) (m k : Nat) : Prop where
  on : OnD D
  len : D.l.length = d.l.length
  sec : ∀ s, D.sec s = ⟨if f + k ≤ s ∧ s < f + k + m then blkB epoch (chunk L (s - f)) else topS (d.sec s), []⟩
theorem flushGo_on (f : Nat) (epoch : Int) (L : List RecD) : ∀ (m k : Nat) (d : DiskD), OnD d → f + k + m ≤ d.l.length → (flushGo f epoch L m k d).2 = 0 ∧ FlR (flushGo f epoch L m k d).1 d f epoch L m k
  | 0, k, d, h, hl => by
    have hs := h.sync
    rw [flushGo, hs.2]
    refine ⟨hs.1, ⟨h.off, h.fuse⟩, by simp, fun s => ?_⟩
    rw [mapS_sec, if_neg (by omega)]
  | m + 1, k, d, h, hl => by
    have hb : (blkB epoch (chunk L k)).length = 256 := blkB_len _ _ (by rw [chunk_len]; omega)
    have hw := h.write (f + k) (by omega) _ hb
    have e : ((f : Int) + (k : Int)) = ((f + k : Nat) : Int) := by omega
    rw [flushGo, e, if_pos hw.1, hw.2]
    obtain ⟨h1, h2⟩ := flushGo_on f epoch L m (k + 1) (addL d (f + k) (blkB epoch (chunk L k))) (h.add _ _) (by rw [addL_len]; omega)
    refine ⟨h1, h2.on, by rw [h2.len, addL_len], fun s => ?_⟩
    rw [h2.sec s, addL_top d (f + k) (by omega)]
    by_cases e1 : s = f + k
    · subst e1
      rw [if_neg (by omega), if_pos rfl, if_pos (by omega), show f + k - f = k from by omega]
    · rw [if_neg e1]
      by_cases e2 : f + (k + 1) ≤ s ∧ s < f + (k + 1) + m
      · rw [if_pos e2, if_pos (by omega)]
      · rw [if_neg e2, if_neg (by omega)]
/-- Flush over a disk that has its power -/
theorem flushD_on (c : LogC) (f : Nat) (hf : c.first = f) (L : List RecD) (d : DiskD) (h : OnD d) (h0 : 0 ≤ c.done) (h1 : c.done ≤ L.length) (hl : f + blocksN L.length ≤ d.l.length) : (flushD c L d).2 = 0 ∧ doneC c L d = { c with done := L.length } ∧ OnD (flushD c L d).1 ∧ (flushD c L d).1.l.length = d.l.length := by
  have hk : (flushD c L d).2 = 0 ∧ OnD (flushD c L d).1 ∧ (flushD c L d).1.l.length = d.l.length := by
    unfold flushD
    split
    · exact ⟨rfl, h, rfl⟩
    · rename_i hne
      rw [hf]
      have hb : c.done.toNat / 6 ≤ blocksN L.length := by unfold blocksN; omega
      obtain ⟨a, b⟩ := flushGo_on f c.epoch L (blocksN L.length - c.done.toNat / 6) (c.done.toNat / 6) d h (by omega)
      exact ⟨a, b.on, b.len⟩
  exact ⟨hk.1, by unfold doneC; rw [if_pos hk.1], hk.2⟩
end Go.Proofs.YtoikdhfihkbcbaaDoor
