/- A log over its disk, in memory; a part of a slice of records; plain: Flush. -/
import Derived.Test.YtoikdhfihkbcbaaDoorWalC
import Derived.Test.YtoikdhfihkbcbaaDoorDskS
import Derived.Test.YtoikdhfihkbcbaaDoorBlB
namespace Go.Proofs.YtoikdhfihkbcbaaDoor
open Go.RowKit
set_option linter.unusedVariables false

/-- the k-th block's records -/
def chunk (L : List RecD) (k : Nat) : List RecD := (L.take (6 * k + 6)).drop (6 * k)
/-- how many blocks so many records take -/
def blocksN (n : Nat) : Nat := (n + 5) / 6
/-- n blocks are written, the k-th first; then Sync: the disk, the error's number -/
def flushGo (first epoch : Int) (L : List RecD) : Nat → Nat → DiskD → DiskD × Int
  | 0, _, d => (syncD d, syncC d)
  | n + 1, k, d =>
    if writeC d (first + k) (blkB epoch (chunk L k)) = 0 then flushGo first epoch L n (k + 1) (writeD d (first + k) (blkB epoch (chunk L k)))
    else (writeD d (first + k) (blkB epoch (chunk L k)), writeC d (first + k) (blkB epoch (chunk L k)))
def flushD (c : LogC) (L : List RecD) (d : DiskD) : DiskD × Int :=
  if c.done = L.length then (d, 0) else flushGo c.first c.epoch L (blocksN L.length - c.done.toNat / 6) (c.done.toNat / 6) d
def doneC (c : LogC) (L : List RecD) (d : DiskD) : LogC := if (flushD c L d).2 = 0 then { c with done := L.length } else c

theorem chunk_len (L : List RecD) (k : Nat) : (chunk L k).length = min (6 * k + 6) L.length - 6 * k := by simp [chunk]
theorem chunk_mem {L : List RecD} {k : Nat} {r : RecD} (h : r ∈ chunk L k) : r ∈ L := List.mem_of_mem_take (List.mem_of_mem_drop h)
theorem chunk_eq (L : List RecD) (k hi : Nat) (h : hi = min (6 * k + 6) L.length) : chunk L k = (L.take hi).drop (6 * k) := by
  subst h
  unfold chunk
  rw [← List.take_length (l := L)]
  rw [List.take_take, List.take_take]
  simp
theorem writeD_loose (d : DiskD) (i : Int) (b : List Int) (s : Nat) : ((writeD d i b).sec s).loose.length ≤ (d.sec s).loose.length + 1 := by
  have hsp : ∀ d : DiskD, ((spendD d).sec s).loose = (d.sec s).loose := fun d => by unfold DiskD.sec; rw [spendD_l]
  unfold writeD
  split; · omega
  split
  · split
    · rw [hsp]
      unfold addL DiskD.sec
      simp only [List.getD_eq_getElem?_getD, List.getElem?_set]
      by_cases e : i.toNat = s
      · subst e
        by_cases hk : i.toNat < d.l.length
        · simp [hk]
        · simp [hk]
      · simp [e]
    · omega
  · omega

/-- a part of a slice of records -/
theorem recsUnder : Tryd.prog.underlying 28 = some (.slice (Tryd.prog.elem 28)) := by kernel_rfl
theorem Gs.part {w : World} {o : Option Addr} {n cap : Nat} {L : List RecD} (h : Gs w (.slice o n cap) L) (i j : Nat) (hij : i < j) (hj : j ≤ n) :
    ∃ o' c', Gs w (.slice o' (j - i) c') ((L.take j).drop i) ∧ c' ≤ cap ∧
      ∀ W, (Instr.sliceAt 28 (.slice o n cap) (some (.int .i64 (i : Int))) (some (.int .i64 (j : Int))) none).run Tryd.prog W = .ok (.slice o' (j - i) c') W := by
  obtain ⟨hW, o1, c1, he, h1, h2, h3, h4⟩ := h
  simp only [Value.slice.injEq] at he
  obtain ⟨rfl, hn, rfl⟩ := he
  have hne : L ≠ [] := fun e => by subst e; simp at hn; omega
  obtain ⟨g, off, rfl, hc⟩ := h4 hne
  have hlen : ((L.take j).drop i).length = j - i := by rw [List.length_drop, List.length_take]; omega
  have hsz : ∀ W, (sizeOf (Tryd.prog.elem 28)).run Tryd.prog W = .ok 10 W := fun W => by kernel_rfl
  refine ⟨some ⟨g, off + i * 10, none⟩, cap - i, ⟨fun r hr => hW r (List.mem_of_mem_take (List.mem_of_mem_drop hr)), _, _, by rw [hlen], by omega, by omega, by simp, fun _ => ⟨g, off + i * 10, rfl, fun k r hr m hm => ?_⟩⟩, by omega, fun W => ?_⟩
  · rw [List.getElem?_drop, List.getElem?_take] at hr
    split at hr
    · have := hc (i + k) r hr m hm
      rw [← this]
      congr 2
      omega
    · simp at hr
  · rw [run_sliceAt_slice W 28 _ _ _ _ recsUnder, run_slice_lh W 28 _ _ _ recsUnder .i64 .i64 (i : Int) (j : Int) (by omega) (by omega) (by omega), hsz]
    have hci : cap ≠ i := by omega
    simp only [Result.andThen, sliced, Int.toNat_natCast, if_neg hci]
    simp [Addr.add]

/-- a log over its disk -/
structure WL (w0 : World) (X H : Nat) (w : World) (c : LogC) (v : Value) (L : List RecD) (d : DiskD) (g : DG) : Prop where
  bel : Below w0.heap.size w0 w
  lg : Lg 97 w X c v L
  dk : Dk w H d g
  cd : c.d = .pointer (some ⟨H, 0, none⟩)
  lowD : ∀ b, g.F H d.l.length b → w0.heap.size ≤ b
  lowL : ∀ b, LogC.F X v b → w0.heap.size ≤ b
  apart : ∀ b, LogC.F X v b → ¬ g.F H d.l.length b
  ok : ∀ r ∈ L, okR r = true
theorem WL.below {w0 w w' : World} {X H : Nat} {c : LogC} {v : Value} {L : List RecD} {d : DiskD} {g : DG} (h : WL w0 X H w c v L d g) (hb : Below w.heap.size w w') : WL w0 X H w' c v L d g :=
  ⟨h.bel.trans (hb.mono h.bel.size), h.lg.below hb, h.dk.below hb, h.cd, h.lowD, h.lowL, h.apart, h.ok⟩
theorem WL.disk {w0 w w' : World} {X H : Nat} {c : LogC} {v : Value} {L : List RecD} {d d' : DiskD} {g g' : DG} (h : WL w0 X H w c v L d g) (hd : Dk w' H d' g') (hx : Ext (g.F H d.l.length) w (g'.F H d'.l.length) w') : WL w0 X H w' c v L d' g' :=
  ⟨h.bel.trans (hx.below h.lowD h.bel.size), h.lg.apart hx h.apart, hd, h.cd, hx.low h.lowD h.bel.size, h.lowL, fun b hb hf => (hx.grow b hf).elim (h.apart b hb) fun hle => absurd (h.lg.low hb) (Nat.not_lt.2 hle), h.ok⟩
theorem WL.log {w0 w w' : World} {X H : Nat} {c : LogC} {v v' : Value} {L L' : List RecD} {d : DiskD} {g : DG} (h : WL w0 X H w c v L d g) (hl : Lg 97 w' X c v' L') (hx : Ext (LogC.F X v) w (LogC.F X v') w') (hok : ∀ r ∈ L', okR r = true) : WL w0 X H w' c v' L' d g :=
  ⟨h.bel.trans (hx.below h.lowL h.bel.size), hl, h.dk.apart hx fun b hf hb => h.apart b hb hf, h.cd, h.lowD, hx.low h.lowL h.bel.size, fun b hb hf => (hx.grow b hb).elim (fun hb' => h.apart b hb' hf) fun hle => absurd (h.dk.low hf) (Nat.not_lt.2 hle), hok⟩
/-- done is stored -/
theorem WL.done {w0 w : World} {X H : Nat} {c : LogC} {v : Value} {L : List RecD} {d : DiskD} {g : DG} (h : WL w0 X H w c v L d g) (n : Int) : WL w0 X H (w.setCell ⟨X, 6, none⟩ (.int .i64 n)) { c with done := n } v L d g := by
  have hne : ∀ b, b ≠ X → (w.setCell ⟨X, 6, none⟩ (.int .i64 n)).heap[b]? = w.heap[b]? := fun b hb => setCell_otherR w _ _ hb
  refine ⟨h.bel.setCell (p := ⟨X, 6, none⟩) (h.lowL X (.inl rfl)) _, ⟨?_, h.lg.own.same fun b e => hne b fun e2 => h.lg.vX (e2 ▸ e), h.lg.vX, ⟨h.lg.ok.b0, h.lg.ok.b1, h.lg.ok.k0, h.lg.ok.k1, h.lg.ok.f0, h.lg.ok.f1⟩, h.lg.len⟩, h.dk.same (by rw [setCell_sizeR]; exact Nat.le_refl _) fun b hf => hne b fun e => h.apart b (.inl e) hf, h.cd, h.lowD, h.lowL, h.apart, h.ok⟩
  rw [setCell_rowR h.lg.head]; rfl
theorem WL.noLow {w0 w : World} {X H : Nat} {c : LogC} {v : Value} {L : List RecD} {d : DiskD} {g : DG} (h : WL w0 X H w c v L d g) {b : Nat} (hb : b < w0.heap.size) : ¬ g.F H d.l.length b := fun hf => absurd (h.lowD b hf) (Nat.not_le.2 hb)
theorem Ext.or {F F' : Nat → Prop} {w w' : World} (h : Ext F w F' w') (K : Nat → Prop) : Ext (fun b => K b ∨ F b) w (fun b => K b ∨ F' b) w' :=
  ⟨h.os, h.tape, h.output, h.size, fun b hb hn => h.block b hb fun hf => hn (.inr hf), fun b hb => hb.elim (fun k => .inl (.inl k)) fun hf => (h.grow b hf).imp .inr id⟩
/-- a log over its disk; all else is as it was -/
structure WX (w0 ws : World) (Us : Nat → Prop) (X H : Nat) (w : World) (c : LogC) (v : Value) (L : List RecD) (d : DiskD) (g : DG) : Prop extends WL w0 X H w c v L d g where
  ext : Ext Us ws (fun b => LogC.F X v b ∨ g.F H d.l.length b) w
theorem WX.start {w0 w : World} {X H : Nat} {c : LogC} {v : Value} {L : List RecD} {d : DiskD} {g : DG} (h : WL w0 X H w c v L d g) : WX w0 w (fun b => LogC.F X v b ∨ g.F H d.l.length b) X H w c v L d g := ⟨h, Ext.refl _ _⟩
theorem WX.below {w0 ws w w' : World} {Us : Nat → Prop} {X H : Nat} {c : LogC} {v : Value} {L : List RecD} {d : DiskD} {g : DG} (h : WX w0 ws Us X H w c v L d g) (hb : Below w.heap.size w w') : WX w0 ws Us X H w' c v L d g := ⟨h.toWL.below hb, h.ext.trans (Ext.of_below hb)⟩
theorem WX.disk {w0 ws w w' : World} {Us : Nat → Prop} {X H : Nat} {c : LogC} {v : Value} {L : List RecD} {d d' : DiskD} {g g' : DG} (h : WX w0 ws Us X H w c v L d g) (hd : Dk w' H d' g') (hx : Ext (g.F H d.l.length) w (g'.F H d'.l.length) w') : WX w0 ws Us X H w' c v L d' g' := ⟨h.toWL.disk hd hx, h.ext.trans (hx.or _)⟩
theorem WX.done {w0 ws w : World} {Us : Nat → Prop} {X H : Nat} {c : LogC} {v : Value} {L : List RecD} {d : DiskD} {g : DG} (h : WX w0 ws Us X H w c v L d g) (n : Int) : WX w0 ws Us X H (w.setCell ⟨X, 6, none⟩ (.int .i64 n)) { c with done := n } v L d g :=
  ⟨h.toWL.done n, h.ext.trans (ext_setCell (F := fun b => LogC.F X v b ∨ g.F H d.l.length b) (.inl (.inl rfl)) _ _)⟩

theorem WL.new {w0 w : World} {H : Nat} {d : DiskD} {g : DG} (hb : Below w0.heap.size w0 w) (hd : Dk w H d g) (hl : ∀ b, g.F H d.l.length b → w0.heap.size ≤ b) (c : LogC) (hc : c.Ok) (hcd : c.d = .pointer (some ⟨H, 0, none⟩)) :
    WL w0 w.heap.size H (w.alloc (.cells (headCs c (.slice none 0 0)) 97)) c (.slice none 0 0) [] d g :=
  ⟨hb.alloc hb.size _, Lg.new _ w c hc, hd.below ((Below.refl _ _).alloc (Nat.le_refl _) _), hcd, hl,
    fun b h => by
      rcases h with rfl | h
      · exact hb.size
      · simp [Value.ownBlock] at h,
    fun b h hf => by
      rcases h with rfl | h
      · exact absurd (hd.low hf) (Nat.lt_irrefl _)
      · simp [Value.ownBlock] at h,
    fun r hr => by simp at hr⟩

/-- a disk with its power, no fuse -/
structure OnD (d : DiskD) : Prop where
  off : d.off = false
  fuse : d.fuse < 0
theorem OnD.spend {d : DiskD} (h : OnD d) : spendB d = true ∧ spendD d = d := by
  have := h.fuse
  constructor
  · simp [spendB]; omega
  · unfold spendD; rw [if_pos h.fuse]
theorem OnD.add {d : DiskD} (h : OnD d) (i : Nat) (b : List Int) : OnD (addL d i b) := ⟨h.off, h.fuse⟩
theorem OnD.new (n : Int) : OnD (newD n) := ⟨rfl, by show (-1 : Int) < 0; omega⟩
theorem OnD.write {d : DiskD} (h : OnD d) (i : Nat) (hi : i < d.l.length) (b : List Int) (hb : b.length = 256) : writeC d (i : Int) b = 0 ∧ writeD d (i : Int) b = addL d i b := by
  have hh : d.has (i : Int) = true := by simp [DiskD.has]; omega
  have hs := (h.add i b).spend
  constructor
  · simp [writeC, h.off, hh, hb, h.spend.1]
  · simp [writeD, h.off, hh, hb, hs.2]
theorem OnD.sync {d : DiskD} (h : OnD d) : syncC d = 0 ∧ syncD d = { d with l := d.l.map syncS } := by
  constructor
  · simp [syncC, h.off, h.spend.1]
  · simp [syncD, h.off, h.spend.1, h.spend.2]
theorem addL_sec (d : DiskD) (i : Nat) (hi : i < d.l.length) (b : List Int) (s : Nat) : (addL d i b).sec s = if s = i then ⟨(d.sec i).fast, (d.sec i).loose ++ [b]⟩ else d.sec s := by
  unfold addL DiskD.sec
  simp only [List.getD_eq_getElem?_getD, List.getElem?_set]
  by_cases e : i = s
  · subst e; simp [hi]
  · rw [if_neg e, if_neg (Ne.symm e)]
theorem addL_top (d : DiskD) (i : Nat) (hi : i < d.l.length) (b : List Int) (s : Nat) : topS ((addL d i b).sec s) = if s = i then b else topS (d.sec s) := by
  rw [addL_sec d i hi b s]
  by_cases e : s = i
  · rw [if_pos e, if_pos e]; simp [topS]
  · rw [if_neg e, if_neg e]
theorem mapS_sec (d : DiskD) (s : Nat) : ({ d with l := d.l.map syncS } : DiskD).sec s = ⟨topS (d.sec s), []⟩ := by
  unfold DiskD.sec
  simp only [List.getD_eq_getElem?_getD, List.getElem?_map]
  cases d.l[s]? with
  | none => rfl
  | some x => rfl

/-- what so many blocks leave, flushed -/
structure FlR (D d : DiskD) (f : Nat) (epoch : Int) (L : List RecD) (m k : Nat) : Prop where
  on : OnD D
  len : D.l.length = d.l.length
  sec : ∀ s, D.sec s = ⟨if f + k ≤ s ∧ s < f + k + m then blkB epoch (chunk L (s - f)) else topS (d.sec s), []⟩
theorem flushGo_on (f : Nat) (epoch : Int) (L : List RecD) : ∀ (m k : Nat) (d : DiskD), OnD d → f + k + m ≤ d.l.length → (flushGo f epoch L m k d).2 = 0 ∧ FlR (flushGo f epoch L m k d).1 d f epoch L m k
  | 0, k, d, h, hl => by
    have hs := h.sync
    rw [flushGo, hs.2]
    refine ⟨hs.1, ⟨h.off, h.fuse⟩, by simp, fun s => ?_⟩
    rw [mapS_sec, if_neg (by omega)]
  | m + 1, k, d, h, hl => by
    have hb : (blkB epoch (chunk L k)).length = 256 := blkB_len _ _ (by rw [chunk_len]; omega)
    have hw := h.write (f + k) (by omega) _ hb
    have e : ((f : Int) + (k : Int)) = ((f + k : Nat) : Int) := by omega
    rw [flushGo, e, if_pos hw.1, hw.2]
    obtain ⟨h1, h2⟩ := flushGo_on f epoch L m (k + 1) (addL d (f + k) (blkB epoch (chunk L k))) (h.add _ _) (by rw [addL_len]; omega)
    refine ⟨h1, h2.on, by rw [h2.len, addL_len], fun s => ?_⟩
    rw [h2.sec s, addL_top d (f + k) (by omega)]
    by_cases e1 : s = f + k
    · subst e1
      rw [if_neg (by omega), if_pos rfl, if_pos (by omega), show f + k - f = k from by omega]
    · rw [if_neg e1]
      by_cases e2 : f + (k + 1) ≤ s ∧ s < f + (k + 1) + m
      · rw [if_pos e2, if_pos (by omega)]
      · rw [if_neg e2, if_neg (by omega)]
/-- Flush over a disk that has its power -/
theorem flushD_on (c : LogC) (f : Nat) (hf : c.first = f) (L : List RecD) (d : DiskD) (h : OnD d) (h0 : 0 ≤ c.done) (h1 : c.done ≤ L.length) (hl : f + blocksN L.length ≤ d.l.length) : (flushD c L d).2 = 0 ∧ doneC c L d = { c with done := L.length } ∧ OnD (flushD c L d).1 ∧ (flushD c L d).1.l.length = d.l.length := by
  have hk : (flushD c L d).2 = 0 ∧ OnD (flushD c L d).1 ∧ (flushD c L d).1.l.length = d.l.length := by
    unfold flushD
    split
    · exact ⟨rfl, h, rfl⟩
    · rename_i hne
      rw [hf]
      have hb : c.done.toNat / 6 ≤ blocksN L.length := by unfold blocksN; omega
      obtain ⟨a, b⟩ := flushGo_on f c.epoch L (blocksN L.length - c.done.toNat / 6) (c.done.toNat / 6) d h (by omega)
      exact ⟨a, b.on, b.len⟩
  exact ⟨hk.1, by unfold doneC; rw [if_pos hk.1], hk.2⟩
end Go.Proofs.YtoikdhfihkbcbaaDoor
