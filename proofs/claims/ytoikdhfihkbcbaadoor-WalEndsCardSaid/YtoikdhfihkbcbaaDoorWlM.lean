/- A log over its disk, in memory; a part of a slice of records; plain: Flush. -/
import Derived.Test.YtoikdhfihkbcbaaDoorWalC
import Derived.Test.YtoikdhfihkbcbaaDoorDskS
import Derived.Test.YtoikdhfihkbcbaaDoorBlB
namespace Go.Proofs.YtoikdhfihkbcbaaDoor
open Go.RowKit
set_option linter.unusedVariables false

/-- the k-th block's records -/
def chunk (L : List RecD) (k : Nat) : List RecD := (L.take (6 * k + 6)).drop (6 * k)
/-- how many blocks so many records take -/
def blocksN (n : Nat) : Nat := (n + 5) / 6
/-- n blocks are written, the k-th first; then Sync: the disk, the error's number -/
def flushGo (first epoch : Int) (L : List RecD) : Nat → Nat → DiskD → DiskD × Int
  | 0, _, d => (syncD d, syncC d)
  | n + 1, k, d =>
    if writeC d (first + k) (blkB epoch (chunk L k)) = 0 then flushGo first epoch L n (k + 1) (writeD d (first + k) (blkB epoch (chunk L k)))
    else (writeD d (first + k) (blkB epoch (chunk L k)), writeC d (first + k) (blkB epoch (chunk L k)))
def flushD (c : LogC) (L : List RecD) (d : DiskD) : DiskD × Int :=
  if c.done = L.length then (d, 0) else flushGo c.first c.epoch L (blocksN L.length - c.done.toNat / 6) (c.done.toNat / 6) d
def doneC (c : LogC) (L : List RecD) (d : DiskD) : LogC := if (flushD c L d).2 = 0 then { c with done := L.length } else c

theorem chunk_len (L : List RecD) (k : Nat) : (chunk L k).length = min (6 * k + 6) L.length - 6 * k := by simp [chunk]
theorem chunk_mem {L : List RecD} {k : Nat} {r : RecD} (h : r ∈ chunk L k) : r ∈ L := List.mem_of_mem_take (List.mem_of_mem_drop h)
theorem chunk_eq (L : List RecD) (k hi : Nat) (h : hi = min (6 * k + 6) L.length) : chunk L k = (L.take hi).drop (6 * k) := by
  subst h
  unfold chunk
  rw [← List.take_length (l := L)]
  rw [List.take_take, List.take_take]
  simp
theorem writeD_loose (d : DiskD) (i : Int) (b : List Int) (s : Nat) : ((writeD d i b).sec s).loose.length ≤ (d.sec s).loose.length + 1 := by
  have hsp : ∀ d : DiskD, ((spendD d).sec s).loose = (d.sec s).loose := fun d => by unfold DiskD.sec; rw [spendD_l]
  unfold writeD
  split; · omega
  split
  · split
    · rw [hsp]
      unfold addL DiskD.sec
      simp only [List.getD_eq_getElem?_getD, List.getElem?_set]
      by_cases e : i.toNat = s
      · subst e
        by_cases hk : i.toNat < d.l.length
        · simp [hk]
        · simp [hk]
      · simp [e]
    · omega
  · omega

/-- a part of a slice of records -/
theorem recsUnder : Tryd.prog.underlying 28 = some (.slice (Tryd.prog.elem 28)) := by kernel_rfl
theorem Gs.part {w : World} {o : Option Addr} {n cap : Nat} {L : List RecD} (h : Gs w (.slice o n cap) L) (i j : Nat) (hij : i < j) (hj : j ≤ n) :
    ∃ o' c', Gs w (.slice o' (j - i) c') ((L.take j).drop i) ∧ c' ≤ cap ∧
      ∀ W, (Instr.sliceAt 28 (.slice o n cap) (some (.int .i64 (i : Int))) (some (.int .i64 (j : Int))) none).run Tryd.prog W = .ok (.slice o' (j - i) c') W := by
  obtain ⟨hW, o1, c1, he, h1, h2, h3, h4⟩ := h
  simp only [Value.slice.injEq] at he
  obtain ⟨rfl, hn, rfl⟩ := he
  have hne : L ≠ [] := fun e => by subst e; simp at hn; omega
  obtain ⟨g, off, rfl, hc⟩ := h4 hne
  have hlen : ((L.take j).drop i).length = j - i := by rw [List.length_drop, List.length_take]; omega
  have hsz : ∀ W, (sizeOf (Tryd.prog.elem 28)).run Tryd.prog W = .ok 10 W := fun W => by kernel_rfl
  refine ⟨some ⟨g, off + i * 10, none⟩, cap - i, ⟨fun r hr => hW r (List.mem_of_mem_take (List.mem_of_mem_drop hr)), _, _, by rw [hlen], by omega, by omega, by simp, fun _ => ⟨g, off + i * 10, rfl, fun k r hr m hm => ?_⟩⟩, by omega, fun W => ?_⟩
  · rw [List.getElem?_drop, List.getElem?_take] at hr
    split at hr
    · have := hc (i + k) r hr m hm
      rw [← this]
      congr 2
      omega
    · simp at hr
  · rw [run_sliceAt_slice W 28 _ _ _ _ recsUnder, run_slice_lh W 28 _ _ _ recsUnder .i64 .i64 (i : Int) (j : Int) (by omega) (by omega) (by omega), hsz]
    have hci : cap ≠ i := by omega
    simp only [Result.andThen, sliced, Int.toNat_natCast, if_neg hci]
    simp [Addr.add]

/-- a log over its disk -/
structure WL (w0 : World) (X H : Nat) (w : World) (c : LogC) (v : Value) (L : List RecD) (d : DiskD) (g : DG) : Prop where
  bel : Below w0.heap.size w0 w
  lg : Lg 97 w X c v L
  dk : Dk w H d g
  cd : c.d = .pointer (some ⟨H, 0, none⟩)
  lowD : ∀ b, g.F H d.l.length b → w0.heap.size ≤ b
  lowL : ∀ b, LogC.F X v b → w0.heap.size ≤ b
  apart : ∀ b, LogC.F X v b → ¬ g.F H d.l.length b
  ok : ∀ r ∈ L, okR r = true
theorem WL.below {w0 w w' : World} {X H : Nat} {c : LogC} {v : Value} {L : List RecD} {d : DiskD} {g : DG} (h : WL w0 X H w c v L d g) (hb : Below w.heap.size w w') : WL w0 X H w' c v L d g :=
  ⟨h.bel.trans (hb.mono h.bel.size), h.lg.below hb, h.dk.below hb, h.cd, h.lowD, h.lowL, h.apart, h.ok⟩
theorem WL.disk {w0 w w' : World} {X H : Nat} {c : LogC} {v : Value} {L : List RecD} {d d' : DiskD} {g g' : DG} (h : WL w0 X H w c v L d g) (hd : Dk w' H d' g') (hx : Ext (g.F H d.l.length) w (g'.F H d'.l.length) w') : WL w0 X H w' c v L d' g' :=
  ⟨h.bel.trans (hx.below h.lowD h.bel.size), h.lg.apart hx h.apart, hd, h.cd, hx.low h.lowD h.bel.size, h.lowL, fun b hb hf => (hx.grow b hf).elim (h.apart b hb) fun hle => absurd (h.lg.low hb) (Nat.not_lt.2 hle), h.ok⟩
theorem WL.log {w0 w w' : World} {X H : Nat} {c : LogC} {v v' : Value} {L L' : List RecD} {d : DiskD} {g : DG} (h : WL w0 X H w c v L d g) (hl : Lg 97 w' X c v' L') (hx : Ext (LogC.F X v) w (LogC.F X v') w') (hok : ∀ r ∈ L', okR r = true) : WL w0 X H w' c v' L' d g :=
  ⟨h.bel.trans (hx.below h.lowL h.bel.size), hl, h.dk.apart hx fun b hf hb => h.apart b hb hf, h.cd, h.lowD, hx.low h.lowL h.bel.size, fun b hb hf => (hx.grow b hb).elim (fun hb' => h.apart b hb' hf) fun hle => absurd (h.dk.low hf) (Nat.not_lt.2 hle), hok⟩
/-- done is stored -/
theorem WL.done {w0 w : World} {X H : Nat} {c : LogC} {v : Value} {L : List RecD} {d : DiskD} {g : DG} (h : WL w0 X H w c v L d g) (n : Int) : WL w0 X H (w.setCell ⟨X, 6, none⟩ (.int .i64 n)) { c with done := n } v L d g := by
  have hne : ∀ b, b ≠ X → (w.setCell ⟨X, 6, none⟩ (.int .i64 n)).heap[b]? = w.heap[b]? := fun b hb => setCell_otherR w _ _ hb
  refine ⟨h.bel.setCell (p := ⟨X, 6, none⟩) (h.lowL X (.inl rfl)) _, ⟨?_, h.lg.own.same fun b e => hne b fun e2 => h.lg.vX (e2 ▸ e), h.lg.vX, ⟨h.lg.ok.b0, h.lg.ok.b1, h.lg.ok.k0, h.lg.ok.k1, h.lg.ok.f0, h.lg.ok.f1⟩, h.lg.len⟩, h.dk.same (by rw [setCell_sizeR]; exact Nat.le_refl _) fun b hf => hne b fun e => h.apart b (.inl e) hf, h.cd, h.lowD, h.lowL, h.apart, h.ok⟩
  rw [setCell_rowR h.lg.head]; rfl
theorem WL.noLow {w0 w : World} {X H : Nat} {c : LogC} {v : Value} {L : List RecD} {d : DiskD} {g : DG} (h : WL w0 X H w c v L d g) {b : Nat} (hb : b < w0.heap.size) : ¬ g.F H d.l.length b := fun hf => absurd (h.lowD b hf) (Nat.not_le.2 hb)
end Go.Proofs.YtoikdhfihkbcbaaDoor
