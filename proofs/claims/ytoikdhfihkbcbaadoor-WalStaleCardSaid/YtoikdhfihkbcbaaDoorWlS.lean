/- Plain and in memory: what the law WalStale needs. -/
import Derived.Test.YtoikdhfihkbcbaaDoorWlF
namespace Go.Proofs.YtoikdhfihkbcbaaDoor
open Go.RowKit
set_option linter.unusedVariables false

/-- Open, by lengths alone -/
def openN (r : Nat → Int × Nat × Int) (epoch : Int) : Nat → Nat → Int → Nat → Nat ⊕ Nat
  | 0, _, _, acc => .inl acc
  | n + 1, k, ahead, acc =>
    if (r k).2.2 ≠ 0 ∨ ((r k).2.1 ≠ 0 ∧ epoch ≤ (r k).1) then .inr k
    else if (r k).2.1 = 0 ∨ (r k).1 < ahead then .inl acc
    else if (r k).2.1 < 6 then .inl (acc + (r k).2.1)
    else openN r epoch n (k + 1) (r k).1 (acc + (r k).2.1)
theorem openGo_N {d : DiskD} {first epoch : Int} {r : Nat → Int × Nat × Int} : ∀ (n k : Nat) (ahead : Int) (acc : List RecD), (∀ j, j < k + n → r j = ((readBlk (readL d (first + j))).1, (readBlk (readL d (first + j))).2.1.length, (readBlk (readL d (first + j))).2.2)) →
    Sum.map List.length id (openGo d first epoch n k ahead acc) = openN r epoch n k ahead acc.length
  | 0, k, ahead, acc, hr => rfl
  | n + 1, k, ahead, acc, hr => by
    rw [openGo, openN, hr k (by omega)]
    dsimp only
    have hz : ∀ l : List RecD, l.length ≠ 0 ↔ l ≠ [] := fun l => by cases l <;> simp
    have hz2 : ∀ l : List RecD, l.length = 0 ↔ l = [] := fun l => by cases l <;> simp
    simp only [hz, hz2]
    split
    · rfl
    · split
      · rfl
      · split
        · simp [Sum.map]
        · rw [openGo_N n (k + 1) _ _ fun j hj => hr j (by omega), List.length_append]

def StE (h : Nat) : Int := if h = 0 then 9 else if h = 1 then 3 else if h = 2 then 20 else 10
def StC (h nn t : Nat) : Nat := if h = 1 then (if t < nn then 2 else 6) else if h = 3 then 3 else 6
def StP (h t : Nat) : Int := if h = 2 then t else -1
def StQ (h t : Nat) : Int := if h = 4 then t else StP h t
def StL (nn t h : Nat) : Int := if nn < t then -1 else StQ h t
def StW (nn t h : Nat) : Int :=
  if nn < t then 6 * nn else if StE h < 10 then (if StE h < 5 ∨ 0 < t then min (6 * (nn : Int)) (6 * t) else 6 * nn)
  else if StQ h t < 0 ∧ StC h nn t < 6 then 6 * t + StC h nn t else if StQ h t < 0 ∧ t = nn then 6 * nn + 6 else 6 * nn
def stR (nn t h : Nat) (k : Nat) : Int × Nat × Int := if k = t then (if h = 4 then (0, 0, 105) else (StE h, StC h nn t, 0)) else if k < nn then (10, 6, 0) else (0, 0, 0)
theorem stale_all : ∀ (nn : Fin 5) (t : Fin 6) (h : Fin 5), openN (stR (nn.val + 1) t.val h.val) 20 8 0 5 0 = if 0 ≤ StL (nn.val + 1) t.val h.val then .inr (StL (nn.val + 1) t.val h.val).toNat else .inl (StW (nn.val + 1) t.val h.val).toNat := by decide +kernel
theorem stale_w : ∀ (nn : Fin 5) (t : Fin 6) (h : Fin 5), 0 ≤ StW (nn.val + 1) t.val h.val ∧ StW (nn.val + 1) t.val h.val ≤ 100 ∧ -1 ≤ StL (nn.val + 1) t.val h.val ∧ StL (nn.val + 1) t.val h.val ≤ 100 := by decide +kernel

theorem isB_blkB (e : Int) (L : List RecD) : IsB (blkB e L) := by
  unfold blkB blkTo blkHead
  refine isB_fill ((isB_put (isB_put (isB_fill isB_blkMagic _) _ _ _) _ _ _).append ?_) _
  intro x hx
  rw [List.mem_flatMap] at hx
  obtain ⟨r, _, hr⟩ := hx
  exact isB_recB r x hr
def sixR (n : Nat) : List RecD := List.replicate n bR0
theorem sixR_ok (n : Nat) : ∀ r ∈ sixR n, okR r = true ∧ r.W := fun r hr => by rw [(List.mem_replicate.1 hr).2]; exact ⟨bR0_ok, bR0_w⟩
theorem sixR_len (n : Nat) : (sixR n).length = n := by simp [sixR]
/-- the bytes that are written at last -/
def stB (nn t h : Nat) : List Int := if h = 4 then (blkB (StE h) (sixR (StC h nn t))).set 0 7 else blkB (StE h) (sixR (StC h nn t))
theorem stC_bounds (h nn t : Nat) : 1 ≤ StC h nn t ∧ StC h nn t ≤ 6 := by
  unfold StC
  split
  · split <;> omega
  · split <;> omega
theorem stE_bounds (h : Nat) : 1 ≤ StE h ∧ StE h ≤ 20 := by
  unfold StE
  split
  · omega
  · split
    · omega
    · split <;> omega
theorem stB_read (nn t h : Nat) : readBlk (stB nn t h) = if h = 4 then (0, [], 105) else (StE h, sixR (StC h nn t), 0) := by
  obtain ⟨c1, c2⟩ := stC_bounds h nn t
  obtain ⟨e1, e2⟩ := stE_bounds h
  unfold stB
  by_cases h4 : h = 4
  · rw [if_pos h4, if_pos h4]
    have hl := blkB_len (StE h) (sixR (StC h nn t)) (by rw [sixR_len]; exact c2)
    have hset := set_getD (blkB (StE h) (sixR (StC h nn t))) 0 7 (by omega)
    have hB := isB_blkB (StE h) (sixR (StC h nn t))
    have hB2 := hB.set 0 (x := 7) (by omega) (by omega)
    have hl2 : ((blkB (StE h) (sixR (StC h nn t))).set 0 7).length = 256 := by rw [List.length_set, hl]
    have hb0 : ((blkB (StE h) (sixR (StC h nn t))).set 0 7).getD 0 0 = 7 := by rw [hset, if_pos rfl]
    have hz : allZ ((blkB (StE h) (sixR (StC h nn t))).set 0 7) = false := by
      cases ha : allZ ((blkB (StE h) (sixR (StC h nn t))).set 0 7) with
      | false => rfl
      | true =>
        have := allZ_iff.1 ha (((blkB (StE h) (sixR (StC h nn t))).set 0 7).getD 0 0) (by rw [getD_lt (by omega)]; exact List.getElem_mem _)
        rw [hb0] at this
        simp at this
    rcases readBlk_or hB2 hl2 hz with hr | ⟨n, m, _, hbm, _, _, _, hm6, _⟩
    · exact hr
    · have h0 := (blkB_low n m 0 (by omega)).trans (blkHead_m n m.length 0 (by omega))
      rw [hbm, hb0] at h0
      simp [blkMagic] at h0
  · rw [if_neg h4, if_neg h4]
    exact readBlk_back _ _ (by rw [sixR_len]; exact c1) (by rw [sixR_len]; exact c2) e1 (by omega) (sixR_ok _)

theorem Gs.pre {w : World} {o : Option Addr} {n cap : Nat} {L : List RecD} (h : Gs w (.slice o n cap) L) (j : Nat) (h1 : 1 ≤ j) (hj : j ≤ n) :
    Gs w (.slice o j cap) (L.take j) ∧ ∀ W, (Instr.sliceAt 28 (.slice o n cap) none (some (.int .i64 (j : Int))) none).run Tryd.prog W = .ok (.slice o j cap) W := by
  obtain ⟨hW, o1, c1, he, k1, k2, k3, k4⟩ := h
  simp only [Value.slice.injEq] at he
  obtain ⟨rfl, hn, rfl⟩ := he
  have hne : L ≠ [] := fun e => by subst e; simp at hn; omega
  obtain ⟨g, off, rfl, hc⟩ := k4 hne
  have hlen : (L.take j).length = j := by rw [List.length_take]; omega
  have hsz : ∀ W, (sizeOf (Tryd.prog.elem 28)).run Tryd.prog W = .ok 10 W := fun W => by kernel_rfl
  refine ⟨⟨fun r hr => hW r (List.mem_of_mem_take hr), _, _, by rw [hlen], by omega, by omega, by simp, fun _ => ⟨g, off, rfl, fun k r hr m hm => ?_⟩⟩, fun W => ?_⟩
  · rw [List.getElem?_take] at hr
    split at hr
    · exact hc k r hr m hm
    · simp at hr
  · rw [run_sliceAt_slice W 28 _ _ _ _ recsUnder, run_slice_h W 28 _ _ _ recsUnder .i64 (j : Int) (by omega) (by omega), hsz]
    have hci : cap ≠ 0 := by omega
    simp [Result.andThen, sliced, Addr.add, hci]
/-- a disk, and records beside it -/
structure DA (w0 : World) (H : Nat) (w : World) (d : DiskD) (g : DG) (va : Value) (A : List RecD) : Prop where
  dk : Dk w H d g
  bel : Below w0.heap.size w0 w
  low : ∀ b, g.F H d.l.length b → w0.heap.size ≤ b
  og : Og w0.heap.size w va A
  ap : ∀ b, va.ownBlock = some b → ¬ g.F H d.l.length b
theorem DA.below {w0 w w' : World} {H : Nat} {d : DiskD} {g : DG} {va : Value} {A : List RecD} (h : DA w0 H w d g va A) (hb : Below w.heap.size w w') : DA w0 H w' d g va A := ⟨h.dk.below hb, h.bel.trans (hb.mono h.bel.size), h.low, h.og.below hb, h.ap⟩
theorem DA.disk {w0 w w' : World} {H : Nat} {d d' : DiskD} {g g' : DG} {va : Value} {A : List RecD} (h : DA w0 H w d g va A) (hd : Dk w' H d' g') (hx : Ext (g.F H d.l.length) w (g'.F H d'.l.length) w') : DA w0 H w' d' g' va A :=
  ⟨hd, h.bel.trans (hx.below h.low h.bel.size), hx.low h.low h.bel.size, h.og.same fun b e => hx.block b (h.og.lt e).2 (h.ap b e), fun b e hf => (hx.grow b hf).elim (h.ap b e) fun hle => absurd (h.og.lt e).2 (Nat.not_lt.2 hle)⟩
theorem DA.all {w0 w W w' : World} {H : Nat} {d : DiskD} {g : DG} {va va' : Value} {A A' : List RecD} (h : DA w0 H w d g va A) (hb : Below w.heap.size w W) (hg : W.grownBy w' va.ownBlock) (ho : Og w0.heap.size w' va' A') (hv : va'.ownBlock = va.ownBlock ∨ ∀ b, va'.ownBlock = some b → W.heap.size ≤ b) : DA w0 H w' d g va' A' := by
  have h1 := h.below hb
  refine ⟨h1.dk.same hg.size fun b hf => hg.block b (h1.dk.low hf) fun e => h.ap b e.symm hf, h1.bel.grown hg h1.bel.size fun k hk => (h.og.lt hk).1, h1.low, ho, fun b e hf => ?_⟩
  rcases hv with hv | hv
  · exact h.ap b (by rw [← hv]; exact e) hf
  · exact absurd (h1.dk.low hf) (Nat.not_lt.2 (hv b e))
/-- a disk with so many blocks of ten boots' six records -/
structure StD (D : DiskD) (k : Nat) : Prop where
  on : OnD D
  len : D.l.length = 8
  top : ∀ s, topS (D.sec s) = if s < k then blkB 10 (sixR 6) else List.replicate 256 0
  many : ∀ s, (D.sec s).loose.length ≤ k
theorem StD.new : StD (newD 8) 0 := by
  have hs : ∀ s, (newD 8).sec s = sec0 := fun s => by
    unfold DiskD.sec newD
    rw [List.getD_eq_getElem?_getD, List.getElem?_replicate]
    split <;> rfl
  exact ⟨OnD.new 8, newD_len 8, fun s => by rw [hs, if_neg (by omega)]; rfl, fun s => by rw [hs]; exact Nat.le_refl _⟩
theorem StD.step {D : DiskD} {k : Nat} (h : StD D k) (hk : k < 8) : writeC D (k : Int) (blkB 10 (sixR 6)) = 0 ∧ StD (writeD D (k : Int) (blkB 10 (sixR 6))) (k + 1) := by
  have hb := blkB_len 10 (sixR 6) (by rw [sixR_len]; exact Nat.le_refl _)
  obtain ⟨h1, h2⟩ := h.on.write k (by rw [h.len]; exact hk) _ hb
  refine ⟨h1, ?_⟩
  rw [h2]
  refine ⟨h.on.add _ _, by rw [addL_len]; exact h.len, fun s => ?_, fun s => ?_⟩
  · rw [addL_top _ _ (by rw [h.len]; exact hk), h.top]
    by_cases e : s = k
    · subst e; rw [if_pos rfl, if_pos (by omega)]
    · rw [if_neg e]
      by_cases e2 : s < k
      · rw [if_pos e2, if_pos (by omega)]
      · rw [if_neg e2, if_neg (by omega)]
  · rw [addL_sec _ _ (by rw [h.len]; exact hk)]
    split
    · have := h.many k
      rw [List.length_append, List.length_singleton]
      try dsimp only
      omega
    · have := h.many s
      omega
/-- what Open reads of it, behind the last write -/
theorem StD.go {D : DiskD} {nn t h : Nat} (hd : StD D nn) (ht : t < 8) (h1 : 1 ≤ nn) (hn : nn ≤ 5) (ht5 : t ≤ 5) (hh : h ≤ 4) :
    writeC D (t : Int) (stB nn t h) = 0 ∧ (∀ k : Nat, k < 8 → readC (writeD D (t : Int) (stB nn t h)) ((0 : Nat) + (k : Int)) = 0 ∧ (readL (writeD D (t : Int) (stB nn t h)) ((0 : Nat) + (k : Int))).length = 256) ∧
      Sum.map List.length id (openGo (writeD D (t : Int) (stB nn t h)) ((0 : Nat) : Int) 20 8 0 5 []) = if 0 ≤ StL nn t h then .inr (StL nn t h).toNat else .inl (StW nn t h).toNat := by
  have hb6 := blkB_len 10 (sixR 6) (by rw [sixR_len]; exact Nat.le_refl _)
  have hbl : (stB nn t h).length = 256 := by
    have hl := blkB_len (StE h) (sixR (StC h nn t)) (by rw [sixR_len]; exact (stC_bounds h nn t).2)
    unfold stB
    split
    · rw [List.length_set]; exact hl
    · exact hl
  obtain ⟨w1, w2⟩ := hd.on.write t (by rw [hd.len]; exact ht) _ hbl
  rw [w2]
  have hon := hd.on.add t (stB nn t h)
  have hlen : (addL D t (stB nn t h)).l.length = 8 := by rw [addL_len]; exact hd.len
  have htop : ∀ s, topS ((addL D t (stB nn t h)).sec s) = if s = t then stB nn t h else if s < nn then blkB 10 (sixR 6) else List.replicate 256 0 := fun s => by
    rw [addL_top _ _ (by rw [hd.len]; exact ht), hd.top]
  have hread : ∀ k : Nat, k < 8 → readC (addL D t (stB nn t h)) ((0 : Nat) + (k : Int)) = 0 ∧ readL (addL D t (stB nn t h)) ((0 : Nat) + (k : Int)) = topS ((addL D t (stB nn t h)).sec k) := fun k hk => by
    rw [show ((0 : Nat) : Int) + (k : Int) = (k : Int) from by omega]
    have hh : (addL D t (stB nn t h)).has (k : Int) = true := by unfold DiskD.has; rw [hlen]; simp; omega
    have et : ((k : Nat) : Int).toNat = k := by omega
    refine ⟨by simp [readC, hon.off, hh], ?_⟩
    unfold readL
    rw [hon.off, hh, et]
    rfl
  refine ⟨w1, fun k hk => ⟨(hread k hk).1, ?_⟩, ?_⟩
  · rw [(hread k hk).2, htop]
    split
    · exact hbl
    · split
      · exact hb6
      · rw [List.length_replicate]
  · rw [openGo_N (r := stR nn t h) 8 0 5 [] fun j hj => ?_]
    · have := stale_all ⟨nn - 1, by omega⟩ ⟨t, by omega⟩ ⟨h, by omega⟩
      dsimp only at this
      rw [show nn - 1 + 1 = nn from by omega] at this
      exact this
    · rw [(hread j (by omega)).2, htop]
      unfold stR
      split
      · rw [stB_read]
        split
        · rfl
        · rw [sixR_len]
      · split
        · rw [readBlk_back 10 (sixR 6) (by rw [sixR_len]; omega) (by rw [sixR_len]; omega) (by omega) (by omega) (sixR_ok 6), sixR_len]
        · rw [readBlk_zeros0]; rfl
end Go.Proofs.YtoikdhfihkbcbaaDoor
