/- Plain laws on a fuse and a crash. -/
import Derived.Test.YtccfiohcblecoaaDoorDskC
import Derived.Test.YtccfiohcblecoaaDoorDskF
namespace Go.Proofs.YtccfiohcblecoaaDoor
open Go.RowKit
set_option linter.unusedVariables false

theorem sec_set {d : DiskD} {k : Nat} (hk : k < d.l.length) (x : SecD) (s : Nat) : ({ d with l := d.l.set k x } : DiskD).sec s = if s = k then x else d.sec s := by
  unfold DiskD.sec
  simp only [List.getD_eq_getElem?_getD, List.getElem?_set]
  by_cases e : s = k
  · subst e; simp [hk]
  · rw [if_neg (Ne.symm e), if_neg e]
theorem sec_spend (d : DiskD) (s : Nat) : (spendD d).sec s = d.sec s := by unfold DiskD.sec; rw [spendD_l]
theorem newD_sec0 (n : Int) (s : Nat) : (newD n).sec s = sec0 := by
  by_cases h : s < newN n
  · exact newD_sec h
  · have : (newD n).l.length ≤ s := by rw [newD_len]; omega
    unfold DiskD.sec
    rw [getD_ge this]

/-- so many writes of one list, each into the next sector -/
def wrTo (n : Nat) (b : List Int) : Nat → DiskD
  | 0 => fuseD (newD 30) n
  | i + 1 => writeD (wrTo n b i) (i : Int) b
structure WrTo (n : Nat) (b : List Int) (i : Nat) (d : DiskD) : Prop where
  len : d.l.length = 30
  off : d.off = false
  fuse : d.fuse = (n : Int) - i
  sec : ∀ s, d.sec s = if s < i then ⟨List.replicate 256 0, [b]⟩ else sec0
theorem wrTo_start (n : Nat) (b : List Int) : WrTo n b 0 (fuseD (newD 30) n) :=
  ⟨newD_len 30, rfl, by show max (n : Int) (-1) = _; omega, fun s => by rw [if_neg (by omega)]; exact newD_sec0 30 s⟩
theorem WrTo.has {n : Nat} {b : List Int} {i : Nat} {d : DiskD} (h : WrTo n b i d) {k : Nat} (hk : k < 30) : d.has (k : Int) = true := by simp [DiskD.has, h.len]; omega
theorem WrTo.step {n : Nat} {b : List Int} {i : Nat} {d : DiskD} (h : WrTo n b i d) (hi : i < n) (hn : n ≤ 20) (hb : b.length = 256) : writeC d (i : Int) b = 0 ∧ WrTo n b (i + 1) (writeD d (i : Int) b) := by
  have hf := h.fuse
  have hs : spendB d = true := by simp [spendB, hf]; omega
  have hh := h.has (k := i) (by omega)
  have hw : writeD d (i : Int) b = spendD (addL d i b) := by simp [writeD, h.off, hh, hb]
  have hil : i < d.l.length := by rw [h.len]; omega
  refine ⟨by simp [writeC, h.off, hh, hb, hs], ?_⟩
  rw [hw]
  have e : spendD (addL d i b) = { addL d i b with fuse := d.fuse - 1 } := by
    unfold spendD
    rw [if_neg (by show ¬ d.fuse < 0; omega), if_neg (by show ¬ d.fuse = 0; omega)]
    rfl
  refine ⟨by rw [e]; simp [addL, h.len], by rw [e]; exact h.off, by rw [e]; show d.fuse - 1 = _; omega, fun s => ?_⟩
  rw [sec_spend]
  unfold addL
  rw [sec_set hil]
  have h1 := h.sec i
  rw [if_neg (by omega)] at h1
  by_cases e2 : s = i
  · subst e2
    rw [if_pos rfl, if_pos (by omega), h1]
    rfl
  · rw [if_neg e2, h.sec s]
    by_cases e3 : s < i
    · rw [if_pos e3, if_pos (by omega)]
    · rw [if_neg e3, if_neg (by omega)]

/-- the power gone: the first m sectors have one loose version each -/
structure Gone (m : Nat) (d : DiskD) : Prop where
  len : d.l.length = 30
  off : d.off = true
  many : ∀ s, (d.sec s).loose.length = if s < m then 1 else 0
theorem WrTo.gone {n : Nat} {b : List Int} {d : DiskD} (h : WrTo n b n d) (hn : n ≤ 20) : syncC d = 101 ∧ Gone n (syncD d) ∧ (syncD d).sec n = sec0 := by
  have hf := h.fuse
  have hs : spendB d = false := by simp [spendB, hf]
  have hd : syncD d = spendD d := by simp [syncD, h.off, hs]
  have he : spendD d = { d with off := true } := by unfold spendD; rw [if_neg (by omega), if_pos (by omega)]
  rw [hd]
  refine ⟨by simp [syncC, h.off, hs], ⟨by rw [spendD_len]; exact h.len, by rw [he], fun s => ?_⟩, ?_⟩
  · rw [sec_spend, h.sec s]
    by_cases e : s < n
    · rw [if_pos e, if_pos e]; rfl
    · rw [if_neg e, if_neg e]; rfl
  · rw [sec_spend, h.sec n, if_neg (by omega)]
theorem WrTo.goneW {n : Nat} {b c : List Int} {d : DiskD} (h : WrTo n b n d) (hn : n ≤ 20) (hc : c.length = 256) : writeC d (n : Int) c = 101 ∧ Gone (n + 1) (writeD d (n : Int) c) ∧ ((writeD d (n : Int) c).sec n).loose = [c] := by
  have hf := h.fuse
  have hs : spendB d = false := by simp [spendB, hf]
  have hh := h.has (k := n) (by omega)
  have hw : writeD d (n : Int) c = spendD (addL d n c) := by simp [writeD, h.off, hh, hc]
  have hnl : n < d.l.length := by rw [h.len]; omega
  have h1 := h.sec n
  rw [if_neg (by omega)] at h1
  have he : spendD (addL d n c) = { addL d n c with off := true } := by
    unfold spendD
    rw [if_neg (by show ¬ d.fuse < 0; omega), if_pos (by show d.fuse = 0; omega)]
  rw [hw]
  refine ⟨by simp [writeC, h.off, hh, hc, hs], ⟨by rw [spendD_len, addL_len]; exact h.len, by rw [he], fun s => ?_⟩, ?_⟩
  · rw [sec_spend]
    unfold addL
    rw [sec_set hnl]
    by_cases e : s = n
    · subst e; rw [if_pos rfl, if_pos (by omega), h1]; rfl
    · rw [if_neg e, h.sec s]
      by_cases e3 : s < n
      · rw [if_pos e3, if_pos (by omega)]; rfl
      · rw [if_neg e3, if_neg (by omega)]; rfl
  · rw [sec_spend]
    unfold addL
    rw [sec_set hnl, if_pos rfl, h1]
    rfl

theorem Gone.loose {m : Nat} {d : DiskD} (h : Gone m d) (k : Nat) : looseTo d k = (List.range (min k m)).map fun i => (i, 1) := by
  induction k with
  | zero => simp [looseTo]
  | succ k ih =>
    rw [looseTo_succ, ih, h.many k]
    by_cases e : k < m
    · rw [if_pos e, show min (k + 1) m = min k m + 1 by omega, List.range_succ, List.map_append, show min k m = k by omega]
      simp
    · rw [if_neg e, show min (k + 1) m = min k m by omega]
      simp
/-- after a crash that keeps one of each -/
theorem Gone.crash {m : Nat} {d : DiskD} (h : Gone m d) (hm : m ≤ 30) (j : Nat) (hj : j ≤ m) (s : Nat) :
    (crashTo d (List.replicate 30 1) j).sec s = if s < j then ⟨(d.sec s).loose.getD 0 [], (d.sec s).loose⟩ else d.sec s := by
  induction j with
  | zero => rw [if_neg (by omega)]; rfl
  | succ j ih =>
    have hjj := ih (by omega)
    have hp : (looseD d).getD j (0, 0) = (j, 1) := by
      unfold looseD
      rw [h.loose, h.len, List.getD_eq_getElem?_getD, List.getElem?_map, List.getElem?_range (by omega)]
      rfl
    have hstep : crashTo d (List.replicate 30 1) (j + 1) = { crashTo d (List.replicate 30 1) j with l := (crashTo d (List.replicate 30 1) j).l.set j (crOne ((crashTo d (List.replicate 30 1) j).sec j) 1) } := by
      conv => lhs; unfold crashTo
      simp only [hp]
      have hk : (List.replicate 30 (1 : Int)).getD j 0 = 1 := by rw [List.getD_eq_getElem?_getD, List.getElem?_replicate, if_pos (by omega)]; rfl
      rw [if_pos ⟨by simp; omega, by rw [hk]; omega⟩, hk]
    have hl1 := congrArg List.length (crashTo_loose d (List.replicate 30 1) j j)
    rw [h.many j, if_pos (by omega)] at hl1
    rw [hstep, sec_set (by rw [crashTo_len, h.len]; omega)]
    by_cases e : s = j
    · subst e
      rw [if_pos rfl, if_pos (by omega)]
      unfold crOne
      rw [hl1, if_pos (by decide), crashTo_loose]
      rfl
    · rw [if_neg e, hjj]
      by_cases e3 : s < j
      · rw [if_pos e3, if_pos (by omega)]
      · rw [if_neg e3, if_neg (by omega)]
theorem onD_sec (d : DiskD) (s : Nat) : (onD d).sec s = ⟨(d.sec s).fast, []⟩ := by
  unfold onD DiskD.sec
  simp only [List.getD_eq_getElem?_getD, List.getElem?_map]
  cases d.l[s]? <;> rfl
theorem read_on {C : DiskD} {n : Nat} (ho : C.off = false) (hn : n < C.l.length) : readC C (n : Int) = 0 ∧ readL C (n : Int) = topS (C.sec n) := by
  have hh : C.has (n : Int) = true := by simp [DiskD.has]; omega
  exact ⟨by simp [readC, ho, hh], by simp [readL, ho, hh]⟩
theorem sync_on {C : DiskD} (ho : C.off = false) (hs : spendB C = true) : syncC C = 0 := by simp [syncC, ho, hs]
/-- behind that crash -/
theorem Gone.after {m : Nat} {d : DiskD} (h : Gone m d) (hm : m ≤ 30) (n : Nat) (hn : n < 30) :
    (looseD d).length = m ∧ readC (crashD d (List.replicate 30 1)) (n : Int) = 0 ∧ readL (crashD d (List.replicate 30 1)) (n : Int) = (if n < m then (d.sec n).loose.getD 0 [] else (d.sec n).fast) ∧ syncC (crashD d (List.replicate 30 1)) = 0 := by
  have hl : (looseD d).length = m := by unfold looseD; rw [h.loose, h.len]; simp; omega
  obtain ⟨h1, h2⟩ := read_on (C := crashD d (List.replicate 30 1)) (n := n) rfl (by rw [crashD_len, h.len]; exact hn)
  refine ⟨hl, h1, ?_, sync_on rfl rfl⟩
  rw [h2]
  unfold crashD
  rw [onD_sec, hl, h.crash hm m (Nat.le_refl _) n]
  by_cases e : n < m
  · rw [if_pos e, if_pos e]; rfl
  · rw [if_neg e, if_neg e]; rfl

/-- a disk, and what it needs to be told of the world -/
structure HDk (w0 : World) (H : Nat) (w : World) (d : DiskD) (g : DG) : Prop where
  dk : Dk w H d g
  bel : Below w0.heap.size w0 w
  low : ∀ b, g.F H d.l.length b → w0.heap.size ≤ b
theorem HDk.below {w0 w w' : World} {H : Nat} {d : DiskD} {g : DG} (h : HDk w0 H w d g) (hb : Below w.heap.size w w') : HDk w0 H w' d g := ⟨h.dk.below hb, h.bel.trans (hb.mono h.bel.size), h.low⟩
theorem HDk.turn {w0 w w' : World} {H : Nat} {d d' : DiskD} {g g' : DG} (h : HDk w0 H w d g) (hd : Dk w' H d' g') (hx : Ext (g.F H d.l.length) w (g'.F H d'.l.length) w') : HDk w0 H w' d' g' :=
  ⟨hd, h.bel.trans (hx.below h.low h.bel.size), hx.low h.low h.bel.size⟩
theorem HDk.noOff {ea : Nat → Addr} {w0 w : World} {H : Nat} {d : DiskD} {g : DG} (h : HDk w0 H w d g) (hs : D3 ea w0) : ¬ g.F H d.l.length 1 := fun hf => by
  have h1 := h.low _ hf
  have h2 := Below.lt hs.o
  simp only at h2
  omega
end Go.Proofs.YtccfiohcblecoaaDoor
