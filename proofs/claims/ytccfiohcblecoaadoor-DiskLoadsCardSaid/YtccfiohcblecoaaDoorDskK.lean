/- Plain laws and memory for the law DiskKeeps: each sector's versions, and the five lists of what they may be. -/
import Derived.Test.YtccfiohcblecoaaDoorDskX
namespace Go.Proofs.YtccfiohcblecoaaDoor
open Go.RowKit
set_option linter.unusedVariables false

/-- all versions of a sector, the fast one first -/
def vers (s : SecD) : List (List Int) := s.fast :: s.loose
def fillB (x : Int) : List Int := List.replicate 256 (x % 256)
theorem fillB_len (x : Int) : (fillB x).length = 256 := List.length_replicate
theorem topS_vers (s : SecD) : some (topS s) = (vers s).getLast? := by
  obtain ⟨f, l⟩ := s
  unfold topS vers
  cases l with
  | nil => rfl
  | cons x l =>
    simp only [List.getLastD_eq_getLast?, List.getLast?_cons_cons]
    obtain ⟨y, hy⟩ : ∃ y, (x :: l).getLast? = some y := ⟨_, List.getLast?_eq_some_getLast (by simp)⟩
    rw [hy]; rfl
theorem vers_sync (s : SecD) (M : List Int) (h : vers s = M.map fillB) : vers (syncS s) = (M.drop (M.length - 1)).map fillB := by
  have h1 := topS_vers s
  rw [h, List.getLast?_map] at h1
  have hne : M ≠ [] := by intro e; rw [e] at h; simp [vers] at h
  have hlt : M.length - 1 < M.length := by have := List.length_pos_iff.2 hne; omega
  have hd : M.drop (M.length - 1) = [M[M.length - 1]] := by
    rw [List.drop_eq_getElem_cons hlt, show M.length - 1 + 1 = M.length by omega, List.drop_length]
  rw [List.getLast?_eq_getElem?, List.getElem?_eq_getElem hlt] at h1
  simp only [Option.map_some, Option.some.injEq] at h1
  rw [hd]
  simp [vers, syncS, h1]
theorem vers_add (s : SecD) (M : List Int) (x : Int) (h : vers s = M.map fillB) : vers ⟨s.fast, s.loose ++ [fillB x]⟩ = (M ++ [x]).map fillB := by
  rw [List.map_append, ← h]; rfl
theorem vers_len (s : SecD) (M : List Int) (h : vers s = M.map fillB) : s.loose.length + 1 = M.length := by
  have := congrArg List.length h
  simpa [vers] using this

/-- whatever a crash keeps, it is one of the versions -/
theorem crOne_mem (s : SecD) (q : Int) : (crOne s q).fast ∈ vers s := by
  unfold crOne
  split
  · rename_i h
    have h2 := Int.emod_lt_of_pos q (show (0 : Int) < (s.loose.length : Int) + 1 by omega)
    have hl : (q % (s.loose.length + 1)).toNat - 1 < s.loose.length := by omega
    show s.loose.getD _ [] ∈ _
    rw [List.getD_eq_getElem?_getD, List.getElem?_eq_getElem hl]
    exact List.mem_cons_of_mem _ (List.getElem_mem hl)
  · exact List.mem_cons_self
theorem sec_set_any (d : DiskD) (k : Nat) (x : SecD) (s : Nat) : ({ d with l := d.l.set k x } : DiskD).sec s = if s = k ∧ s < d.l.length then x else d.sec s := by
  unfold DiskD.sec
  simp only [List.getD_eq_getElem?_getD, List.getElem?_set]
  by_cases e : k = s
  · subst e
    by_cases h : k < d.l.length
    · simp [h]
    · simp [h, List.getElem?_eq_none (show d.l.length ≤ k by omega)]
  · rw [if_neg e, if_neg (fun h => e h.1.symm)]
theorem crashTo_mem (d : DiskD) (keep : List Int) (j s : Nat) : ((crashTo d keep j).sec s).fast = (d.sec s).fast ∨ ((crashTo d keep j).sec s).fast ∈ (d.sec s).loose := by
  induction j with
  | zero => exact .inl rfl
  | succ j ih =>
    unfold crashTo
    simp only
    split
    · by_cases e : s = ((looseD d).getD j (0, 0)).1 ∧ s < (crashTo d keep j).l.length
      · obtain ⟨e1, e2⟩ := e
        rw [← e1, sec_set e2, if_pos rfl]
        have hm := crOne_mem ((crashTo d keep j).sec s) (keep.getD j 0)
        unfold vers at hm
        rw [crashTo_loose] at hm
        rcases List.mem_cons.1 hm with h | h
        · rw [h]; exact ih
        · exact .inr h
      · rw [sec_set_any, if_neg e]
        exact ih
    · exact ih
theorem crashD_mem (d : DiskD) (keep : List Int) (s : Nat) : ((crashD d keep).sec s).fast ∈ vers (d.sec s) ∧ ((crashD d keep).sec s).loose = [] := by
  unfold crashD
  rw [onD_sec]
  refine ⟨?_, rfl⟩
  rcases crashTo_mem d keep (looseD d).length s with h | h
  · rw [show (⟨((crashTo d keep (looseD d).length).sec s).fast, []⟩ : SecD).fast = _ from h]; exact List.mem_cons_self
  · exact List.mem_cons_of_mem _ h

/-- is it one of the first j -/
def anyTo (b : List Int) (M : List Int) (j : Nat) : Bool := (List.range j).any fun t => sameB b (fillB (M.getD t 0))
theorem anyTo_succ (b M : List Int) (j : Nat) : anyTo b M (j + 1) = (anyTo b M j || sameB b (fillB (M.getD j 0))) := by
  unfold anyTo
  rw [List.range_succ, List.any_append]
  simp
theorem anyTo_all (b M : List Int) (h : b ∈ M.map fillB) : anyTo b M M.length = true := by
  obtain ⟨x, hx, rfl⟩ := List.mem_map.1 h
  obtain ⟨t, ht, rfl⟩ := List.getElem_of_mem hx
  unfold anyTo
  rw [List.any_eq_true]
  exact ⟨t, List.mem_range.2 ht, by rw [getD_lt ht]; simp [sameB]⟩

/-- behind a write to the five lists -/
theorem HDk.setA {w0 w : World} {H A : Nat} {d : DiskD} {g : DG} (hd : HDk w0 H w d g) (notA : ¬ g.F H d.l.length A) (lowA : w0.heap.size ≤ A) (k : Nat) (v : Value) : HDk w0 H (w.setCell ⟨A, k, none⟩ v) d g :=
  ⟨hd.dk.same (by rw [setCell_sizeD]; exact Nat.le_refl _) fun b hb => setCell_otherD w _ _ fun e => notA (by rw [← e]; exact hb), hd.bel.setCell (p := ⟨A, k, none⟩) lowA _, hd.low⟩
theorem syncK {d : DiskD} (ho : d.off = false) (hf : d.fuse = -1) : syncC d = 0 ∧ (syncD d).off = false ∧ (syncD d).fuse = -1 ∧ ∀ s, s < d.l.length → (syncD d).sec s = syncS (d.sec s) := by
  have hs : spendB d = true := by simp [spendB, hf]
  have hsp : spendD d = d := by unfold spendD; rw [if_pos (by omega)]
  have hd : syncD d = { d with l := d.l.map syncS } := by simp [syncD, ho, hs, hsp]
  refine ⟨by simp [syncC, ho, hs], by rw [hd]; exact ho, by rw [hd]; exact hf, fun s hs2 => ?_⟩
  rw [hd]
  unfold DiskD.sec
  simp [List.getD_eq_getElem?_getD, List.getElem?_map, hs2]
theorem writeK {d : DiskD} (ho : d.off = false) (hf : d.fuse = -1) (k : Nat) (hk : k < d.l.length) (b : List Int) (hb : b.length = 256) :
    writeC d (k : Int) b = 0 ∧ writeD d (k : Int) b = addL d k b := by
  have hs : spendB d = true := by simp [spendB, hf]
  have hh : d.has (k : Int) = true := by simp [DiskD.has]; omega
  have hsp : spendD (addL d k b) = addL d k b := by unfold spendD; rw [if_pos (by show d.fuse < 0; omega)]
  exact ⟨by simp [writeC, ho, hh, hb, hs], by simp [writeD, ho, hh, hb, hsp]⟩
theorem notA_ext {F F' : Nat → Prop} {w w' : World} {A : Nat} (hx : Ext F w F' w') (hA : ¬ F A) (hl : A < w.heap.size) : ¬ F' A := fun hf => (hx.grow A hf).elim hA fun hle => by omega
end Go.Proofs.YtccfiohcblecoaaDoor
