/- Contracts of the disk's Sync and on. -/
import Derived.Test.YtccfiohcblecoaaDoorDskW
namespace Go.Proofs.YtccfiohcblecoaaDoor
open Go.RowKit
set_option linter.unusedVariables false

/-- the first k sectors turned by f -/
def mapTo (f : SecD → SecD) (d : DiskD) (k : Nat) : DiskD := { d with l := (d.l.take k).map f ++ d.l.drop k }
theorem mapTo_len (f : SecD → SecD) (d : DiskD) (k : Nat) : (mapTo f d k).l.length = d.l.length := by simp [mapTo]; omega
theorem mapTo_zero (f : SecD → SecD) (d : DiskD) : mapTo f d 0 = d := by simp [mapTo]
theorem mapTo_all (f : SecD → SecD) (d : DiskD) : mapTo f d d.l.length = { d with l := d.l.map f } := by simp [mapTo]
theorem mapTo_sec (f : SecD → SecD) (d : DiskD) (k : Nat) (hk : k < d.l.length) : (mapTo f d k).sec k = d.sec k := by
  unfold DiskD.sec mapTo
  rw [List.getD_eq_getElem?_getD, List.getD_eq_getElem?_getD, List.getElem?_append_right (by simp; omega)]
  simp [Nat.min_eq_left (Nat.le_of_lt hk)]
theorem mapTo_succ (f : SecD → SecD) (d : DiskD) (k : Nat) (hk : k < d.l.length) : mapTo f d (k + 1) = { mapTo f d k with l := (mapTo f d k).l.set k (f ((mapTo f d k).sec k)) } := by
  rw [mapTo_sec f d k hk]
  unfold mapTo
  congr 1
  rw [List.take_succ_eq_append_getElem hk, List.map_append, List.set_append_right _ _ (by simp; omega)]
  have e : k - ((d.l.take k).map f).length = 0 := by simp; omega
  rw [e, List.drop_eq_getElem_cons hk, List.set_cons_zero]
  have e2 : d.sec k = d.l[k] := by simp [DiskD.sec, List.getD_eq_getElem?_getD, hk]
  rw [e2, List.append_assoc]
  rfl
theorem set_self {d : DiskD} {k : Nat} (hk : k < d.l.length) : d.l.set k (d.sec k) = d.l := by
  apply List.ext_getElem?
  intro i
  rw [List.getElem?_set]
  split
  · rename_i e; subst e; simp [hk, DiskD.sec, List.getD_eq_getElem?_getD]
  · rfl

/-- a sector synced that has loose versions -/
theorem Dk.syncStep {w : World} {H : Nat} {d : DiskD} {g : DG} (h : Dk w H d g) (k : Nat) (hk : k < d.l.length) (hpos : 0 < (d.sec k).loose.length) :
    ∃ gb c ox cx g', g.V k = .slice (some ⟨gb, 0, none⟩) (d.sec k).loose.length c ∧ (d.sec k).loose.length ≤ c ∧ c ≤ maxLen ∧ w.cell? ⟨gb, (d.sec k).loose.length - 1, none⟩ = some (.slice ox 256 cx) ∧
      (w.setCell ⟨g.G, k * 2, none⟩ (.slice ox 256 cx)).cell? ⟨g.G, k * 2 + 1, none⟩ = some (g.V k) ∧ (w.setCell ⟨g.G, k * 2, none⟩ (.slice ox 256 cx)).frozen? ⟨g.G, k * 2 + 1, none⟩ = false ∧
      Dk ((w.setCell ⟨g.G, k * 2, none⟩ (.slice ox 256 cx)).setCell ⟨g.G, k * 2 + 1, none⟩ (.slice none 0 0)) H { d with l := d.l.set k (syncS (d.sec k)) } g' ∧
      Ext (g.F H d.l.length) w (g'.F H d.l.length) ((w.setCell ⟨g.G, k * 2, none⟩ (.slice ox 256 cx)).setCell ⟨g.G, k * 2 + 1, none⟩ (.slice none 0 0)) := by
  obtain ⟨gb, c, x, hv, hx, hbx⟩ := h.looseCell hk (j := (d.sec k).loose.length - 1) (by omega)
  obtain ⟨o, c', hv', hc1, hc2⟩ := h.sec_slice hk
  rw [hv] at hv'
  simp only [Value.slice.injEq] at hv'
  obtain ⟨_, _, rfl⟩ := hv'
  have htop : topS (d.sec k) = (d.sec k).loose.getD ((d.sec k).loose.length - 1) [] := getLastD_eq _ _ _ hpos
  have hlen : ((d.sec k).loose.getD ((d.sec k).loose.length - 1) []).length = 256 := (h.sec k hk).llen _ (by rw [List.getD_eq_getElem?_getD, List.getElem?_eq_getElem (by omega)]; simp)
  rw [← htop] at hlen hbx
  obtain ⟨_, ox, cx, hxv, _, _, _, _⟩ := hbx.1
  rw [hlen] at hxv
  subst hxv
  have h1 := h.setU k hk _ _ hbx hlen
  have hk1 : k < ({ d with l := d.l.set k ⟨topS (d.sec k), (d.sec k).loose⟩ } : DiskD).l.length := by simpa using hk
  have h2 := h1.setV0 k hk1
  obtain ⟨_, s1, sf⟩ := h1.secCells hk1
  have hs1 : ({ d with l := d.l.set k ⟨topS (d.sec k), (d.sec k).loose⟩ } : DiskD).sec k = ⟨topS (d.sec k), (d.sec k).loose⟩ := by simp [DiskD.sec, List.getD_eq_getElem?_getD, hk]
  rw [hs1] at h2
  have e2 : ({ ({ d with l := d.l.set k ⟨topS (d.sec k), (d.sec k).loose⟩ } : DiskD) with l := ({ d with l := d.l.set k ⟨topS (d.sec k), (d.sec k).loose⟩ } : DiskD).l.set k ⟨(⟨topS (d.sec k), (d.sec k).loose⟩ : SecD).fast, []⟩ } : DiskD) = { d with l := d.l.set k (syncS (d.sec k)) } := by
    simp [List.set_set, syncS]
  rw [e2] at h2
  refine ⟨gb, c, ox, cx, _, hv, hc1, hc2, hx, ?_, sf _, h2, ?_⟩
  · have : upd g.V k (g.V k) k = g.V k := upd_at _ _ _
    rw [← this]; exact s1
  · have hG : g.F H d.l.length g.G := .inr (.inl rfl)
    have x1 : Ext (g.F H d.l.length) w (g.F H d.l.length) (w.setCell ⟨g.G, k * 2, none⟩ (.slice ox 256 cx)) := ext_setCell hG _ _
    have x2 : Ext (g.F H d.l.length) (w.setCell ⟨g.G, k * 2, none⟩ (.slice ox 256 cx)) (g.F H d.l.length) ((w.setCell ⟨g.G, k * 2, none⟩ (.slice ox 256 cx)).setCell ⟨g.G, k * 2 + 1, none⟩ (.slice none 0 0)) := ext_setCell hG _ _
    have x3 := x1.trans x2
    refine ⟨x3.os, x3.tape, x3.output, x3.size, x3.block, fun b hb => .inl ?_⟩
    rcases hb with e | e | ⟨i, hi, e⟩ | e
    · exact .inl e
    · exact .inr (.inl e)
    · by_cases hik : i = k
      · subst hik
        have e0 : (upd (upd g.V i (g.V i)) i (.slice none 0 0) i).ownBlock = some b := e
        rw [upd_at] at e0
        simp [Value.ownBlock] at e0
      · have e0 : (upd (upd g.V k (g.V k)) k (.slice none 0 0) i).ownBlock = some b := e
        rw [upd_ne _ _ hik, upd_ne _ _ hik] at e0
        exact .inr (.inr (.inl ⟨i, hi, e0⟩))
    · exact .inr (.inr (.inr e))

/-- a sector's loose versions gone, and memory -/
theorem Dk.clrStep {w : World} {H : Nat} {d : DiskD} {g : DG} (h : Dk w H d g) (k : Nat) (hk : k < d.l.length) :
    ∃ g', Dk (w.setCell ⟨g.G, k * 2 + 1, none⟩ (.slice none 0 0)) H { d with l := d.l.set k ⟨(d.sec k).fast, []⟩ } g' ∧ Ext (g.F H d.l.length) w (g'.F H d.l.length) (w.setCell ⟨g.G, k * 2 + 1, none⟩ (.slice none 0 0)) := by
  refine ⟨_, h.setV0 k hk, ?_⟩
  have x3 : Ext (g.F H d.l.length) w (g.F H d.l.length) (w.setCell ⟨g.G, k * 2 + 1, none⟩ (.slice none 0 0)) := ext_setCell (.inr (.inl rfl)) _ _
  refine ⟨x3.os, x3.tape, x3.output, x3.size, x3.block, fun b hb => .inl ?_⟩
  rcases hb with e | e | ⟨i, hi, e⟩ | e
  · exact .inl e
  · exact .inr (.inl e)
  · by_cases hik : i = k
    · subst hik
      have e0 : (upd g.V i (.slice none 0 0) i).ownBlock = some b := e
      rw [upd_at] at e0
      simp [Value.ownBlock] at e0
    · have e0 : (upd g.V k (.slice none 0 0) i).ownBlock = some b := e
      rw [upd_ne _ _ hik] at e0
      exact .inr (.inr (.inl ⟨i, hi, e0⟩))
  · exact .inr (.inr (.inr e))

theorem syncD_len (d : DiskD) : (syncD d).l.length = d.l.length := by
  unfold syncD
  split
  · rfl
  · split
    · simp
    · rw [spendD_len]
theorem spendD_l (d : DiskD) : (spendD d).l = d.l := by
  unfold spendD
  split
  · rfl
  · split <;> rfl

end Go.Proofs.YtccfiohcblecoaaDoor
