/- Contracts of the disk's on and Crash. -/
import Derived.Test.YtccfiohcblecoaaDoorDskS
import Derived.Test.YtccfiohcblecoaaDoorDskL
namespace Go.Proofs.YtccfiohcblecoaaDoor
open Go.RowKit
set_option linter.unusedVariables false

def clrS (s : SecD) : SecD := ⟨s.fast, []⟩
theorem onD_eq (d : DiskD) : onD d = ⟨d.l.map clrS, false, -1⟩ := rfl
theorem onD_len (d : DiskD) : (onD d).l.length = d.l.length := by simp [onD]

set_option maxRecDepth 20000 in
set_option maxHeartbeats 2000000 in
theorem dskOn {w : World} {H : Nat} {d : DiskD} {g : DG} (h : Dk w H d g) :
    Calls Tryd.prog 66 #[.pointer (some ⟨H, 0, none⟩)] w fun e w' => e = .returned (.tuple #[]) ∧ ∃ g', Dk w' H (onD d) g' ∧ Ext (g.F H d.l.length) w (g'.F H (onD d).l.length) w' := by
  obtain ⟨c0, _, _, _, _, _⟩ := h.headCells
  have hn2 := h.n2
  have hcp := h.capn
  have hcm := h.capm
  unfold maxLen at hcm
  rw [onD_len]
  have HX0 : Hid (Ext (g.F H d.l.length) w (g.F H d.l.length) w) := Lib.hid (Ext.refl _ _)
  rw [← mapTo_zero clrS d] at h
  have HD0 := Lib.hid h
  obtain ⟨n, hnn⟩ : ∃ n, n = d.l.length := ⟨_, rfl⟩
  have HNN := Lib.hid hnn
  rw [← hnn] at c0 hn2 hcp
  clear h hnn
  go_enter Tryd.func66, Tryd.ntmps66
  go_wp2_with fail
  clear c0 hcp hcm
  go_loopw [8] (fun i wr => ∃ k : Nat, i = .int .i64 k ∧ (k : Int) ≤ n ∧ ∃ gr, Hid (Dk wr H (mapTo clrS d k) gr) ∧ Hid (Ext (g.F H d.l.length) w (gr.F H d.l.length) wr)) (fun i _ => n - (intOf i).toNat)
  case atStart => exact ⟨0, rfl, by omega, g, HD0, HX0⟩
  case round =>
    obtain ⟨k, rfl, hk, gr, HDR, HXR⟩ := hrel
    have hml : (mapTo clrS d k).l.length = n := by rw [mapTo_len, HNN.out]
    obtain ⟨c0, c1, c2, f0, f1, f2⟩ := HDR.out.headCells
    have hcp := HDR.out.capn
    have hcm := HDR.out.capm
    unfold maxLen at hcm
    rw [hml] at c0 hcp
    by_cases hk2 : (k : Int) < n
    · have hkn : k < (mapTo clrS d k).l.length := by rw [hml]; omega
      obtain ⟨s0, s1, sf⟩ := HDR.out.secCells hkn
      have sf1 := sf (k * 2 + 1)
      have hsc := mapTo_succ clrS d k (by rw [HNN.out] at hk2; omega)
      obtain ⟨g', hdn, hxn⟩ := HDR.out.clrStep k hkn
      have e : ({ mapTo clrS d k with l := (mapTo clrS d k).l.set k ⟨((mapTo clrS d k).sec k).fast, []⟩ } : DiskD) = mapTo clrS d (k + 1) := by rw [hsc]; rfl
      rw [e] at hdn
      rw [hml, HNN.out] at hxn
      have HDN := Lib.hid hdn
      have HXN := Lib.hid (HXR.out.trans hxn)
      clear hsc hkn hml HDR sf hdn hxn HXR e c1 c2 f0 f1 f2 s0
      go_wp2_with fail
      go_roundw
      case rel => exact ⟨k + 1, by go_num, by omega, g', HDN, HXN⟩
      case measure => simp [intOf]; omega
    · obtain rfl : k = n := by omega
      have hdr := HDR.out
      rw [HNN.out, mapTo_all] at hdr
      have h1 := hdr.setOff false
      have h2 := h1.setFuse (-1) (by omega) (by omega)
      have hx : Ext (gr.F H d.l.length) wr (gr.F H d.l.length) ((wr.setCell ⟨H, 1, none⟩ (.bool false)).setCell ⟨H, 2, none⟩ (.int .i64 (-1))) := (ext_setCell (.inl rfl) 1 _).trans (ext_setCell (.inl rfl) 2 _)
      obtain ⟨_, _, c3, _, _, f3⟩ := h1.headCells
      have HD2 := Lib.hid h2
      have HX2 := Lib.hid (HXR.out.trans hx)
      clear hdr h1 h2 hx HDR HXR
      go_wp2_with fail
      exact bodyPost_end (results_none rfl _ _ _) rfl ⟨rfl, gr, HD2.out, HX2.out⟩

/-- what a crash keeps of a sector -/
def crOne (s : SecD) (q : Int) : SecD := if 0 < (q % (s.loose.length + 1)) then ⟨s.loose.getD ((q % (s.loose.length + 1)).toNat - 1) [], s.loose⟩ else s
/-- the first j loose sectors, each as it is kept -/
def crashTo (d : DiskD) (keep : List Int) : Nat → DiskD
  | 0 => d
  | j + 1 =>
    let D := crashTo d keep j
    let i := ((looseD d).getD j (0, 0)).1
    if j < keep.length ∧ 0 ≤ keep.getD j 0 then { D with l := D.l.set i (crOne (D.sec i) (keep.getD j 0)) } else D
def crashD (d : DiskD) (keep : List Int) : DiskD := onD (crashTo d keep (looseD d).length)
theorem crashTo_len (d : DiskD) (keep : List Int) (j : Nat) : (crashTo d keep j).l.length = d.l.length := by
  induction j with
  | zero => rfl
  | succ j ih =>
    unfold crashTo
    simp only
    split
    · simpa using ih
    · exact ih
theorem crOne_loose (s : SecD) (q : Int) : (crOne s q).loose = s.loose := by unfold crOne; split <;> rfl
theorem crashTo_loose (d : DiskD) (keep : List Int) (j i : Nat) : ((crashTo d keep j).sec i).loose = (d.sec i).loose := by
  induction j with
  | zero => rfl
  | succ j ih =>
    unfold crashTo
    simp only
    split
    · rw [← ih]
      unfold DiskD.sec
      simp only [List.getD_eq_getElem?_getD, List.getElem?_set]
      split
      · rename_i e
        split
        · rename_i h2
          simp only [Option.getD_some]
          rw [crOne_loose, e]
        · rename_i h2
          rw [List.getElem?_eq_none (by omega)]
      · rfl
    · exact ih
theorem looseTo_mem (d : DiskD) (n : Nat) (j : Nat) (h : j < (looseTo d n).length) : ((looseTo d n).getD j (0, 0)).1 < n ∧ ((looseTo d n).getD j (0, 0)).2 = (d.sec ((looseTo d n).getD j (0, 0)).1).loose.length ∧ 0 < ((looseTo d n).getD j (0, 0)).2 := by
  have hm : (looseTo d n).getD j (0, 0) ∈ looseTo d n := by rw [getD_lt h]; exact List.getElem_mem h
  generalize (looseTo d n).getD j (0, 0) = p at hm ⊢
  unfold looseTo at hm
  rw [List.mem_filterMap] at hm
  obtain ⟨i, hi, he⟩ := hm
  rw [List.mem_range] at hi
  by_cases hp : (d.sec i).loose.length > 0
  · rw [if_pos hp] at he
    simp only [Option.some.injEq] at he
    subst he
    exact ⟨hi, rfl, hp⟩
  · rw [if_neg hp] at he; cases he

/-- one of the loose versions made fast -/
theorem Dk.crashStep {w : World} {H : Nat} {d : DiskD} {g : DG} (h : Dk w H d g) (i : Nat) (hi : i < d.l.length) (n : Nat) (hn1 : 0 < n) (hn2 : n ≤ (d.sec i).loose.length) :
    ∃ gb c ox cx g', g.V i = .slice (some ⟨gb, 0, none⟩) (d.sec i).loose.length c ∧ (d.sec i).loose.length ≤ c ∧ c ≤ maxLen ∧ w.cell? ⟨gb, n - 1, none⟩ = some (.slice ox 256 cx) ∧
      Dk (w.setCell ⟨g.G, i * 2, none⟩ (.slice ox 256 cx)) H { d with l := d.l.set i ⟨(d.sec i).loose.getD (n - 1) [], (d.sec i).loose⟩ } g' ∧
      Ext (g.F H d.l.length) w (g'.F H d.l.length) (w.setCell ⟨g.G, i * 2, none⟩ (.slice ox 256 cx)) := by
  obtain ⟨gb, c, x, hv, hx, hbx⟩ := h.looseCell hi (j := n - 1) (by omega)
  obtain ⟨o, c', hv', hc1, hc2⟩ := h.sec_slice hi
  rw [hv] at hv'
  simp only [Value.slice.injEq] at hv'
  obtain ⟨_, _, rfl⟩ := hv'
  have hlen : ((d.sec i).loose.getD (n - 1) []).length = 256 := (h.sec i hi).llen _ (by rw [List.getD_eq_getElem?_getD, List.getElem?_eq_getElem (by omega)]; simp)
  obtain ⟨_, ox, cx, hxv, _, _, _, _⟩ := hbx.1
  rw [hlen] at hxv
  subst hxv
  refine ⟨gb, c, ox, cx, _, hv, hc1, hc2, hx, h.setU i hi _ _ hbx hlen, ?_⟩
  have x3 : Ext (g.F H d.l.length) w (g.F H d.l.length) (w.setCell ⟨g.G, i * 2, none⟩ (.slice ox 256 cx)) := ext_setCell (.inr (.inl rfl)) _ _
  refine ⟨x3.os, x3.tape, x3.output, x3.size, x3.block, fun b hb => .inl ?_⟩
  rcases hb with e | e | ⟨j, hj, e⟩ | e
  · exact .inl e
  · exact .inr (.inl e)
  · have e0 : (upd g.V i (g.V i) j).ownBlock = some b := e
    by_cases hij : j = i
    · subst hij; rw [upd_at] at e0; exact .inr (.inr (.inl ⟨j, hj, e0⟩))
    · rw [upd_ne _ _ hij] at e0; exact .inr (.inr (.inl ⟨j, hj, e0⟩))
  · exact .inr (.inr (.inr e))

theorem crashD_len (d : DiskD) (keep : List Int) : (crashD d keep).l.length = d.l.length := by unfold crashD; rw [onD_len, crashTo_len]

end Go.Proofs.YtccfiohcblecoaaDoor
