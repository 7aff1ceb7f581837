/- Contracts of the disk's small functions: Size, Off, Fuse, spend, at, Read. -/
import Derived.Test.YtoikdhfihkbcbaaDoorDskM
import Derived.Test.YtoikdhfihkbcbaaDoorClone
import Derived.Test.YtoikdhfihkbcbaaDoorErC
import Derived.Deep.RegionLaw
namespace Go.Proofs.YtoikdhfihkbcbaaDoor
open Go.RowKit
set_option linter.unusedVariables false

/-- the errors that a disk tells -/
structure D3 (ea : Nat → Addr) (w : World) : Prop where
  o : w.cell? ⟨4, 0, none⟩ = some (.iface 124 (.pointer (some (ea 0))))
  r : w.cell? ⟨0, 0, none⟩ = some (.iface 124 (.pointer (some (ea 1))))
  s : w.cell? ⟨1, 0, none⟩ = some (.iface 124 (.pointer (some (ea 2))))
theorem D3.below {ea : Nat → Addr} {w w' : World} (h : D3 ea w) (hb : Below w.heap.size w w') : D3 ea w' :=
  ⟨(hb.cell (Below.lt h.o)).trans h.o, (hb.cell (Below.lt h.r)).trans h.r, (hb.cell (Below.lt h.s)).trans h.s⟩
theorem Sen.d3 {ea : Nat → Addr} {w : World} (h : Sen ea w) : D3 ea w := ⟨h.cell 0 (by decide), h.cell 1 (by decide), h.cell 2 (by decide)⟩

/-- spend: the answer, and the disk behind it -/
theorem dskSpend {w : World} {H : Nat} {d : DiskD} {g : DG} (h : Dk w H d g) :
    Calls Tryd.prog 61 #[.pointer (some ⟨H, 0, none⟩)] w fun e w' => e = .returned (.bool (spendB d)) ∧ Dk w' H (spendD d) g ∧ Ext (g.F H d.l.length) w (g.F H d.l.length) w' := by
  obtain ⟨c0, c1, c2, f0, f1, f2⟩ := h.headCells
  have hm := h.f1
  have hM := h.f2
  have HK := Lib.hid h
  have HO := Lib.hid (h.setOff true)
  have HE1 : Hid (Ext (g.F H d.l.length) w (g.F H d.l.length) (w.setCell ⟨H, 1, none⟩ (.bool true))) := Lib.hid (ext_setCell (.inl rfl) 1 _)
  have HE2 : Hid (Ext (g.F H d.l.length) w (g.F H d.l.length) (w.setCell ⟨H, 2, none⟩ (.int .i64 (d.fuse - 1)))) := Lib.hid (ext_setCell (.inl rfl) 2 _)
  have hf : 0 < d.fuse → Dk (w.setCell ⟨H, 2, none⟩ (.int .i64 (d.fuse - 1))) H { d with fuse := d.fuse - 1 } g := fun hp => h.setFuse (d.fuse - 1) (by omega) (by omega)
  have HF := Lib.hid hf
  clear h hf
  by_cases h0 : d.fuse < 0
  · have e1 : spendB d = true := by simp [spendB]; omega
    have e2 : spendD d = d := by unfold spendD; rw [if_pos h0]
    rw [e1, e2]
    clear e1 e2
    obtain ⟨n, hn⟩ : ∃ n, n = d.fuse := ⟨_, rfl⟩
    rw [← hn] at c2 h0 hm hM
    clear hn
    go_enter Tryd.func61, Tryd.ntmps61
    go_wp2_with fail
    go_ret
    exact ⟨rfl, HK.out, Ext.refl _ _⟩
  · by_cases h1 : d.fuse = 0
    · have e1 : spendB d = false := by simp [spendB, h1]
      have e2 : spendD d = { d with off := true } := by unfold spendD; rw [if_neg h0, if_pos h1]
      rw [e1, e2]
      rw [h1] at c2
      clear e1 e2 h0 h1 hm hM
      go_enter Tryd.func61, Tryd.ntmps61
      go_wp2_with fail
      go_ret
      exact ⟨rfl, HO.out, HE1.out⟩
    · have e1 : spendB d = true := by simp [spendB, h1]
      have e2 : spendD d = { d with fuse := d.fuse - 1 } := by unfold spendD; rw [if_neg h0, if_neg h1]
      rw [e1, e2]
      have hpos : 0 < d.fuse := by omega
      have HF2 := Lib.hid (HF.out hpos)
      clear e1 e2 HF h0 h1
      obtain ⟨n, hn⟩ : ∃ n, n = d.fuse := ⟨_, rfl⟩
      rw [← hn] at c2 hpos hm hM HE2 HF2 ⊢
      clear hn
      go_enter Tryd.func61, Tryd.ntmps61
      go_wp2_with fail
      go_ret
      exact ⟨rfl, HF2.out, HE2.out⟩

/-- at: the sector's address, or none -/
theorem dskAt {w : World} {H : Nat} {d : DiskD} {g : DG} (h : Dk w H d g) (i : Int) (h1 : -9223372036854775808 ≤ i) (h2 : i ≤ 9223372036854775807) :
    Calls Tryd.prog 59 #[.pointer (some ⟨H, 0, none⟩), .int .i64 i] w fun e w' => e = .returned (.pointer (cond (d.has i) (some ⟨g.G, i.toNat * 2, none⟩) none)) ∧ w = w' := by
  obtain ⟨c0, c1, c2, f0, f1, f2⟩ := h.headCells
  have hc := h.capn
  have hn := h.n2
  unfold DiskD.has
  clear h
  generalize d.l.length = n at *
  by_cases hi : 0 ≤ i
  · obtain ⟨k, rfl⟩ := Int.eq_ofNat_of_zero_le hi
    by_cases hk : (k : Int) < n
    · have e : (decide ((0 : Int) ≤ (k : Int)) && decide ((k : Int) < (n : Int))) = true := by simp; omega
      rw [e]
      clear e
      go_enter Tryd.func59, Tryd.ntmps59
      go_wp2_with fail
      go_ret
      exact ⟨rfl, rfl⟩
    · have e : (decide ((0 : Int) ≤ (k : Int)) && decide ((k : Int) < (n : Int))) = false := by simp; omega
      rw [e]
      clear e
      go_enter Tryd.func59, Tryd.ntmps59
      go_wp2_with fail
      go_ret
      exact ⟨rfl, rfl⟩
  · have e : (decide ((0 : Int) ≤ i) && decide (i < (n : Int))) = false := by simp; omega
    rw [e]
    clear e
    go_enter Tryd.func59, Tryd.ntmps59
    go_wp2_with fail
    go_ret
    exact ⟨rfl, rfl⟩

theorem Dk.sec_slice {w : World} {H : Nat} {d : DiskD} {g : DG} (h : Dk w H d g) {i : Nat} (hi : i < d.l.length) :
    ∃ o c, g.V i = .slice o (d.sec i).loose.length c ∧ (d.sec i).loose.length ≤ c ∧ c ≤ maxLen := by
  obtain ⟨xs, h1, _⟩ := (h.sec i hi).loose
  rcases h1.2 with ⟨hv, hn⟩ | ⟨gb, cap, cur, hv, _, _, hc, hm, _⟩
  · exact ⟨none, 0, by rw [hv, hn], by omega, by simp [maxLen]⟩
  · exact ⟨some ⟨gb, 0, none⟩, cap, hv, hc, hm⟩
/-- the loose versions' cells -/
theorem Dk.looseCell {w : World} {H : Nat} {d : DiskD} {g : DG} (h : Dk w H d g) {i : Nat} (hi : i < d.l.length) {j : Nat} (hj : j < (d.sec i).loose.length) :
    ∃ gb c x, g.V i = .slice (some ⟨gb, 0, none⟩) (d.sec i).loose.length c ∧ w.cell? ⟨gb, j, none⟩ = some x ∧ BsR w g.R x ((d.sec i).loose.getD j []) := by
  obtain ⟨xs, h1, h2⟩ := (h.sec i hi).loose
  rcases h1.2 with ⟨hv, hn⟩ | ⟨gb, cap, cur, hv, _, hg, hc, hm, hcs, ht⟩
  · omega
  · refine ⟨gb, cap, xs.getD j undef, hv, ?_, h2 j hj⟩
    rw [cell_of_row w gb _ _ _ (0, 0) hg, ← ht]
    have hl : j < cur.size := by omega
    rw [List.getD_eq_getElem?_getD, List.getElem?_take, if_pos (by omega)]
    simp [hl]

theorem getLastD_eq {α : Type} (l : List α) (a d : α) (h : 0 < l.length) : l.getLastD a = l.getD (l.length - 1) d := by
  rw [List.getLastD_eq_getLast?, List.getLast?_eq_getElem?, List.getD_eq_getElem?_getD, List.getElem?_eq_getElem (by omega)]
  rfl

set_option maxHeartbeats 1000000 in
/-- Read -/
theorem dskRead {ea : Nat → Addr} {w : World} {H : Nat} {d : DiskD} {g : DG} (h : Dk w H d g) (hs : D3 ea w) (i : Int) (h1 : -9223372036854775808 ≤ i) (h2 : i ≤ 9223372036854775807) :
    Calls Tryd.prog 62 #[.pointer (some ⟨H, 0, none⟩), .int .i64 i] w fun e w' => (∃ v, e = .returned (.tuple #[v, eC ea (readC d i)]) ∧ Ob 5 w.heap.size w' v (readL d i)) ∧ Below w.heap.size w w' := by
  obtain ⟨c0, c1, c2, f0, f1, f2⟩ := h.headCells
  have hat := dskAt h i h1 h2
  have e0 := hs.o
  have e1 := hs.r
  have HAT := Lib.hid hat
  clear hat hs
  cases ho : d.off with
  | true =>
    have hc : readC d i = 101 := by simp [readC, ho]
    have hl : readL d i = [] := by simp [readL, ho]
    rw [hc, hl]
    rw [ho] at c1
    clear hc hl h
    go_enter Tryd.func62, Tryd.ntmps62
    go_wp2_with fail
    refine HAT.out.mono ?_
    rintro e w1 ⟨rfl, rfl⟩
    go_wp2_with fail
    go_region
    all_goals
      go_wp2_with fail
      go_ret2
      exact ⟨⟨_, rfl, Ob.nil⟩, bdrew _ _ _⟩
  | false =>
    rw [ho] at c1
    cases hh : d.has i with
    | false =>
      have hc : readC d i = 102 := by simp [readC, ho, hh]
      have hl : readL d i = [] := by simp [readL, ho, hh]
      rw [hc, hl]
      rw [hh] at HAT
      dsimp only [cond] at HAT
      clear hc hl h
      go_enter Tryd.func62, Tryd.ntmps62
      go_wp2_with fail
      refine HAT.out.mono ?_
      rintro e w1 ⟨rfl, rfl⟩
      go_wp2_with fail
      go_region
      all_goals
        go_wp2_with fail
        go_ret2
        exact ⟨⟨_, rfl, Ob.nil⟩, bdrew _ _ _⟩
    | true =>
      have hc : readC d i = 0 := by simp [readC, ho, hh]
      have hl : readL d i = topS (d.sec i.toNat) := by simp [readL, ho, hh]
      rw [hc, hl, eC_zero]
      rw [hh] at HAT
      dsimp only [cond] at HAT
      have hh' : 0 ≤ i ∧ i < d.l.length := by simpa [DiskD.has] using hh
      have hk : i.toNat < d.l.length := by omega
      clear hc hl hh hh'
      generalize i.toNat = k at *
      obtain ⟨s0, s1, sf⟩ := h.secCells hk
      obtain ⟨o, c, hv, hc1, hc2⟩ := h.sec_slice hk
      unfold maxLen at hc2
      have hmany := (h.sec k hk).many
      by_cases hz : (d.sec k).loose.length = 0
      · have ht : topS (d.sec k) = (d.sec k).fast := by unfold topS; rw [List.length_eq_zero_iff.1 hz]; rfl
        rw [ht]
        have hcl := clone (g.U k) (d.sec k).fast w (h.sec k hk).fast.1 (by rw [(h.sec k hk).flen]; omega)
        have HCL := Lib.hid hcl
        rw [hv, hz] at s1
        clear ht hcl h hv hz hmany hc1
        go_enter Tryd.func62, Tryd.ntmps62
        go_wp2_with fail
        refine HAT.out.mono ?_
        rintro e w1 ⟨rfl, rfl⟩
        go_wp2_with fail
        refine HCL.out.mono ?_
        rintro e w1 ⟨v, rfl, hb, hob⟩
        go_wp2_with fail
        go_ret2
        exact ⟨⟨_, rfl, hob⟩, hb⟩
      · have hpos : 0 < (d.sec k).loose.length := by omega
        obtain ⟨gb, cb, x, hv2, hx, hbx⟩ := h.looseCell hk (j := (d.sec k).loose.length - 1) (by omega)
        have ht : topS (d.sec k) = (d.sec k).loose.getD ((d.sec k).loose.length - 1) [] := getLastD_eq _ _ _ hpos
        rw [ht]
        have hlen : ((d.sec k).loose.getD ((d.sec k).loose.length - 1) []).length = 256 := (h.sec k hk).llen _ (by rw [List.getD_eq_getElem?_getD, List.getElem?_eq_getElem (by omega)]; simp)
        have hcl := clone x _ w.drew (hbx.1.below ((Below.refl _ _).drew)) (by rw [hlen]; omega)
        have HCL := Lib.hid hcl
        rw [hv] at hv2
        simp only [Value.slice.injEq] at hv2
        obtain ⟨rfl, _, rfl⟩ := hv2
        rw [hv] at s1
        generalize (d.sec k).loose.getD ((d.sec k).loose.length - 1) [] = bl at HCL ⊢
        generalize (d.sec k).loose.length = n at *
        clear ht hlen hcl h hv hz hbx
        have hn1 : IntKind.i64.wrap ((n : Int) - 1) = (n : Int) - 1 := by rw [IntKind.wrap_i64]; omega
        have K := Lib.hid (fun Z (hz : Below w.drew.heap.size w.drew Z) => (show Z.cell? ⟨g.G, k * 2 + 1, none⟩ = some (.slice (some ⟨gb, 0, none⟩) n c) ∧ Z.cell? ⟨gb, n - 1, none⟩ = some x from ⟨(hz.cell (p := ⟨g.G, k * 2 + 1, none⟩) (Below.lt s1)).trans s1, (hz.cell (p := ⟨gb, n - 1, none⟩) (Below.lt hx)).trans hx⟩))
        have hn2 : (0 : Int) ≤ (n : Int) - 1 := by omega
        have hn5 : (1 : Int) ≤ (n : Int) := by omega
        have hn3 : (n : Int) - 1 < (n : Int) := by omega
        have hn4 : ((n : Int) - 1).toNat = n - 1 := by omega
        go_enter Tryd.func62, Tryd.ntmps62
        go_wp2_with fail
        refine HAT.out.mono ?_
        rintro e w1 ⟨rfl, rfl⟩
        go_wp2_with fail
        go_region_law ((first | (go_simp; go_at_call 60; refine HCL.out.mono ?_; rintro e w1 ⟨v, rfl, hb, hob⟩)))
        all_goals
          go_wp2_with fail
          go_ret2
          exact ⟨⟨_, rfl, hob⟩, ((Below.refl _ _).drew).trans hb⟩
end Go.Proofs.YtoikdhfihkbcbaaDoor
