/- Contracts of the disk's Sync and on. -/
import Derived.Test.YtoikdhfihkbcbaaDoorDskW
namespace Go.Proofs.YtoikdhfihkbcbaaDoor
open Go.RowKit
set_option linter.unusedVariables false

/-- the first k sectors turned by f -/
def mapTo (f : SecD → SecD) (d : DiskD) (k : Nat) : DiskD := { d with l := (d.l.take k).map f ++ d.l.drop k }
theorem mapTo_len (f : SecD → SecD) (d : DiskD) (k : Nat) : (mapTo f d k).l.length = d.l.length := by simp [mapTo]; omega
theorem mapTo_zero (f : SecD → SecD) (d : DiskD) : mapTo f d 0 = d := by simp [mapTo]
theorem mapTo_all (f : SecD → SecD) (d : DiskD) : mapTo f d d.l.length = { d with l := d.l.map f } := by simp [mapTo]
theorem mapTo_sec (f : SecD → SecD) (d : DiskD) (k : Nat) (hk : k < d.l.length) : (mapTo f d k).sec k = d.sec k := by
  unfold DiskD.sec mapTo
  rw [List.getD_eq_getElem?_getD, List.getD_eq_getElem?_getD, List.getElem?_append_right (by simp; omega)]
  simp [Nat.min_eq_left (Nat.le_of_lt hk)]
theorem mapTo_succ (f : SecD → SecD) (d : DiskD) (k : Nat) (hk : k < d.l.length) : mapTo f d (k + 1) = { mapTo f d k with l := (mapTo f d k).l.set k (f ((mapTo f d k).sec k)) } := by
  rw [mapTo_sec f d k hk]
  unfold mapTo
  congr 1
  rw [List.take_succ_eq_append_getElem hk, List.map_append, List.set_append_right _ _ (by simp; omega)]
  have e : k - ((d.l.take k).map f).length = 0 := by simp; omega
  rw [e, List.drop_eq_getElem_cons hk, List.set_cons_zero]
  have e2 : d.sec k = d.l[k] := by simp [DiskD.sec, List.getD_eq_getElem?_getD, hk]
  rw [e2, List.append_assoc]
  rfl
theorem set_self {d : DiskD} {k : Nat} (hk : k < d.l.length) : d.l.set k (d.sec k) = d.l := by
  apply List.ext_getElem?
  intro i
  rw [List.getElem?_set]
  split
  · rename_i e; subst e; simp [hk, DiskD.sec, List.getD_eq_getElem?_getD]
  · rfl

/-- a sector synced that has loose versions -/
theorem Dk.syncStep {w : World} {H : Nat} {d : DiskD} {g : DG} (h : Dk w H d g) (k : Nat) (hk : k < d.l.length) (hpos : 0 < (d.sec k).loose.length) :
    ∃ gb c ox cx g', g.V k = .slice (some ⟨gb, 0, none⟩) (d.sec k).loose.length c ∧ (d.sec k).loose.length ≤ c ∧ c ≤ maxLen ∧ w.cell? ⟨gb, (d.sec k).loose.length - 1, none⟩ = some (.slice ox 256 cx) ∧
      (w.setCell ⟨g.G, k * 2, none⟩ (.slice ox 256 cx)).cell? ⟨g.G, k * 2 + 1, none⟩ = some (g.V k) ∧ (w.setCell ⟨g.G, k * 2, none⟩ (.slice ox 256 cx)).frozen? ⟨g.G, k * 2 + 1, none⟩ = false ∧
      Dk ((w.setCell ⟨g.G, k * 2, none⟩ (.slice ox 256 cx)).setCell ⟨g.G, k * 2 + 1, none⟩ (.slice none 0 0)) H { d with l := d.l.set k (syncS (d.sec k)) } g' ∧
      Ext (g.F H d.l.length) w (g'.F H d.l.length) ((w.setCell ⟨g.G, k * 2, none⟩ (.slice ox 256 cx)).setCell ⟨g.G, k * 2 + 1, none⟩ (.slice none 0 0)) := by
  obtain ⟨gb, c, x, hv, hx, hbx⟩ := h.looseCell hk (j := (d.sec k).loose.length - 1) (by omega)
  obtain ⟨o, c', hv', hc1, hc2⟩ := h.sec_slice hk
  rw [hv] at hv'
  simp only [Value.slice.injEq] at hv'
  obtain ⟨_, _, rfl⟩ := hv'
  have htop : topS (d.sec k) = (d.sec k).loose.getD ((d.sec k).loose.length - 1) [] := getLastD_eq _ _ _ hpos
  have hlen : ((d.sec k).loose.getD ((d.sec k).loose.length - 1) []).length = 256 := (h.sec k hk).llen _ (by rw [List.getD_eq_getElem?_getD, List.getElem?_eq_getElem (by omega)]; simp)
  rw [← htop] at hlen hbx
  obtain ⟨_, ox, cx, hxv, _, _, _, _⟩ := hbx.1
  rw [hlen] at hxv
  subst hxv
  have h1 := h.setU k hk _ _ hbx hlen
  have hk1 : k < ({ d with l := d.l.set k ⟨topS (d.sec k), (d.sec k).loose⟩ } : DiskD).l.length := by simpa using hk
  have h2 := h1.setV0 k hk1
  obtain ⟨_, s1, sf⟩ := h1.secCells hk1
  have hs1 : ({ d with l := d.l.set k ⟨topS (d.sec k), (d.sec k).loose⟩ } : DiskD).sec k = ⟨topS (d.sec k), (d.sec k).loose⟩ := by simp [DiskD.sec, List.getD_eq_getElem?_getD, hk]
  rw [hs1] at h2
  have e2 : ({ ({ d with l := d.l.set k ⟨topS (d.sec k), (d.sec k).loose⟩ } : DiskD) with l := ({ d with l := d.l.set k ⟨topS (d.sec k), (d.sec k).loose⟩ } : DiskD).l.set k ⟨(⟨topS (d.sec k), (d.sec k).loose⟩ : SecD).fast, []⟩ } : DiskD) = { d with l := d.l.set k (syncS (d.sec k)) } := by
    simp [List.set_set, syncS]
  rw [e2] at h2
  refine ⟨gb, c, ox, cx, _, hv, hc1, hc2, hx, ?_, sf _, h2, ?_⟩
  · have : upd g.V k (g.V k) k = g.V k := upd_at _ _ _
    rw [← this]; exact s1
  · have hG : g.F H d.l.length g.G := .inr (.inl rfl)
    have x1 : Ext (g.F H d.l.length) w (g.F H d.l.length) (w.setCell ⟨g.G, k * 2, none⟩ (.slice ox 256 cx)) := ext_setCell hG _ _
    have x2 : Ext (g.F H d.l.length) (w.setCell ⟨g.G, k * 2, none⟩ (.slice ox 256 cx)) (g.F H d.l.length) ((w.setCell ⟨g.G, k * 2, none⟩ (.slice ox 256 cx)).setCell ⟨g.G, k * 2 + 1, none⟩ (.slice none 0 0)) := ext_setCell hG _ _
    have x3 := x1.trans x2
    refine ⟨x3.os, x3.tape, x3.output, x3.size, x3.block, fun b hb => .inl ?_⟩
    rcases hb with e | e | ⟨i, hi, e⟩ | e
    · exact .inl e
    · exact .inr (.inl e)
    · by_cases hik : i = k
      · subst hik
        have e0 : (upd (upd g.V i (g.V i)) i (.slice none 0 0) i).ownBlock = some b := e
        rw [upd_at] at e0
        simp [Value.ownBlock] at e0
      · have e0 : (upd (upd g.V k (g.V k)) k (.slice none 0 0) i).ownBlock = some b := e
        rw [upd_ne _ _ hik, upd_ne _ _ hik] at e0
        exact .inr (.inr (.inl ⟨i, hi, e0⟩))
    · exact .inr (.inr (.inr e))

/-- a sector's loose versions gone, and memory -/
theorem Dk.clrStep {w : World} {H : Nat} {d : DiskD} {g : DG} (h : Dk w H d g) (k : Nat) (hk : k < d.l.length) :
    ∃ g', Dk (w.setCell ⟨g.G, k * 2 + 1, none⟩ (.slice none 0 0)) H { d with l := d.l.set k ⟨(d.sec k).fast, []⟩ } g' ∧ Ext (g.F H d.l.length) w (g'.F H d.l.length) (w.setCell ⟨g.G, k * 2 + 1, none⟩ (.slice none 0 0)) := by
  refine ⟨_, h.setV0 k hk, ?_⟩
  have x3 : Ext (g.F H d.l.length) w (g.F H d.l.length) (w.setCell ⟨g.G, k * 2 + 1, none⟩ (.slice none 0 0)) := ext_setCell (.inr (.inl rfl)) _ _
  refine ⟨x3.os, x3.tape, x3.output, x3.size, x3.block, fun b hb => .inl ?_⟩
  rcases hb with e | e | ⟨i, hi, e⟩ | e
  · exact .inl e
  · exact .inr (.inl e)
  · by_cases hik : i = k
    · subst hik
      have e0 : (upd g.V i (.slice none 0 0) i).ownBlock = some b := e
      rw [upd_at] at e0
      simp [Value.ownBlock] at e0
    · have e0 : (upd g.V k (.slice none 0 0) i).ownBlock = some b := e
      rw [upd_ne _ _ hik] at e0
      exact .inr (.inr (.inl ⟨i, hi, e0⟩))
  · exact .inr (.inr (.inr e))

theorem syncD_len (d : DiskD) : (syncD d).l.length = d.l.length := by
  unfold syncD
  split
  · rfl
  · split
    · simp
    · rw [spendD_len]
theorem spendD_l (d : DiskD) : (spendD d).l = d.l := by
  unfold spendD
  split
  · rfl
  · split <;> rfl

set_option maxRecDepth 20000 in
set_option maxHeartbeats 2000000 in
theorem dskSync {ea : Nat → Addr} {w : World} {H : Nat} {d : DiskD} {g : DG} (h : Dk w H d g) (hs : D3 ea w) (hg : ¬ g.F H d.l.length 4) :
    Calls Tryd.prog 58 #[.pointer (some ⟨H, 0, none⟩)] w fun e w' => e = .returned (eC ea (syncC d)) ∧ ∃ g', Dk w' H (syncD d) g' ∧ Ext (g.F H d.l.length) w (g'.F H (syncD d).l.length) w' := by
  obtain ⟨c0, c1, c2, f0, f1, f2⟩ := h.headCells
  have e0 := hs.o
  have HE0 := Lib.hid (fun (F' : Nat → Prop) (W : World) (he : Ext (g.F H d.l.length) w F' W) => (World.cell?_of_block (a := ⟨4, 0, none⟩) (he.block _ (Below.lt e0) hg)).trans e0)
  rw [syncD_len]
  cases ho : d.off with
  | true =>
    have hc : syncC d = 101 := by simp [syncC, ho]
    have hd : syncD d = d := by simp [syncD, ho]
    rw [hc, hd]
    rw [ho] at c1
    have HK := Lib.hid h
    clear hc hd h hs HE0
    go_enter Tryd.func58, Tryd.ntmps58
    go_wp2_with fail
    go_ret
    exact ⟨rfl, _, HK.out, Ext.refl _ _⟩
  | false =>
    have hsp := dskSpend h
    rw [ho] at c1
    have hn1 := h.n1
    have hn2 := h.n2
    clear h hs c0 c2 f0 f1 f2
    cases hq : spendB d with
    | false =>
      have hc : syncC d = 101 := by simp [syncC, ho, hq]
      have hd : syncD d = spendD d := by simp [syncD, ho, hq]
      rw [hc, hd]
      rw [hq] at hsp
      have HSP := Lib.hid hsp
      clear hc hd hsp hq
      go_enter Tryd.func58, Tryd.ntmps58
      go_wp2_with fail
      refine HSP.out.mono ?_
      rintro e w1 ⟨rfl, hd1, hx1⟩
      have HD1 := Lib.hid hd1
      have HX1 := Lib.hid hx1
      have hE := HE0.out _ _ hx1
      clear hd1 hx1 HSP
      go_wp2_with fail
      go_ret
      exact ⟨rfl, _, HD1.out, HX1.out⟩
    | true =>
      have hc : syncC d = 0 := by simp [syncC, ho, hq]
      have hd : syncD d = { spendD d with l := d.l.map syncS } := by simp [syncD, ho, hq]
      rw [hc, hd, eC_zero, ← spendD_l d, ← mapTo_all, spendD_l d]
      rw [hq] at hsp
      have HSP := Lib.hid hsp
      have hl := spendD_len d
      obtain ⟨n, hnn⟩ : ∃ n, n = d.l.length := ⟨_, rfl⟩
      have HNN := Lib.hid hnn
      have HLN : Hid ((spendD d).l.length = n) := Lib.hid (by rw [hl, hnn])
      rw [← hnn] at hn1 hn2
      clear hc hd hsp hq hl hnn HE0 hg e0
      go_enter Tryd.func58, Tryd.ntmps58
      go_wp2_with fail
      refine HSP.out.mono ?_
      rintro e w1 ⟨rfl, hd1, hx1⟩
      obtain ⟨c0, _, _, _, _, _⟩ := hd1.headCells
      have hcp := hd1.capn
      have hcm := hd1.capm
      unfold maxLen at hcm
      rw [HLN.out] at c0 hcp
      rw [← mapTo_zero syncS (spendD d)] at hd1
      have HD1 := Lib.hid hd1
      have HX1 := Lib.hid hx1
      clear hd1 hx1 HSP c1
      go_wp2_with fail
      clear c0
      go_loopw [21] (fun i wr => ∃ k : Nat, i = .int .i64 k ∧ (k : Int) ≤ n ∧ ∃ gr, Hid (Dk wr H (mapTo syncS (spendD d) k) gr) ∧ Hid (Ext (g.F H d.l.length) w (gr.F H d.l.length) wr)) (fun i _ => n - (intOf i).toNat)
      case atStart => exact ⟨0, rfl, by omega, g, HD1, HX1⟩
      case round =>
        obtain ⟨k, rfl, hk, gr, HDR, HXR⟩ := hrel
        have hml : (mapTo syncS (spendD d) k).l.length = n := by rw [mapTo_len, HLN.out]
        by_cases hk2 : (k : Int) < n
        · have hkn : k < (mapTo syncS (spendD d) k).l.length := by rw [hml]; omega
          obtain ⟨c0, _, _, _, _, _⟩ := HDR.out.headCells
          have hcp := HDR.out.capn
          have hcm := HDR.out.capm
          unfold maxLen at hcm
          rw [hml] at c0 hcp
          obtain ⟨s0, s1, sf⟩ := HDR.out.secCells hkn
          have sf0 := sf (k * 2)
          obtain ⟨ov, cv, hV, hV1, hV2⟩ := HDR.out.sec_slice hkn
          unfold maxLen at hV2
          have hsc := mapTo_succ syncS (spendD d) k (by rw [HLN.out]; omega)
          by_cases hz : ((mapTo syncS (spendD d) k).sec k).loose.length = 0
          · have heq : mapTo syncS (spendD d) (k + 1) = mapTo syncS (spendD d) k := by
              rw [hsc]
              have : syncS ((mapTo syncS (spendD d) k).sec k) = (mapTo syncS (spendD d) k).sec k := by
                have hl := List.length_eq_zero_iff.1 hz
                generalize (mapTo syncS (spendD d) k).sec k = s at hl ⊢
                obtain ⟨f, l⟩ := s
                simp only at hl
                subst hl
                rfl
              rw [this, set_self hkn]
            have HDN : Hid (Dk wr H (mapTo syncS (spendD d) (k + 1)) gr) := Lib.hid (by rw [heq]; exact HDR.out)
            rw [hV, hz] at s1
            clear heq hsc hz hkn hml HDR hV1 hV2 hV sf
            go_wp2_with fail
            go_roundw
            case rel => exact ⟨k + 1, by go_num, by omega, gr, HDN, HXR⟩
            case measure => simp [intOf]; omega
          · have hpos : 0 < ((mapTo syncS (spendD d) k).sec k).loose.length := by omega
            obtain ⟨gb, c, ox, cx, g', hv, hc1, hc2, hx, hw1, hw2, hdn, hxn⟩ := HDR.out.syncStep k hkn hpos
            rw [← hsc] at hdn
            rw [hml, HNN.out] at hxn
            have HDN := Lib.hid hdn
            have HXN := Lib.hid (HXR.out.trans hxn)
            have hm := (HDR.out.sec k hkn).many
            rw [hv] at s1 hw1
            unfold maxLen at hc2
            generalize ((mapTo syncS (spendD d) k).sec k).loose.length = m at *
            have hm1 : IntKind.i64.wrap ((m : Int) - 1) = (m : Int) - 1 := by rw [IntKind.wrap_i64]; omega
            clear hsc hkn hml HDR hV1 hV2 hV sf hdn hxn HXR hv
            go_wp2_with fail
            go_roundw
            case rel => exact ⟨k + 1, by go_num, by omega, g', HDN, HXN⟩
            case measure => simp [intOf]; omega
        · obtain rfl : k = n := by omega
          have hdr := HDR.out
          rw [HNN.out] at hdr
          have HDZ := Lib.hid hdr
          clear hdr HDR
          go_wp2_with fail
          go_ret
          exact ⟨rfl, gr, HDZ.out, HXR.out⟩
end Go.Proofs.YtoikdhfihkbcbaaDoor
