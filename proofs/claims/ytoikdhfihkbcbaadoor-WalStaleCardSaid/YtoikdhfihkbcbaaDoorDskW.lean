/- Contract of the disk's Write. -/
import Derived.Test.YtoikdhfihkbcbaaDoorDskB
import Derived.Lib.AppendZeros
import Derived.Deep.RegionLaw
namespace Go.Proofs.YtoikdhfihkbcbaaDoor
open Go.RowKit
set_option linter.unusedVariables false

/-- an append whose run is known, at a step of a region that draws -/
theorem step_append_run {P : Program} (w : World) {ops : Array Oper} {o : Oper} {a : Act} {K : Act → World → Prop} {Q : Exit → Act → World → Prop} {E : Prop} (hgd : o.guard = none) (s x : Operand) (t tn : TypeId)
    (ho : o.op = .call { callee := .builtin .append, args := #[s, x], argTypes := #[t, tn] }) (vs vx : Value) (hs : a.eval s = vs) (hx : a.eval x = vx)
    (v' : Value) (w' : World) (hr : (Builtin.append_ #[t, tn] o.type #[vs, vx]).run P w = .ok v' w') (h : K (a.put o.dst v') w') : if Region.wanted o (yielded ops a.tmps) = true then Oper.wp P o a w K Q else E := by
  have hw : Region.wanted o (yielded ops a.tmps) = true := by simp [Region.wanted, hgd]
  rw [if_pos hw]
  exact Lib.wp_append_run w s x t tn ho vs vx hs hx v' w' hr h

theorem addL_len (d : DiskD) (k : Nat) (b : List Int) : (addL d k b).l.length = d.l.length := by simp [addL]
theorem spendD_len (d : DiskD) : (spendD d).l.length = d.l.length := by
  unfold spendD
  split
  · rfl
  · split <;> rfl
theorem writeD_len (d : DiskD) (i : Int) (b : List Int) : (writeD d i b).l.length = d.l.length := by
  unfold writeD
  split; · rfl
  split
  · split
    · rw [spendD_len, addL_len]
    · rfl
  · rfl

set_option maxRecDepth 20000 in
set_option maxHeartbeats 2000000 in
theorem dskWrite {ea : Nat → Addr} {w : World} {H : Nat} {d : DiskD} {g : DG} (h : Dk w H d g) (hs : D3 ea w) (hg : ¬ g.F H d.l.length 4) (i : Int) (h1 : -9223372036854775808 ≤ i) (h2 : i ≤ 9223372036854775807) (v : Value) (b : List Int) (hv : Bs w v b)
    (hm : (d.sec i.toNat).loose.length < 1000000) :
    Calls Tryd.prog 32 #[.pointer (some ⟨H, 0, none⟩), .int .i64 i, v] w fun e w' => e = .returned (eC ea (writeC d i b)) ∧ ∃ g', Dk w' H (writeD d i b) g' ∧ Ext (g.F H d.l.length) w (g'.F H (writeD d i b).l.length) w' := by
  obtain ⟨c0, c1, c2, f0, f1, f2⟩ := h.headCells
  have hat := dskAt h i h1 h2
  have e0 := hs.o
  have e1 := hs.r
  have e2 := hs.s
  have hg0 := hg
  have HAT := Lib.hid hat
  have hv' := hv
  obtain ⟨_, ov, cv, rfl, hcv1, hcv2, _, _⟩ := hv
  unfold maxLen at hcv2
  clear hat hs hg
  cases ho : d.off with
  | true =>
    have hc : writeC d i b = 101 := by simp [writeC, ho]
    have hd : writeD d i b = d := by simp [writeD, ho]
    rw [hc, hd]
    rw [ho] at c1
    have HK := Lib.hid h
    clear hc hd h hm hv'
    generalize b.length = bl at *
    go_enter Tryd.func32, Tryd.ntmps32
    go_wp2_with fail
    refine HAT.out.mono ?_
    rintro e w1 ⟨rfl, rfl⟩
    go_wp2_with fail
    go_ret
    exact ⟨rfl, _, HK.out, Ext.refl _ _⟩
  | false =>
    rw [ho] at c1
    cases hh : d.has i with
    | false =>
      have hc : writeC d i b = 102 := by simp [writeC, ho, hh]
      have hd : writeD d i b = d := by simp [writeD, ho, hh]
      rw [hc, hd]
      rw [hh] at HAT
      dsimp only [cond] at HAT
      have HK := Lib.hid h
      clear hc hd h hm hv'
      generalize b.length = bl at *
      go_enter Tryd.func32, Tryd.ntmps32
      go_wp2_with fail
      refine HAT.out.mono ?_
      rintro e w1 ⟨rfl, rfl⟩
      go_wp2_with fail
      go_ret
      exact ⟨rfl, _, HK.out, Ext.refl _ _⟩
    | true =>
      rw [hh] at HAT
      dsimp only [cond] at HAT
      by_cases hl : b.length = 256
      · have hc : writeC d i b = cond (spendB d) 0 101 := by unfold writeC; rw [ho, hh]; cases spendB d <;> simp [hl]
        have hd : writeD d i b = spendD (addL d i.toNat b) := by simp [writeD, ho, hh, hl]
        rw [hc, hd]
        have hh' : 0 ≤ i ∧ i < d.l.length := by simpa [DiskD.has] using hh
        have hk : i.toNat < d.l.length := by omega
        clear hc hd hh hh'
        generalize i.toNat = k at *
        obtain ⟨s0, s1, sf⟩ := h.secCells hk
        have sf1 := sf (k * 2 + 1)
        have hcl := clone _ b w.drew (hv'.below ((Below.refl _ _).drew)) (by omega)
        have hwr := (fun (W : World) (x : Value) (hb : Below w.drew.heap.size w.drew W) (hob : Ob 5 w.drew.heap.size W x b) => h.write k hk (((Below.refl _ _).drew).trans hb) x b hob hl hm)
        have hcl2 : Calls Tryd.prog 60 #[.slice ov b.length cv] w.drew fun e w1 => ∃ ox cx gb cap w2 g', e = .returned (.slice ox 256 cx) ∧ Below w.drew.heap.size w.drew w1 ∧
            (Builtin.append_ #[48, 48] 48 #[g.V k, .slice (some ⟨w1.heap.size, 0, none⟩) 1 1]).run Tryd.prog (w1.alloc (.cells #[.slice ox 256 cx] 33)) = .ok (.slice (some ⟨gb, 0, none⟩) ((d.sec k).loose.length + 1) cap) w2 ∧
            (w2.cell? ⟨g.G, k * 2 + 1, none⟩ = some (g.V k) ∧ w2.frozen? ⟨g.G, k * 2 + 1, none⟩ = false) ∧
            Dk (w2.setCell ⟨g.G, k * 2 + 1, none⟩ (.slice (some ⟨gb, 0, none⟩) ((d.sec k).loose.length + 1) cap)) H (addL d k b) g' ∧
            Ext (g.F H d.l.length) w (g'.F H d.l.length) (w2.setCell ⟨g.G, k * 2 + 1, none⟩ (.slice (some ⟨gb, 0, none⟩) ((d.sec k).loose.length + 1) cap)) := by
          refine hcl.mono ?_
          rintro e w1 ⟨x, rfl, hb, hob⟩
          obtain ⟨gb, cap, w2, g', hrun, hcf, hdk, hext, hsz⟩ := hwr w1 x hb hob
          obtain ⟨_, ox, cx, rfl, _, _, _, _⟩ := hob.bs
          rw [hl] at hrun ⊢
          exact ⟨ox, cx, gb, cap, w2, g', rfl, hb, hrun, hcf, hdk, hext⟩
        have HCL := Lib.hid hcl2
        have K := Lib.hid (fun Z (hz : Below w.drew.heap.size w.drew Z) => (show Z.cell? ⟨g.G, k * 2 + 1, none⟩ = some (g.V k) ∧ Z.frozen? ⟨g.G, k * 2 + 1, none⟩ = false from ⟨(hz.cell (p := ⟨g.G, k * 2 + 1, none⟩) (Below.lt s1)).trans s1, (hz.frozen (p := ⟨g.G, k * 2 + 1, none⟩) (Below.lt s1)).trans sf1⟩))
        have K2 := Lib.hid (fun Z (hz : Below w.drew.heap.size w.drew Z) (o : Obj) => K.out (Z.alloc o) (hz.alloc hz.size o))
        have HSP : Hid (spendB (addL d k b) = spendB d) := Lib.hid rfl
        have hq : (d.sec k).loose.length = (d.sec k).loose.length := rfl
        have HE0 := Lib.hid (fun (F' : Nat → Prop) (W : World) (he : Ext (g.F H d.l.length) w F' W) => (World.cell?_of_block (a := ⟨4, 0, none⟩) (he.block _ (Below.lt e0) hg0)).trans e0)
        have hbl : (b.length : Int) = 256 := by omega
        generalize spendB d = sq at HSP ⊢
        rw [hl] at hcv1
        rw [hl] at HCL ⊢
        clear hcl hcl2 hwr hv' sf hg0 h s0 hq c0 c2 f0 f1 f2
        generalize (d.sec k).loose.length = n at HCL hm
        go_enter Tryd.func32, Tryd.ntmps32
        go_wp2_with fail
        refine HAT.out.mono ?_
        rintro e w1 ⟨rfl, rfl⟩
        go_wp2_with fail
        go_region_law ((first
            | (refine step_append_run _ rfl _ _ _ _ rfl _ _ rfl rfl _ _ hrun ?_)
            | (go_simp; go_at_call 60; with_reducible refine HCL.out.mono ?_; rintro e w1 ⟨ox, cx, gb, cap, w2, g', rfl, hb, hrun, hcf, hdk, hext⟩; have k1 := (K.out _ hb).1; have k4 := (K2.out _ hb (.cells #[.slice ox 256 cx] 33)).1; have k2 := hcf.1; have k3 := hcf.2)))
        all_goals
          generalize (w2.setCell ⟨g.G, k * 2 + 1, none⟩ (.slice (some ⟨gb, 0, none⟩) (n + 1) cap)) = w3 at hdk hext ⊢
          have hsp := dskSpend hdk
          rw [HSP.out, addL_len] at hsp
          have HX := Lib.hid hext
          have HSPD := Lib.hid hsp
          clear hrun hcf hdk hext k1 k2 k3 k4 hb hsp
          go_wp2_with fail
          refine HSPD.out.mono ?_
          rintro e w4 ⟨rfl, hdk4, hext4⟩
          have HDK := Lib.hid hdk4
          have HXT := Lib.hid (HX.out.trans hext4)
          have hE := HE0.out _ _ HXT.out
          have HL : Hid ((spendD (addL d k b)).l.length = d.l.length) := Lib.hid (by rw [spendD_len, addL_len])
          clear hdk4 hext4 HX HSPD HSP
          cases sq
          · go_wp2_with fail
            go_ret
            exact ⟨rfl, _, HDK.out, by rw [HL.out]; exact HXT.out⟩
          · go_wp2_with fail
            go_ret
            exact ⟨rfl, _, HDK.out, by rw [HL.out]; exact HXT.out⟩
      · have hc : writeC d i b = 103 := by simp [writeC, ho, hh, hl]
        have hd : writeD d i b = d := by simp [writeD, ho, hh, hl]
        rw [hc, hd]
        have HK := Lib.hid h
        have hh' : 0 ≤ i ∧ i < d.l.length := by simpa [DiskD.has] using hh
        clear hc hd h hm hv'
        generalize b.length = bl at *
        go_enter Tryd.func32, Tryd.ntmps32
        go_wp2_with fail
        refine HAT.out.mono ?_
        rintro e w1 ⟨rfl, rfl⟩
        go_wp2_with fail
        go_ret
        exact ⟨rfl, _, HK.out, Ext.refl _ _⟩
end Go.Proofs.YtoikdhfihkbcbaaDoor
