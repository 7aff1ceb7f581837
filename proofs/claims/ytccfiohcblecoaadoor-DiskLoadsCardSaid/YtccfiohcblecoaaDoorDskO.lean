/- Contract of the disk's Load. -/
import Derived.Test.YtccfiohcblecoaaDoorDskC
import Derived.Test.YtccfiohcblecoaaDoorDskX
namespace Go.Proofs.YtccfiohcblecoaaDoor
open Go.RowKit
set_option linter.unusedVariables false

def bad256 (b : List Int) : Bool := !(b.length == 256)
theorem indexLoad (v : Value) (L : List (List Int)) (w : World) (hv : Rs w v L) :
    Calls Tryd.prog 95 #[v, .func (.func 65) #[] #[]] w fun e w' => (∃ r : Int, e = .returned (.int .i64 r) ∧ decide (0 ≤ r) = L.any bad256 ∧ -1 ≤ r ∧ r ≤ 9223372036854775807) ∧ w = w' := by
  obtain ⟨o, c, rfl, hlc, hcm, hon, hcell⟩ := hv
  unfold maxLen at hcm
  go_enter Tryd.func95, Tryd.ntmps95
  go_wp2_with fail
  go_loop [8] (fun i => ∃ k : Nat, i = .int .i64 k ∧ k ≤ L.length ∧ ∀ j, j < k → bad256 (L.getD j []) = false) (fun i => L.length - (intOf i).toNat)
  case atStart => exact ⟨0, rfl, by omega, fun j hj => by omega⟩
  case round =>
    obtain ⟨k, rfl, hk, hz⟩ := hrel
    have HZ := Lib.hid hz
    clear hz
    by_cases hlt : k < L.length
    · obtain ⟨a, u, rfl, g, hu⟩ := Rs.at_ hcell hlt
      clear hcell
      obtain ⟨b, hb⟩ : ∃ b, b = L.getD k [] := ⟨_, rfl⟩
      rw [← hb] at hu
      have HB := Lib.hid hb
      clear hb
      obtain ⟨_, ou, cu, rfl, hu1, hu2, _, _⟩ := hu
      unfold maxLen at hu2
      by_cases hx : b.length = 256
      · have HX : Hid (bad256 b = false) := Lib.hid (by simp [bad256, hx])
        rw [hx] at g hu1
        clear hx
        go_wp2_with go_in
        go_round
        case rel =>
          refine ⟨k + 1, by go_num, by omega, fun j hj => ?_⟩
          by_cases e : j = k
          · rw [e, ← HB.out]; exact HX.out
          · exact HZ.out j (by omega)
        case measure => simp [intOf]; omega
      · have HX : Hid (bad256 b = true) := Lib.hid (by simp [bad256, hx])
        have e1 : ((b.length : Int) != 256) = true := by simp; omega
        generalize b.length = bl at *
        clear hx
        go_wp2_with go_in
        go_ret
        refine ⟨⟨k, rfl, ?_, by omega, by omega⟩, rfl⟩
        have : L.any bad256 = true := by
          rw [List.any_eq_true]
          exact ⟨_, List.getElem_mem hlt, by rw [← getD_lt (d := []) hlt, ← HB.out]; exact HX.out⟩
        simp [this]
    · go_wp2_with fail
      go_ret
      refine ⟨⟨-1, rfl, ?_, by omega, by omega⟩, rfl⟩
      have : L.any bad256 = false := by
        rw [List.any_eq_false]
        intro x hx
        obtain ⟨j, hj, rfl⟩ := List.getElem_of_mem hx
        rw [← getD_lt (d := []) hj, HZ.out j (by omega)]; simp
      simp [this]
theorem containsLoad (v : Value) (L : List (List Int)) (w : World) (hv : Rs w v L) :
    Calls Tryd.prog 64 #[v, .func (.func 65) #[] #[]] w fun e w' => e = .returned (.bool (L.any bad256)) ∧ w = w' := by
  have HI := Lib.hid (indexLoad v L w hv)
  clear hv
  go_enter Tryd.func64, Tryd.ntmps64
  go_wp2_with fail
  refine HI.out.mono ?_
  rintro e w' ⟨⟨r, rfl, hr, hr1, hr2⟩, rfl⟩
  have HR := Lib.hid hr
  clear hr
  go_wp2_with fail
  go_ret
  exact ⟨by rw [← HR.out]; rfl, rfl⟩

def loadTo (d : DiskD) (L : List (List Int)) : Nat → DiskD
  | 0 => d
  | k + 1 => { loadTo d L k with l := (loadTo d L k).l.set k ⟨L.getD k [], ((loadTo d L k).sec k).loose⟩ }
theorem loadTo_len (d : DiskD) (L : List (List Int)) (k : Nat) : (loadTo d L k).l.length = d.l.length := by
  induction k with
  | zero => rfl
  | succ k ih => unfold loadTo; simpa using ih
theorem loadTo_fast (d : DiskD) (L : List (List Int)) (k s : Nat) (hk : k ≤ d.l.length) (hs : s < k) : ((loadTo d L k).sec s).fast = L.getD s [] := by
  induction k with
  | zero => omega
  | succ k ih =>
    unfold loadTo
    rw [sec_set (by rw [loadTo_len]; omega)]
    by_cases e : s = k
    · subst e; rw [if_pos rfl]
    · rw [if_neg e]; exact ih (by omega) (by omega)
def loadD (d : DiskD) (L : List (List Int)) : DiskD := ⟨L.map fun b => ⟨b, []⟩, false, -1⟩
theorem loadTo_on (d : DiskD) (L : List (List Int)) (h : L.length = d.l.length) : onD (loadTo d L d.l.length) = loadD d L := by
  unfold onD loadD
  congr 1
  apply List.ext_getElem?
  intro i
  rw [List.getElem?_map, List.getElem?_map]
  by_cases hi : i < d.l.length
  · have h1 := loadTo_fast d L d.l.length i (Nat.le_refl _) hi
    unfold DiskD.sec at h1
    rw [List.getD_eq_getElem?_getD, List.getElem?_eq_getElem (by rw [loadTo_len]; exact hi)] at h1
    rw [List.getElem?_eq_getElem (by rw [loadTo_len]; exact hi), List.getElem?_eq_getElem (by omega)]
    simp only [Option.getD_some] at h1
    rw [getD_lt (show i < L.length by omega)] at h1
    simp [h1]
  · rw [List.getElem?_eq_none (by rw [loadTo_len]; omega), List.getElem?_eq_none (by omega)]; rfl

/-- a sector's fast version from other bytes -/
theorem Dk.loadStep {w W : World} {H : Nat} {d : DiskD} {g : DG} (h : Dk w H d g) (k : Nat) (hk : k < d.l.length) (hb : Below w.heap.size w W) (x : Value) (b : List Int) (hx : Ob 5 w.heap.size W x b) (hl : b.length = 256) :
    ∃ g', Dk (W.setCell ⟨g.G, k * 2, none⟩ x) H { d with l := d.l.set k ⟨b, (d.sec k).loose⟩ } g' ∧ Ext (g.F H d.l.length) w (g'.F H d.l.length) (W.setCell ⟨g.G, k * 2, none⟩ x) := by
  obtain ⟨r, cx, hxv, hr1, hr2, hcx, _⟩ := hx.row (ne_nil_of_lt (k := 0) (by omega))
  have h1 := h.below hb
  have h2 := h1.moreR r hr2 (fun hf => by have := h.low hf; omega)
  refine ⟨_, h2.setU k hk x b ⟨hx.bs, fun c e => .inr (by rw [hxv] at e; simpa [Value.ownBlock] using e.symm)⟩ hl, ?_⟩
  have x3 : Ext (g.F H d.l.length) w (g.F H d.l.length) (W.setCell ⟨g.G, k * 2, none⟩ x) := (Ext.of_below hb).trans (ext_setCell (.inr (.inl rfl)) _ _)
  refine ⟨x3.os, x3.tape, x3.output, x3.size, x3.block, fun c hc => ?_⟩
  rcases hc with e | e | ⟨i, hi, e⟩ | e | e
  · exact .inl (.inl e)
  · exact .inl (.inr (.inl e))
  · have e0 : (upd g.V k (g.V k) i).ownBlock = some c := e
    by_cases hik : i = k
    · subst hik; rw [upd_at] at e0; exact .inl (.inr (.inr (.inl ⟨i, hi, e0⟩)))
    · rw [upd_ne _ _ hik] at e0; exact .inl (.inr (.inr (.inl ⟨i, hi, e0⟩)))
  · exact .inl (.inr (.inr (.inr e)))
  · exact .inr (by omega)

def loadC (d : DiskD) (L : List (List Int)) : Int := if L.length = d.l.length then (if L.any bad256 then 103 else 0) else 102

set_option maxRecDepth 20000 in
set_option maxHeartbeats 4000000 in
theorem dskLoad {ea : Nat → Addr} {w : World} {H : Nat} {d : DiskD} {g : DG} (h : Dk w H d g) (hs : D3 ea w) (v : Value) (L : List (List Int)) (hst : ∀ F' W, Ext (g.F H d.l.length) w F' W → Rs W v L) :
    Calls Tryd.prog 30 #[.pointer (some ⟨H, 0, none⟩), v] w fun e w' => e = .returned (eC ea (loadC d L)) ∧ (loadC d L ≠ 0 → w' = w) ∧ ∃ g', Dk w' H (if loadC d L = 0 then loadD d L else d) g' ∧ Ext (g.F H d.l.length) w (g'.F H (if loadC d L = 0 then loadD d L else d).l.length) w' := by
  obtain ⟨c0, _, _, _, _, _⟩ := h.headCells
  have hn2 := h.n2
  have hcp := h.capn
  have hcm := h.capm
  unfold maxLen at hcm
  have e1 := hs.r
  have e2 := hs.s
  have hv := hst _ _ (Ext.refl _ _)
  have HCT := Lib.hid (containsLoad v L w hv)
  obtain ⟨o, cv, rfl, hv1, hv2, _, _⟩ := hv
  unfold maxLen at hv2
  have HK := Lib.hid h
  have HST := Lib.hid hst
  clear hs hst h
  by_cases hl : L.length = d.l.length
  · cases hany : L.any bad256 with
    | true =>
      have hc : loadC d L = 103 := by unfold loadC; rw [if_pos hl, hany]; rfl
      rw [hc, if_neg (by omega)]
      rw [hany] at HCT
      rw [← hl] at c0 hn2 hcp
      clear hc hany hl
      generalize L.length = n at *
      go_enter Tryd.func30, Tryd.ntmps30
      go_wp2_with fail
      refine HCT.out.mono ?_
      rintro e w1 ⟨rfl, rfl⟩
      go_wp2_with fail
      go_ret
      exact ⟨rfl, fun _ => rfl, _, HK.out, Ext.refl _ _⟩
    | false =>
      have hc : loadC d L = 0 := by unfold loadC; rw [if_pos hl, hany]; rfl
      rw [hc, if_pos rfl, eC_zero]
      rw [hany] at HCT
      have HL : Hid (L.length = d.l.length) := Lib.hid hl
      have HLEN : Hid (∀ k, k < L.length → (L.getD k []).length = 256) := Lib.hid (fun k hk => by
        have h1 := List.any_eq_false.1 hany _ (List.getElem_mem hk)
        rw [getD_lt hk]
        simpa [bad256] using h1)
      have hll : (loadD d L).l.length = d.l.length := by unfold loadD; simpa using hl
      rw [hll]
      have HX0 : Hid (Ext (g.F H d.l.length) w (g.F H d.l.length) w) := Lib.hid (Ext.refl _ _)
      have HK0 : Hid (Dk w H (loadTo d L 0) g) := HK
      obtain ⟨n, hn⟩ : ∃ n, n = L.length := ⟨_, rfl⟩
      rw [← hl, ← hn] at c0 hn2 hcp
      rw [← hn] at hv1 HCT ⊢
      have HN := Lib.hid hn
      clear hc hany hl hll hn
      go_enter Tryd.func30, Tryd.ntmps30
      go_wp2_with fail
      refine HCT.out.mono ?_
      clear HCT
      rintro e w1 ⟨rfl, rfl⟩
      clear c0
      go_wp2_with fail
      go_loopw [21] (fun i wr => ∃ k : Nat, i = .int .i64 k ∧ (k : Int) ≤ n ∧ ∃ gr, Hid (Dk wr H (loadTo d L k) gr) ∧ Hid (Ext (g.F H d.l.length) w (gr.F H d.l.length) wr)) (fun i _ => n - (intOf i).toNat)
      case atStart => exact ⟨0, rfl, by omega, g, HK0, HX0⟩
      case round =>
        obtain ⟨k, rfl, hk, gr, HDR, HXR⟩ := hrel
        have hml : (loadTo d L k).l.length = n := by rw [loadTo_len, HN.out]; exact HL.out.symm
        by_cases hk2 : (k : Int) < n
        · have hkn : k < (loadTo d L k).l.length := by rw [hml]; omega
          have hkL : k < L.length := by have := HN.out; omega
          have hrs := HST.out _ _ HXR.out
          obtain ⟨o2, c2, he2, _, _, _, hcc⟩ := hrs
          obtain ⟨a, u, ha, hu, hbu⟩ := Rs.at_ hcc hkL
          rw [← HN.out] at he2
          simp only [Value.slice.injEq] at he2
          obtain ⟨rfl, _, rfl⟩ := he2
          subst ha
          have hb256 := HLEN.out k hkL
          obtain ⟨_, ou, cu, rfl, hu1, hu2, _, _⟩ := id hbu
          unfold maxLen at hu2
          rw [hb256] at hu hu1 hbu
          obtain ⟨c0, _, _, f0, _, _⟩ := HDR.out.headCells
          have hcp := HDR.out.capn
          have hcm := HDR.out.capm
          unfold maxLen at hcm
          rw [hml] at c0 hcp
          have hcl := clone _ _ wr.drew (hbu.below ((Below.refl _ _).drew)) (by rw [hb256]; omega)
          have hcl2 : Calls Tryd.prog 62 #[.slice ou 256 cu] wr.drew fun e w1 => ∃ ox cx g', e = .returned (.slice ox 256 cx) ∧ Below wr.drew.heap.size wr.drew w1 ∧ w1.cell? ⟨H, 0, none⟩ = some (.slice (some ⟨gr.G, 0, none⟩) n gr.cap) ∧ (∃ y, w1.cell? ⟨gr.G, k * 2, none⟩ = some y) ∧ w1.frozen? ⟨gr.G, k * 2, none⟩ = false ∧
              Hid (Dk (w1.setCell ⟨gr.G, k * 2, none⟩ (.slice ox 256 cx)) H (loadTo d L (k + 1)) g') ∧ Hid (Ext (g.F H d.l.length) w (g'.F H d.l.length) (w1.setCell ⟨gr.G, k * 2, none⟩ (.slice ox 256 cx))) := by
            refine hcl.mono ?_
            rintro e w1 ⟨x, rfl, hb, hob⟩
            have hb' : Below wr.heap.size wr w1 := ((Below.refl _ _).drew).trans hb
            obtain ⟨g', hdn, hxn⟩ := HDR.out.loadStep k hkn hb' x _ hob hb256
            obtain ⟨_, ox, cx, rfl, _, _, _, _⟩ := hob.bs
            rw [hb256] at hdn hxn ⊢
            have hd1 := HDR.out.below hb'
            obtain ⟨h0, _⟩ := hd1.headCells
            rw [hml] at h0
            obtain ⟨s0, _, sf⟩ := hd1.secCells hkn
            rw [hml, HN.out, HL.out] at hxn
            exact ⟨ox, cx, g', rfl, hb, h0, ⟨_, s0⟩, sf _, Lib.hid hdn, Lib.hid (HXR.out.trans hxn)⟩
          have HCL := Lib.hid hcl2
          clear hcl hcl2 hml hkn hbu hcc hb256 HDR HXR hkL HK0 HX0
          go_wp2_with fail
          go_region_law ((first | (go_simp; go_at_call 62; refine HCL.out.mono ?_; rintro e w1 ⟨ox, cx, g', rfl, hb, k1, ⟨y, k2⟩, k3, HDN, HXN⟩)))
          all_goals
            go_wp2_with fail
            go_roundw
            case rel => exact ⟨k + 1, by go_num, by omega, g', HDN, HXN⟩
            case measure => simp [intOf]; omega
        · obtain rfl : k = n := by omega
          have hon := dskOn HDR.out
          rw [HN.out, HL.out, loadTo_on d L HL.out] at hon
          rw [loadTo_len] at hon
          have hll : (loadD d L).l.length = d.l.length := by unfold loadD; simpa using HL.out
          rw [hll] at hon
          have HON := Lib.hid hon
          clear hon hll hml
          go_wp2_with fail
          refine HON.out.mono ?_
          rintro e w9 ⟨rfl, g9, hd9, hx9⟩
          have HX9 := Lib.hid (HXR.out.trans hx9)
          have HD9 := Lib.hid hd9
          clear hd9 hx9 HON
          go_wp2_with fail
          go_ret
          exact ⟨rfl, fun h => absurd rfl h, g9, HD9.out, HX9.out⟩
  · have hc : loadC d L = 102 := by unfold loadC; rw [if_neg hl]
    rw [hc, if_neg (by omega)]
    clear hc HCT
    generalize L.length = n at *
    generalize hm : d.l.length = m at *
    have HM := Lib.hid hm
    clear hm
    have hne : ((n : Int) != (m : Int)) = true := by simp; omega
    go_enter Tryd.func30, Tryd.ntmps30
    go_wp2_with fail
    go_ret
    exact ⟨rfl, fun _ => rfl, _, HK.out, Ext.refl _ _⟩
end Go.Proofs.YtccfiohcblecoaaDoor
