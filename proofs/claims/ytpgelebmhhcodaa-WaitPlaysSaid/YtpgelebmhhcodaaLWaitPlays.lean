/- The walk of the law WaitPlays. -/
import Derived.Test.YtpgelebmhhcodaaWrC
import Derived.Test.YtpgelebmhhcodaaLWaitOf
import Derived.Test.YtpgelebmhhcodaaLWaitTrees
import Derived.Test.YtpgelebmhhcodaaDoR
import Derived.Deep.CutBlock
import Derived.Outline
namespace Go.Proofs.Ytpgelebmhhcodaa
open Go.ChangeShapes Go.WideShapes Go.Deep Go.RowKit
set_option linter.unusedVariables false

/-- a slice of structs of two ints and a slice of ints that can be read -/
def Do3 (w : World) (a : Option Addr) (len cap : Nat) : Prop :=
  len ≤ cap ∧ cap ≤ maxLen ∧ ∀ i, i < len → ∃ g off n0 n1 v l, a = some ⟨g, off, none⟩ ∧ I64L n0 ∧ I64L n1 ∧ Ns .i64 w v l ∧
    w.cell? ⟨g, off + i * 3, none⟩ = some (.int .i64 n0) ∧ w.cell? ⟨g, off + i * 3 + 1, none⟩ = some (.int .i64 n1) ∧ w.cell? ⟨g, off + i * 3 + 2, none⟩ = some v
section
variable {H : Type} {enc : TypeId × Value → H} {P : Program} {w : World} {base : Nat} {spare : Nat → Bool} {held : Bool}
theorem do3_of_trod {t e s3 : TypeId} {f0 f1 f2 : Field} {a : Option Addr} {len cap : Nat} {d : DataW H} {p : List MemPlace} (ht : P.underlying t = some (.slice e)) (he : P.underlying e = some (.struct #[f0, f1, f2]))
    (hone : oneCellFields P #[f0, f1, f2] = true) (hC : P.cellsOf e = 3) (h0 : P.underlying f0.type = some (.int .i64)) (h1 : P.underlying f1.type = some (.int .i64)) (h2 : P.underlying f2.type = some (.slice s3)) (h3 : P.underlying s3 = some (.int .i64)) (h4 : P.cellsOf s3 = 1) (hsp : ∀ b, spare b = true)
    (h : DataW.Trod enc P w base spare held t (.slice a len cap) d p) : Do3 w a len cap := by
  obtain ⟨fuel, hf⟩ := h
  rcases open_slice_fields ht he hone hC hf with ⟨hcs, _⟩ | ⟨x, l, c, m, D, Pl, hcs, _, hl, hm, hmm, _, hc⟩
  · simp [Value.cells] at hcs
    obtain ⟨rfl, rfl, rfl⟩ := hcs
    exact ⟨by omega, by simp [maxLen], fun i hi => by omega⟩
  · simp [Value.cells] at hcs
    obtain ⟨rfl, rfl, rfl⟩ := hcs
    refine ⟨hl, hm, fun i hi => ?_⟩
    have hlm : len ≤ m := by rw [hmm]; split <;> omega
    have hx : x.spot = none := by
      obtain ⟨ys, n, _, _, _, hg⟩ := hc 0 (by omega)
      obtain ⟨v, y, hcell, _, _⟩ := hg 0 f0 rfl
      rw [Nat.zero_mul] at hcell
      exact spot_none hcell
    obtain ⟨ys, n, _, _, _, hg⟩ := hc i (by omega)
    obtain ⟨v0, y0, c0, _, t0⟩ := hg 0 f0 rfl
    obtain ⟨v1, y1, c1, _, t1⟩ := hg 1 f1 rfl
    obtain ⟨v2, y2, c2, _, t2⟩ := hg 2 f2 rfl
    obtain ⟨n0, e0, _, w0⟩ := DataW.trod_int h0 t0
    obtain ⟨n1, e1, _, w1⟩ := DataW.trod_int h1 t1
    have hns : ∃ l, Ns .i64 w v2 l := by
      rcases open_ints h2 h3 h4 t2 with ⟨hcs, _⟩ | ⟨x, l, c, zs, hcs, _, hl, hm, hz, _, hcell, hwz⟩
      · simp only [List.cons.injEq, and_true] at hcs
        subst hcs
        exact ⟨[], Ns.nil _ _⟩
      · simp only [List.cons.injEq, and_true] at hcs
        subst hcs
        obtain ⟨l', _, hn⟩ := ns_of_row (ik := .i64) (w := w) (a := some x) (len := l) (cap := c) (zs := zs) (.inr ⟨x, rfl, hl, hm, by rw [hsp, if_pos rfl] at hz; exact hz, hcell, hwz⟩)
        exact ⟨l', hn⟩
    obtain ⟨l2, hl2⟩ := hns
    simp only [List.cons.injEq, and_true] at e0 e1
    subst e0 e1
    have k0 := addr_add c0 hx
    have k1 := addr_add c1 hx
    have k2 := addr_add c2 hx
    obtain ⟨g, off, s⟩ := x
    dsimp only at hx k0 k1 k2
    subst hx
    exact ⟨g, off, n0, n1, v2, l2, rfl, wf_L w0, wf_L w1, hl2, k0, k1, k2⟩
end

/-- the program's graph and the document's, beside each other -/
structure QQ (w0 w : World) (X : Nat) (mo : Option Nat) (n : Nat) (f : Int → Option Value) (M : Int → List Int) (Y : Nat) (u : Value) (T : List (Int × Int)) : Prop where
  tg : TG w0 w X mo n f M
  wr : Wr w Y u T
  wl : ∀ b, Wr.F Y u b → w0.heap.size ≤ b
  dj : ∀ b, Gr.F X mo f b → Wr.F Y u b → False
theorem QQ.below {w0 w w' : World} {X Y n : Nat} {mo : Option Nat} {f : Int → Option Value} {M : Int → List Int} {u : Value} {T : List (Int × Int)} (h : QQ w0 w X mo n f M Y u T) (hb : Below w.heap.size w w') : QQ w0 w' X mo n f M Y u T := ⟨h.tg.below hb, h.wr.below hb, h.wl, h.dj⟩
theorem QQ.turn1 {w0 w w' : World} {X Y n n' : Nat} {mo mo' : Option Nat} {f f' : Int → Option Value} {M M' : Int → List Int} {u : Value} {T : List (Int × Int)} (h : QQ w0 w X mo n f M Y u T) (ht : Gr w' X mo' n' f' M') (hx : Ext (Gr.F X mo f) w (Gr.F X mo' f') w') : QQ w0 w' X mo' n' f' M' Y u T := by
  refine ⟨h.tg.turn ht hx, h.wr.same fun b hb => hx.block b (h.wr.low hb) fun e => h.dj b e hb, h.wl, fun b e1 e2 => ?_⟩
  rcases hx.grow b e1 with e | e
  · exact h.dj b e e2
  · have := h.wr.low e2; omega
theorem QQ.turn2 {w0 w w' : World} {X Y n : Nat} {mo : Option Nat} {f : Int → Option Value} {M : Int → List Int} {u u' : Value} {T T' : List (Int × Int)} (h : QQ w0 w X mo n f M Y u T) (ht : Wr w' Y u' T') (hx : Ext (Wr.F Y u) w (Wr.F Y u') w') : QQ w0 w' X mo n f M Y u' T' := by
  refine ⟨⟨h.tg.gr.same fun b hb => hx.block b (h.tg.gr.low hb) fun e => h.dj b hb e, h.tg.bel.trans (hx.below h.wl h.tg.bel.size), h.tg.low⟩, ht, hx.low h.wl h.tg.bel.size, fun b e1 e2 => ?_⟩
  rcases hx.grow b e2 with e | e
  · exact h.dj b e1 e
  · have := h.tg.gr.low e1; omega
theorem QQ.new {w0 w : World} (hb : Below w0.heap.size w0 w) : QQ w0 ((w.alloc (.cells #[.map none] 39)).alloc (.cells #[.slice none 0 0] 66)) w.heap.size none 0 (fun _ => none) (ofM []) (w.alloc (.cells #[.map none] 39)).heap.size (.slice none 0 0) [] := by
  have h1 := TG.new hb
  have h2 : ∀ b, Wr.F (w.alloc (.cells #[.map none] 39)).heap.size (.slice none 0 0) b → b = (w.alloc (.cells #[.map none] 39)).heap.size := fun b e => by
    rcases e with e | e
    · exact e
    · simp [Value.ownBlock] at e
  refine ⟨h1.below ((Below.refl _ _).alloc (Nat.le_refl _) _), Wr.new _, fun b e => ?_, fun b e1 e2 => ?_⟩
  · rw [h2 b e]; exact h1.bel.size
  · have := h1.gr.low e1
    rw [h2 b e2] at this
    exact Nat.lt_irrefl _ this

set_option maxRecDepth 20000 in
set_option maxHeartbeats 8000000 in
theorem waitPlays_walk {w : World} {o : Option Addr} {n cap : Nat} (h0 : Do3 w o n cap) :
    Calls Try.prog 8 #[.slice o n cap] w fun e w' => e = .returned (.bool true) ∧ Below w.heap.size w w' := by
  have HF := Lib.hid (waitFirst w)
  obtain ⟨h1, h2, h3⟩ := h0
  have HC := Lib.hid h3
  unfold maxLen at h2
  clear h3
  by_cases hl : (n : Int) > 60
  · go_enter Try.func8, Try.ntmps8
    go_wp2_with fail
    refine HF.out.mono ?_
    clear HF
    rintro e w1 ⟨rfl, hb1⟩
    have HB1 := Lib.hid hb1
    clear hb1
    go_wp2_with fail
    go_ret
    exact ⟨rfl, HB1.out⟩
  · go_enter Try.func8, Try.ntmps8
    go_wp2_with fail
    refine HF.out.mono ?_
    clear HF
    rintro e w1 ⟨rfl, hb1⟩
    have HQ := Lib.hid (QQ.new hb1)
    clear hb1
    go_upto_region 8 with fail
    generalize (w1.alloc (.cells #[.map none] 39)).alloc (.cells #[.slice none 0 0] 66) = w2 at HQ ⊢
    rw [show (w1.alloc (.cells #[.map none] 39)).heap.size = w1.heap.size + 1 from by simp] at HQ
    generalize w1.heap.size = X at HQ ⊢
    generalize (X + 1) = Y at HQ ⊢
    go_wp2_with fail
    go_loopw [6] (fun s6 wr => ∃ (i : Nat) (mo : Option Nat) (nn : Nat) (f : Int → Option Value) (u : Value) (T : List (Int × Int)), s6 = .int .i64 i ∧ i ≤ n ∧ Hid (QQ w wr X mo nn f (ofM T) Y u T) ∧ nn ≤ i ∧ T.length ≤ 10 * i ∧ Hid (∀ p ∈ T, 0 ≤ p.2 ∧ p.2 ≤ 100)) (fun s6 _ => n - (intOf s6).toNat)
    case atStart => exact ⟨0, _, _, _, _, _, rfl, by omega, HQ, by omega, by simp, Lib.hid (fun p hp => by simp at hp)⟩
    case round =>
      obtain ⟨i, mo, nn, f, u, T, rfl, hi, HQi, hnn, hTl, HTm⟩ := hrel
      clear HQ
      by_cases hin : (i : Int) < n
      · obtain ⟨g, off, x0, x1, vL, l, rfl, hx0, hx1, hns, c0, c1, c2⟩ := HC.out i (by omega)
        have d0 := (HQi.out.tg.bel.cell (Below.lt c0)).trans c0
        have d1 := (HQi.out.tg.bel.cell (Below.lt c1)).trans c1
        have d2 := (HQi.out.tg.bel.cell (Below.lt c2)).trans c2
        obtain ⟨m, hm⟩ : ∃ m, m = l.length := ⟨_, rfl⟩
        have HNS := Lib.hid hns
        obtain ⟨_, oL, cL, rfl, hL1, hL2, _⟩ := hns
        rw [← hm] at hL1 HNS c2 d2
        have HM := Lib.hid hm
        have HC0 := Lib.hid c0
        have HC2 := Lib.hid c2
        unfold maxLen at hL2
        clear c0 c1 c2 hm
        by_cases hm10 : (m : Int) > 10
        · go_wp2_with fail
          go_ret
          exact ⟨rfl, HQi.out.tg.bel⟩
        · obtain ⟨s, hs⟩ : ∃ s : Nat, x1 % 7 = s := ⟨(x1 % 7).toNat, by omega⟩
          have hs7 : s < 7 := by omega
          have n1 := number x1 7 wr (by omega) (by omega) hx1.1 hx1.2
          rw [hs] at n1
          have N1 := Lib.hid n1
          have HX0 := Lib.hid hx0
          clear n1 hs hx0 hx1
          go_wp2_with fail
          refine N1.out.mono ?_
          clear N1
          rintro e w3 ⟨rfl, rfl⟩
          obtain ⟨wo, hwo⟩ : ∃ wo, wo = wr := ⟨_, rfl⟩
          rw [← hwo] at HQi d0 d1 d2 ⊢
          clear hwo d0 d1
          go_wp2_with fail
          go_loopw [8, 9] (fun s8 s9 wx => ∃ (k : Nat) (ws : List Int) (o8 : Option Addr) (m8 c8 : Nat), s9 = .int .i64 k ∧ s8 = .slice o8 m8 c8 ∧ k ≤ m ∧ m8 ≤ k ∧ Hid (m8 = ws.length) ∧ Hid (Oi wo.heap.size wx (.slice o8 m8 c8) ws) ∧ Hid (Below wo.heap.size wo wx) ∧ Hid (∀ x ∈ ws, 0 ≤ x ∧ x < 7)) (fun _ s9 _ => m - (intOf s9).toNat)
          case atStart => exact ⟨0, [], none, 0, 0, rfl, rfl, by omega, by omega, Lib.hid rfl, Lib.hid Oi.nil, Lib.hid (Below.refl _ _), Lib.hid (fun x hx => by simp at hx)⟩
          case round =>
            obtain ⟨k, ws, o8, m8, c8, rfl, rfl, hk, hm8, HM8, HO8, HB8, HW8⟩ := hrel
            have HB0 := Lib.hid (HQi.out.tg.bel.trans (HB8.out.mono HQi.out.tg.bel.size))
            have e2 := (HB0.out.cell (Below.lt HC2.out)).trans HC2.out
            clear d2
            by_cases hkm : (k : Int) < m
            · obtain ⟨aL, y, rfl, cy, _, hyw⟩ := HNS.out.at1 k (by rw [← HM.out]; omega)
              have ey := (HB0.out.cell (Below.lt cy)).trans cy
              obtain ⟨q, hq⟩ : ∃ q : Nat, y % 7 = q := ⟨(y % 7).toNat, by omega⟩
              have hq7 : q < 7 := by omega
              have nk := number y 7 wr (by omega) (by omega) hyw.1 hyw.2
              rw [hq] at nk
              have NK := Lib.hid nk
              have hkw : (Lit.int .i64 (q : Int)).wf = true := wf_of_L (L_small (by omega) (by omega))
              have hsz := HB8.out.size
              obtain ⟨gb, cap9, w9, hrun9, ho9, hg9, _, _, hca9, hcb9⟩ := HO8.out.append1 q hkw hsz (by rw [← HM8.out]; omega) 3 34
              have hba : Below wr.heap.size wr (wr.alloc (.cells #[.int .i64 q] 3)) := (Below.refl _ _).alloc (Nat.le_refl _) _
              have hbb := HB8.out.trans (hba.mono hsz)
              have HB9 := Lib.hid ((HO8.out.below hba).grown hg9 hbb (Nat.le_refl _) hbb.size)
              rw [← HM8.out] at hrun9 ho9
              have HO9 := Lib.hid ho9
              have HM9 : Hid (m8 + 1 = (ws ++ [(q : Int)]).length) := Lib.hid (by rw [List.length_append, ← HM8.out]; rfl)
              have HW9 : Hid (∀ x ∈ ws ++ [(q : Int)], 0 ≤ x ∧ x < 7) := Lib.hid (fun x hx => by
                rcases List.mem_append.1 hx with hx | hx
                · exact HW8.out x hx
                · rw [List.mem_singleton.1 hx]; omega)
              clear hkw hsz ho9 hg9 hba hbb hca9 hcb9 nk cy hyw hq
              go_wp2_with fail
              refine NK.out.mono ?_
              clear NK
              rintro e w3 ⟨rfl, rfl⟩
              go_wp2_with (at_builtin; refine Lib.wpList_append_run _ rfl _ _ _ _ rfl _ _ rfl rfl _ _ hrun9 ?_)
              go_roundw
              case rel => exact ⟨k + 1, ws ++ [(q : Int)], _, m8 + 1, _, by go_num, rfl, by omega, by omega, HM9, HO9, HB9, HW9⟩
              case measure => simp [intOf]; omega
            · obtain rfl : k = m := by omega
              have HQ8 := Lib.hid (HQi.out.below HB8.out)
              have e0 := (HB0.out.cell (Below.lt HC0.out)).trans HC0.out
              obtain ⟨q, hq⟩ : ∃ q : Int, x0 % 5 = q := ⟨_, rfl⟩
              have n0 := number x0 5 wr (by omega) (by omega) HX0.out.1 HX0.out.2
              rw [hq] at n0
              have N0 := Lib.hid n0
              have hlowg : ∀ b, Gr.F X mo f b → b < wo.heap.size := fun b hb => HQi.out.tg.gr.low hb
              have hloww : ∀ b, Wr.F Y u b → b < wo.heap.size := fun b hb => HQi.out.wr.low hb
              have HLG := Lib.hid hlowg
              have HLW := Lib.hid hloww
              clear hq n0 HQi HB0 hlowg hloww
              go_wp2_with fail
              refine N0.out.mono ?_
              clear N0 e0 e2
              rintro e w3 ⟨rfl, rfl⟩
              go_upto_block 4 with fail
              go_cut [] from 18 to 100 (fun wx => ∃ mo' nn' f' u' T', Hid (QQ w wx X mo' nn' f' (ofM T') Y u' T') ∧ nn' ≤ i + 1 ∧ T'.length ≤ 10 * (i + 1) ∧ Hid (∀ p ∈ T', 0 ≤ p.2 ∧ p.2 ≤ 100))
              case first =>
                have hsL : I64L (s : Int) := L_small (by omega) (by omega)
                by_cases e3 : q = 3
                · subst e3
                  have hgc := graphClear HQ8.out.tg.gr hsL
                  have HGC := Lib.hid hgc
                  clear hgc
                  go_wp2_with fail
                  refine HGC.out.mono ?_
                  clear HGC
                  rintro e wa ⟨rfl, hga, hxa⟩
                  have HQa := Lib.hid (HQ8.out.turn1 hga hxa)
                  clear hga hxa HQ8
                  have hwc := wrClear HQa.out.wr (by omega) (s : Int)
                  have HWC := Lib.hid hwc
                  clear hwc
                  go_wp2_with fail
                  refine HWC.out.mono ?_
                  clear HWC
                  rintro e wb ⟨rfl, u', hub, hxb⟩
                  have HQb := Lib.hid (HQa.out.turn2 hub hxb)
                  rw [← ofM_clear] at HQb
                  clear hub hxb HQa
                  have hcl := clearP_len T (s : Int)
                  have HTc : Hid (∀ p ∈ clearP T (s : Int), 0 ≤ p.2 ∧ p.2 ≤ 100) := Lib.hid fun p hp => HTm.out p ((clearP_mem _ _ _).1 hp).1
                  go_wp2_with fail
                  go_meet
                  exact ⟨_, _, _, _, _, HQb, by omega, by omega, HTc⟩
                · by_cases e4 : q = 4
                  · subst e4
                    have hgc := graphGone HQ8.out.tg.gr hsL (fun k => by have := ofM_len T k; omega) (by omega)
                    have HGC := Lib.hid hgc
                    clear hgc
                    go_wp2_with fail
                    refine HGC.out.mono ?_
                    clear HGC
                    rintro e wa ⟨rfl, fa, hga, hxa⟩
                    have HQa := Lib.hid (HQ8.out.turn1 hga hxa)
                    clear hga hxa HQ8
                    have hwc := wrGone HQa.out.wr (by omega) (s : Int)
                    have HWC := Lib.hid hwc
                    clear hwc
                    go_wp2_with fail
                    refine HWC.out.mono ?_
                    clear HWC
                    rintro e wb ⟨rfl, u', hub, hxb⟩
                    have HQb := Lib.hid (HQa.out.turn2 hub hxb)
                    rw [← ofM_gone] at HQb
                    clear hub hxb HQa
                    have hcl : (goneP T (s : Int)).length ≤ T.length := Nat.le_trans (List.length_filter_le _ _) (clearP_len T _)
                    have HTc : Hid (∀ p ∈ goneP T (s : Int), 0 ≤ p.2 ∧ p.2 ≤ 100) := Lib.hid fun p hp => HTm.out p ((goneP_mem _ _ _).1 hp).1
                    go_wp2_with fail
                    go_meet
                    exact ⟨_, _, _, _, _, HQb, by omega, by omega, HTc⟩
                  · have hws : ws.length ≤ 10 := by have := HM8.out; omega
                    have hgc := graphWait HQ8.out.tg.gr hsL HO8.out.ns (by omega) (by omega)
                    have HGC := Lib.hid hgc
                    clear hgc
                    go_wp2_with fail
                    refine HGC.out.mono ?_
                    clear HGC
                    rintro e wa ⟨rfl, moa, na, fa, hga, hxa, hna⟩
                    have HQa := Lib.hid (HQ8.out.turn1 hga hxa)
                    have hns := (HO8.out.same (w' := wa) fun b e => hxa.block b (HO8.out.lt e).2 fun hf => by
                      have h1 := HLG.out b hf
                      have h2 := (HO8.out.lt e).1
                      omega).ns
                    have hnw : ∀ b, (Value.slice o8 m8 c8).ownBlock = some b → ¬ Wr.F Y u b := fun b e hf => by
                      have h1 := HLW.out b hf
                      have h2 := (HO8.out.lt e).1
                      omega
                    clear hga hxa HQ8
                    have hwc := wrWait HQa.out.wr (by omega) hsL hns (by omega) hnw
                    have HWC := Lib.hid hwc
                    clear hwc hns hnw
                    go_wp2_with fail
                    refine HWC.out.mono ?_
                    clear HWC
                    rintro e wb ⟨rfl, u', hub, hxb⟩
                    have HQb := Lib.hid (HQa.out.turn2 hub hxb)
                    rw [← ofM_wait] at HQb
                    clear hub hxb HQa
                    have hcl := waitP_len T (s : Int) ws
                    have HTc : Hid (∀ p ∈ waitP T (s : Int) ws, 0 ≤ p.2 ∧ p.2 ≤ 100) := Lib.hid fun p hp => by
                      rcases (waitP_mem _ _ _ _).1 hp with h | ⟨_, h, _⟩
                      · exact HTm.out p h.1
                      · have := HW8.out _ h; omega
                    go_wp2_with fail
                    go_meet
                    exact ⟨_, _, _, _, _, HQb, by omega, by omega, HTc⟩
              case rest =>
                obtain ⟨mo', nn', f', u', T', HQc, hnn', hTl', HTm'⟩ := hcut
                clear HQ8 HTm HO8 HM8 HB8 HW8 HLG HLW HNS
                have hmg : MG (ofM T') U100 := ⟨ofM_rise T', fun k x hx => by
                  have := HTm'.out _ ((ofM_mem _ _ _).1 hx)
                  exact U100_mem this.1 this.2⟩
                have HMU := Lib.hid (hmg.mu U100_len)
                clear hmg
                go_wp2_with fail
                go_loopw [10] (fun s10 wx => ∃ j : Nat, s10 = .int .i64 j ∧ j ≤ 7 ∧ Hid (QQ w wx X mo' nn' f' (ofM T') Y u' T')) (fun s10 _ => 7 - (intOf s10).toNat)
                case atStart => exact ⟨0, rfl, by omega, HQc⟩
                case round =>
                  obtain ⟨j, rfl, hj, HQj⟩ := hrel
                  clear HQc
                  by_cases hj7 : (j : Int) < 7
                  · have hjL : I64L (j : Int) := L_small (by omega) (by omega)
                    have hof := graphOf HQj.out.tg.gr hjL (by have := ofM_len T' (j : Int); omega)
                    have HOF := Lib.hid hof
                    clear hof
                    go_wp2_with fail
                    refine HOF.out.mono ?_
                    clear HOF
                    rintro e wa ⟨⟨oa, ca, rfl, hoa⟩, hba⟩
                    have HQa := Lib.hid (HQj.out.below hba)
                    have hwf := wrOf HQa.out.wr (by omega) (j : Int)
                    have HWF := Lib.hid hwf
                    have HOA := Lib.hid hoa
                    clear hba hwf hoa HQj
                    go_wp2_with fail
                    refine HWF.out.mono ?_
                    clear HWF
                    rintro e wb ⟨⟨ob, mb, cb, rfl, hnb⟩, hbb⟩
                    have HQb := Lib.hid (HQa.out.below hbb)
                    have hsa := sameSelfW (HOA.out.below hbb).ns hnb
                    have HSA := Lib.hid hsa
                    clear hbb hsa hnb HOA HQa
                    go_wp2_with fail
                    refine HSA.out.mono ?_
                    clear HSA
                    rintro e wc ⟨rfl, hbc⟩
                    have HQc := Lib.hid (HQb.out.below hbc)
                    have hcy := graphCycle HQc.out.tg.gr HMU.out hjL
                    have HCY := Lib.hid hcy
                    clear hbc HQb hcy
                    go_wp2_with fail
                    refine HCY.out.mono ?_
                    clear HCY
                    rintro e wd ⟨b1, rfl, hr1, hbd⟩
                    have HQd := Lib.hid (HQc.out.below hbd)
                    have hcy := wrCycle HQd.out.wr (by omega) HMU.out hjL
                    have HCY := Lib.hid hcy
                    clear hbd HQc hcy
                    go_wp2_with fail
                    refine HCY.out.mono ?_
                    clear HCY
                    rintro e we ⟨b2, rfl, hr2, hbe⟩
                    have HQe := Lib.hid (HQd.out.below hbe)
                    have hbq : b1 = b2 := Bool.eq_iff_iff.2 (hr1.trans hr2.symm)
                    subst hbq
                    clear hbe HQd hr1 hr2
                    cases b1 <;>
                    · go_wp2_with fail
                      go_roundw
                      case rel => exact ⟨j + 1, by go_num, by omega, HQe⟩
                      case measure => simp [intOf]; omega
                  · obtain rfl : j = 7 := by omega
                    go_wp2_with fail
                    go_roundw
                    case rel => exact ⟨i + 1, mo', nn', f', u', T', by go_num, by omega, HQj, by omega, by omega, HTm'⟩
                    case measure => simp [intOf]; omega
      · obtain rfl : i = n := by omega
        go_wp2_with fail
        go_ret
        exact ⟨rfl, HQi.out.tg.bel⟩
end Go.Proofs.Ytpgelebmhhcodaa
