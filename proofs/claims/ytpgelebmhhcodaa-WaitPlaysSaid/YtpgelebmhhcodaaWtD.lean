/- Contracts of the graph: Of, Clear, Wait. -/
import Derived.Test.YtpgelebmhhcodaaWtC
import Derived.Test.YtpgelebmhhcodaaLkP
import Derived.WalkSpells
import Derived.Maps.OwnOps
import Derived.Deep.Cut
import Derived.Deep.CutRange
import Derived.Deep.RegionHeld3
namespace Go.Proofs.Ytpgelebmhhcodaa
open Go.RowKit
set_option linter.unusedVariables false

theorem graphOf {w : World} {X : Nat} {mo : Option Nat} {n : Nat} {f : Int → Option Value} {M : Int → List Int} (h : Gr w X mo n f M) {s : Int} (hs : I64L s) (hl : (M s).length ≤ 1000) :
    Calls Try.prog 21 #[.pointer (some ⟨X, 0, none⟩), .int .i64 s] w fun e w' => (∃ o c, e = .returned (.slice o (M s).length c) ∧ Oi w.heap.size w' (.slice o (M s).length c) (M s)) ∧ Below w.heap.size w w' := by
  obtain ⟨c0, _⟩ := h.cell
  have hlk := h.look hs
  have hcl := cloneInts (h.row s) (by omega)
  generalize rowAt f s = V at hlk hcl
  have HCL := Lib.hid hcl
  clear hcl h
  go_enter Try.func21, Try.ntmps21
  go_wp2_with fail
  refine HCL.out.mono ?_
  clear HCL
  rintro e w2 ⟨o, c, rfl, hb, ho⟩
  have HB := Lib.hid hb
  have HO := Lib.hid ho
  clear hb ho hlk c0
  go_wp2_with fail
  go_ret
  exact ⟨⟨_, _, rfl, HO.out⟩, HB.out⟩
theorem graphClear {w : World} {X : Nat} {mo : Option Nat} {n : Nat} {f : Int → Option Value} {M : Int → List Int} (h : Gr w X mo n f M) {s : Int} (hs : I64L s) :
    Calls Try.prog 24 #[.pointer (some ⟨X, 0, none⟩), .int .i64 s] w fun e w' => e = .returned (.tuple #[]) ∧ Gr w' X mo n (updM f s none) (updM M s []) ∧ Ext (Gr.F X mo f) w (Gr.F X mo (updM f s none)) w' := by
  obtain ⟨c0, _⟩ := h.cell
  obtain ⟨w2, hrun, hg, hx⟩ := h.strike hs
  have HG := Lib.hid hg
  have HX := Lib.hid hx
  clear h hg hx
  go_enter Try.func24, Try.ntmps24
  go_wp2_with fail
  exact bodyPost_end (results_none rfl _ _ _) rfl ⟨rfl, HG.out, HX.out⟩

/-- whom one waits for then -/
def waitL (who : List Int) (s : Int) : List Int := Lib.compact (sortL (delI who s))
theorem waitL_mem (who : List Int) (s x : Int) : x ∈ waitL who s ↔ x ∈ who ∧ x ≠ s := by
  unfold waitL
  rw [(compact_rise _ (sortL_le _)).2, sortL_mem, delI_mem]
theorem waitL_rise (who : List Int) (s : Int) : (waitL who s).Pairwise (· < ·) := (compact_rise _ (sortL_le _)).1

set_option maxRecDepth 20000 in
set_option maxHeartbeats 4000000 in
theorem graphWait {w : World} {X : Nat} {mo : Option Nat} {n : Nat} {f : Int → Option Value} {M : Int → List Int} (h : Gr w X mo n f M) {s : Int} (hs : I64L s) {u : Value} {who : List Int} (hu : Ns .i64 w u who) (hl : who.length ≤ 1000) (hn : n < 100000) :
    Calls Try.prog 20 #[.pointer (some ⟨X, 0, none⟩), .int .i64 s, u] w fun e w' => e = .returned (.tuple #[]) ∧ ∃ mo' n' f', Gr w' X mo' n' f' (updM M s (waitL who s)) ∧ Ext (Gr.F X mo f) w (Gr.F X mo' f') w' ∧ n' ≤ n + 1 := by
  have HH := Lib.hid h
  have HS := Lib.hid hs
  obtain ⟨W1, hW1⟩ : ∃ W, W = w.alloc (.cells #[.int .i64 s] 3) := ⟨_, rfl⟩
  have hb1 : Below w.heap.size w W1 := by rw [hW1]; exact (Below.refl _ _).alloc (Nat.le_refl _) _
  have hA1 : W1.heap.size = w.heap.size + 1 := by rw [hW1]; simp
  have d3 : W1.cell? ⟨w.heap.size, 0, none⟩ = some (.int .i64 s) := by rw [hW1]; simp [go_sem]
  have hXlt := h.low (.inl rfl)
  obtain ⟨A, hA⟩ : ∃ A, A = w.heap.size := ⟨_, rfl⟩
  obtain ⟨B, hB⟩ : ∃ B, B = W1.heap.size := ⟨_, rfl⟩
  rw [← hA] at d3
  have hcl := cloneInts (hu.below hb1) (by omega)
  have HCL := Lib.hid hcl
  have HW1 := Lib.hid hW1
  have HB1 := Lib.hid hb1
  have HA := Lib.hid hA
  have HBB := Lib.hid hB
  have HD3 := Lib.hid d3
  have hAB : B = A + 1 := by rw [hB, hA]; exact hA1
  have hXA : X < A := by rw [hA]; exact hXlt
  have hmf : ∀ (fn : Fn) (first cap : Array Value) (w : World), (Instr.makeFunc fn first cap).run Try.prog w = .ok (.func fn first cap) w := fun _ _ _ _ => rfl
  have hlen : (delI who s).length ≤ 1000 := Nat.le_trans (delI_len _ _) hl
  have HLEN := Lib.hid hlen
  clear h hs hW1 hb1 hcl hA1 hXlt hA hB d3 hlen
  go_enter Try.func20, Try.ntmps20
  go_upto_region 1 with fail
  rw [← HW1.out, ← HA.out]
  go_wp2_with fail
  refine HCL.out.mono ?_
  clear HCL
  rintro e w2 ⟨o2, c2, rfl, hb2, ho2⟩
  rw [← HBB.out] at ho2
  have hd2 := (hb2.cell (Below.lt HD3.out)).trans HD3.out
  have hdel := deleteWait ho2 (by omega) s ⟨A, 0, none⟩ hd2 (fun e => by have := (ho2.lt e).1; dsimp only at this; omega)
  have HDEL := Lib.hid hdel
  have HB2 := Lib.hid hb2
  have HO2 := Lib.hid ho2
  clear hb2 ho2 hd2 hdel
  go_wp2_with fail
  refine HDEL.out.mono ?_
  clear HDEL
  rintro e w3 ⟨v3, rfl, hv3, ho3, hg3⟩
  have hb3 := HO2.out.grown hg3 HB2.out (by rw [HBB.out]; exact Nat.le_refl _) HB2.out.size
  have hso := sortOi ho3 (by have := HLEN.out; omega)
  obtain ⟨o3', c3, rfl, _⟩ := ho3.form
  have HSO := Lib.hid hso
  have HB3 := Lib.hid hb3
  have HO3 := Lib.hid ho3
  clear hb3 ho3 hso hv3 hg3 HB2 HO2
  go_wp2_with fail
  refine HSO.out.mono ?_
  clear HSO
  rintro e w4 ⟨rfl, ho4, hg4⟩
  have hb4 := HO3.out.grown hg4 HB3.out (by rw [HBB.out]; exact Nat.le_refl _) HB3.out.size
  have HB4 : Hid (Below w.heap.size w w4) := Lib.hid (HB1.out.trans (hb4.mono HB1.out.size))
  have hd4 := (hb4.cell (Below.lt HD3.out)).trans HD3.out
  have HO4 := Lib.hid ho4
  have HB4' := Lib.hid hb4
  have hG4 := HH.out.below HB4.out
  obtain ⟨c0, c1⟩ := hG4.cell
  have HG4 := Lib.hid hG4
  have heq := fun W => run_eql_map_nil (P := Try.prog) W 37 _ _ mo Try.underlying37
  have hmm := @run_makeMap Try.prog
  generalize hL4 : ((delI who s).mergeSort fun x y => decide (x ≤ y)) = L4 at ho4 HO4
  generalize hlen3 : (delI who s).length = m3 at ho4 HO4 HO3 hg4 ⊢
  have HL4 := Lib.hid hL4
  have hm3 : m3 ≤ 1000 := by rw [← hlen3]; exact HLEN.out
  clear ho4 hb4 hG4 hg4 hL4 hlen3 HB3 HO3 HLEN
  go_upto_if 17 with fail
  go_cut [] from 13 (fun wx => ∃ b n', n' ≤ n ∧ Hid (Gr wx X (some b) n' f M) ∧ Hid (Ext (Gr.F X mo f) w (Gr.F X (some b) f) wx) ∧ Hid (Oi B wx (.slice o3' m3 c3) L4) ∧ wx.cell? ⟨A, 0, none⟩ = some (.int .i64 s))
  case first =>
    cases mo with
    | none =>
      obtain ⟨hmk, hmx⟩ := HH.out.make HB4.out
      have HMK := Lib.hid hmk
      have HMX := Lib.hid hmx
      have hsame : ∀ g, g ≠ X → g < w4.heap.size → ((w4.alloc (.map #[] 0)).setCell ⟨X, 0, none⟩ (.map (some w4.heap.size))).heap[g]? = w4.heap[g]? := fun g h1 h2 => by
        rw [setCell_otherL _ _ _ h1]
        exact Below.heap_alloc _ _ _ h2
      have ho5 : Oi B ((w4.alloc (.map #[] 0)).setCell ⟨X, 0, none⟩ (.map (some w4.heap.size))) (.slice o3' m3 c3) L4 := HO4.out.same fun g e => hsame g (by have := (HO4.out.lt e).1; omega) (HO4.out.lt e).2
      have hd5 : ((w4.alloc (.map #[] 0)).setCell ⟨X, 0, none⟩ (.map (some w4.heap.size))).cell? ⟨A, 0, none⟩ = some (.int .i64 s) := (World.cell?_of_block (a := ⟨A, 0, none⟩) (hsame A (by omega) (Below.lt hd4))).trans hd4
      have HO5 := Lib.hid ho5
      have HD5 := Lib.hid hd5
      have e0 : (w4.alloc (.map #[] 0)).cell? ⟨X, 0, none⟩ = some (.map none) := (World.cell?_of_block (a := ⟨X, 0, none⟩) (Below.heap_alloc _ _ _ (Below.lt c0))).trans c0
      have e1 : (w4.alloc (.map #[] 0)).frozen? ⟨X, 0, none⟩ = false := by
        have := (HG4.out.below (((Below.refl _ _).alloc (Nat.le_refl _) (.map #[] 0)))).cell
        exact this.2
      clear hmk hmx hsame ho5 hd5
      go_wp2_with fail
      go_meet
      exact ⟨_, 0, Nat.zero_le _, HMK, HMX, HO5, HD5.out⟩
    | some b =>
      go_wp2_with fail
      go_meet
      exact ⟨b, n, Nat.le_refl _, HG4, Lib.hid (Ext.of_below HB4.out), HO4, hd4⟩
  obtain ⟨b, n', hnn, HG5, HX5, HO5, hd5⟩ := hcut
  clear HG4 HO4 hd4 c0 c1 heq hmm
  obtain ⟨c0, _⟩ := HG5.out.cell
  have hcp := compactOi (HO5.out.below ((Below.refl _ _).drew : Below wc.heap.size wc wc.drew)) (by have := HO5.out.form; obtain ⟨_, _, he, _⟩ := this; simp only [Value.slice.injEq] at he; omega)
  have HCP := Lib.hid hcp
  have HD5 := Lib.hid hd5
  have HP := Lib.hid (fun (w5 : World) (o5 : Option Addr) (c5 : Nat) (ho : Oi B w5 (.slice o5 (Lib.compact L4).length c5) (Lib.compact L4)) (hg : (wc.drew).grownBy w5 (Value.slice o3' m3 c3).ownBlock) => by
    have hx1 : Ext (Gr.F X mo f) w (Gr.F X (some b) f) w5 := (HX5.out.out (grownBy_below ((Below.refl _ _).drew : Below wc.heap.size wc wc.drew)) (r := none) (fun b e => by simp at e)).out hg (fun g e => .inr (by have := (HO5.out.lt e).1; have := HA.out; omega))
    have hrow : ∀ k y g, f k = some y → y.ownBlock = some g → g < A := fun k y g e1 e2 => by have := ((HH.out.own k y e1).lt e2).2; have := HA.out; omega
    have hG6 : Gr w5 X (some b) n' f M := HG5.out.same fun g hf => by
      refine hg.block g (HG5.out.low hf) fun e => ?_
      have h1 := (HO5.out.lt e.symm).1
      rcases hf with rfl | h3 | ⟨k, y, e1, e2⟩
      · omega
      · obtain rfl : b = g := by simpa using h3
        obtain ⟨cur, hc⟩ := HO5.out.blk e.symm
        obtain ⟨es, c, hm⟩ := HG5.out.map.form
        rw [hm] at hc
        simp at hc
      · have := hrow k y g e1 e2; omega
    have hput := hG6.put HS.out (by omega) (ho.mono (Nat.zero_le _)) (fun g e k u ek e1 e2 => by have := hrow k u g e1 e2; have := (ho.lt e).1; omega)
    obtain ⟨w6, q1, q2, q3, q4⟩ := hput
    have hAb : b ≠ A := fun e => by
      obtain ⟨es, c, hm⟩ := HG5.out.map.form
      have := HD5.out
      unfold World.cell? at this
      rw [← e] at this
      dsimp only at this
      rw [hm] at this
      simp at this
    have hA5 : w5.cell? ⟨A, 0, none⟩ = some (.int .i64 s) := (World.cell?_of_block (a := ⟨A, 0, none⟩) (hg.block A (Below.lt HD5.out) (fun e => by have := (HO5.out.lt e.symm).1; omega))).trans HD5.out
    have hA6 : w6.cell? ⟨A, 0, none⟩ = some (.int .i64 s) := (World.cell?_of_block (a := ⟨A, 0, none⟩) (q3.block A (Below.lt hA5) (fun e => hAb (by simpa using e.symm)))).trans hA5
    exact (⟨w6, q1, ⟨q2.cell.1, hA6⟩, q2, hx1.put q3 (fun g e => .inr (by have := (ho.lt e).1; have := HA.out; omega))⟩ : ∃ w6, (Instr.mapUpdate 37 (.map (some b)) (.int .i64 s) (.slice o5 (Lib.compact L4).length c5)).run Try.prog w5 = .ok () w6 ∧ (w6.cell? ⟨X, 0, none⟩ = some (.map (some b)) ∧ w6.cell? ⟨A, 0, none⟩ = some (.int .i64 s)) ∧ Gr w6 X (some b) (n' + 1) (updM f s (some (.slice o5 (Lib.compact L4).length c5))) (updM M s (Lib.compact L4)) ∧ Ext (Gr.F X mo f) w (Gr.F X (some b) (updM f s (some (.slice o5 (Lib.compact L4).length c5)))) w6))
  have HK := Lib.hid (fun (w5 : World) (hg : (wc.drew).grownBy w5 (Value.slice o3' m3 c3).ownBlock) => (⟨(World.cell?_of_block (a := ⟨X, 0, none⟩) (hg.block X (Below.lt c0) (fun e => by have := (HO5.out.lt e.symm).1; omega))).trans c0, (World.cell?_of_block (a := ⟨A, 0, none⟩) (hg.block A (Below.lt hd5) (fun e => by have := (HO5.out.lt e.symm).1; omega))).trans hd5⟩ : w5.cell? ⟨X, 0, none⟩ = some (.map (some b)) ∧ w5.cell? ⟨A, 0, none⟩ = some (.int .i64 s)))
  clear hcp
  go_wp2_with fail
  go_region_held3 (fun W' => W'.cell? ⟨X, 0, none⟩ = some (.map (some b)) ∧ W'.cell? ⟨A, 0, none⟩ = some (.int .i64 s))
    (first | exact hk6 | exact HK.out _ hg5 | exact HK.out _ (World.grownBy.refl _ _) | go_keep)
    ((first | (go_at_call 73; with_reducible refine HCP.out.mono ?_; rintro en w5 ⟨⟨o5, c5, rfl, ho5⟩, hg5⟩; obtain ⟨w6, hrun6, hk6, hq6, hx6⟩ := HP.out w5 o5 c5 ho5 hg5)))
  have HQ6 := Lib.hid hq6
  have HX6 := Lib.hid hx6
  clear hq6 hx6
  go_wp2_with fail
  refine bodyPost_end (results_none rfl _ _ _) rfl ⟨rfl, some b, n' + 1, _, ?_, HX6.out, by omega⟩
  have := HQ6.out
  unfold waitL sortL
  rw [HL4.out]
  exact this
end Go.Proofs.Ytpgelebmhhcodaa
