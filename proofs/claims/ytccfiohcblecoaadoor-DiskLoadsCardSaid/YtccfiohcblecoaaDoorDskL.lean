/- Contract of the disk's Loose. -/
import Derived.Test.YtccfiohcblecoaaDoorDskI
namespace Go.Proofs.YtccfiohcblecoaaDoor
open Go.RowKit
set_option linter.unusedVariables false

theorem looseTo_succ (d : DiskD) (k : Nat) : looseTo d (k + 1) = looseTo d k ++ if (d.sec k).loose.length > 0 then [(k, (d.sec k).loose.length)] else [] := by
  unfold looseTo
  rw [List.range_succ, List.filterMap_append]
  congr 1
  by_cases h : (d.sec k).loose.length > 0
  · simp [h]
  · simp [h]
theorem looseTo_len (d : DiskD) (k : Nat) : (looseTo d k).length ≤ k := by
  unfold looseTo
  exact Nat.le_trans (List.length_filterMap_le _ _) (by simp)

/-- pairs as cells -/
def prC (L : List (Nat × Nat)) : List Value := L.flatMap fun p => [.int .i64 p.1, .int .i64 p.2]
theorem prC_len (L : List (Nat × Nat)) : (prC L).length = L.length * 2 := by
  induction L with
  | nil => rfl
  | cons p L ih => simp only [prC, List.flatMap_cons, List.length_append, List.length_cons, List.length_nil] at ih ⊢; omega
theorem prC_append (L M : List (Nat × Nat)) : prC (L ++ M) = prC L ++ prC M := by simp [prC]
theorem prC_get (L : List (Nat × Nat)) (i : Nat) (h : i < L.length) : (prC L)[i * 2]? = some (.int .i64 ((L.getD i (0, 0)).1 : Nat)) ∧ (prC L)[i * 2 + 1]? = some (.int .i64 ((L.getD i (0, 0)).2 : Nat)) := by
  induction L generalizing i with
  | nil => simp at h
  | cons p L ih =>
    cases i with
    | zero => exact ⟨rfl, rfl⟩
    | succ i =>
      have := ih i (by simpa using h)
      have e : prC (p :: L) = .int .i64 p.1 :: .int .i64 p.2 :: prC L := rfl
      rw [e]
      simpa [show (i + 1) * 2 = i * 2 + 1 + 1 by omega] using this

/-- a list of pairs in a row of its own -/
def PrAt (base : Nat) (w : World) (v : Value) (L : List (Nat × Nat)) : Prop := w.ownsRow base 78 2 v L.length (prC L)
theorem PrAt.nil (base : Nat) (w : World) : PrAt base w (.slice none 0 0) [] := World.ownsRow_nil _ _ _ _
theorem PrAt.below {base : Nat} {w w' : World} {v : Value} {L : List (Nat × Nat)} (h : PrAt base w v L) (hb : Below w.heap.size w w') : PrAt base w' v L := ownsRow_same h fun b e => hb.block b (h.lt b e).2
theorem PrAt.form {base : Nat} {w : World} {v : Value} {L : List (Nat × Nat)} (h : PrAt base w v L) : ∃ o c, v = .slice o L.length c ∧ L.length ≤ c ∧ c ≤ maxLen := by
  rcases h.2 with ⟨hv, hn⟩ | ⟨gb, cap, cur, hv, _, _, hc, hm, _⟩
  · exact ⟨none, 0, by rw [hv, hn], by omega, by simp [maxLen]⟩
  · exact ⟨some ⟨gb, 0, none⟩, cap, hv, hc, hm⟩
theorem PrAt.at_ {base : Nat} {w : World} {v : Value} {L : List (Nat × Nat)} (h : PrAt base w v L) {i : Nat} (hi : i < L.length) :
    ∃ gb c, v = .slice (some ⟨gb, 0, none⟩) L.length c ∧ base ≤ gb ∧ gb < w.heap.size ∧ w.cell? ⟨gb, i * 2, none⟩ = some (.int .i64 ((L.getD i (0, 0)).1 : Nat)) ∧ w.cell? ⟨gb, i * 2 + 1, none⟩ = some (.int .i64 ((L.getD i (0, 0)).2 : Nat)) := by
  rcases h.2 with ⟨hv, hn⟩ | ⟨gb, cap, cur, hv, hb, hg, hc, hm, hcs, ht⟩
  · omega
  · obtain ⟨e1, e2⟩ := prC_get L i hi
    rw [← ht] at e1 e2
    rw [List.getElem?_take, if_pos (by omega)] at e1 e2
    refine ⟨gb, cap, hv, hb, (Array.getElem?_eq_some_iff.1 hg).1, ?_, ?_⟩ <;> rw [cell_of_row w gb _ _ _ (0, 0) hg]
    · simpa using e1
    · simpa using e2

theorem pairInfo : (Tryd.prog.info? 78).map (fun i => (i.zero, i.size, i.bytes)) = some (some (.agg #[.int .i64 0, .int .i64 0]), 2, 16) := by kernel_rfl
theorem pair_laid (w : World) (a b : Int) : (Instr.buildSlice 50 1 #[(0, .agg #[.int .i64 a, .int .i64 b])]).run Tryd.prog w = .ok (.slice (some ⟨w.heap.size, 0, none⟩) 1 1) (w.alloc (.cells #[.int .i64 a, .int .i64 b] 78)) := by kernel_rfl

theorem PrAt.step {base : Nat} {w : World} {v : Value} {L : List (Nat × Nat)} (h : PrAt base w v L) (hbase : base ≤ w.heap.size) (a b : Nat) (hL : L.length ≤ 1000000) :
    ∃ gb cap w2, (Builtin.append_ #[50, 50] 50 #[v, .slice (some ⟨w.heap.size, 0, none⟩) 1 1]).run Tryd.prog (w.alloc (.cells #[.int .i64 a, .int .i64 b] 78)) = .ok (.slice (some ⟨gb, 0, none⟩) (L.length + 1) cap) w2 ∧
      PrAt base w2 (.slice (some ⟨gb, 0, none⟩) (L.length + 1) cap) (L ++ [(a, b)]) ∧ Below base w w2 := by
  obtain ⟨i0, hi0, hz0, hz1, hz2⟩ := info_parts pairInfo
  have hb1 : Below w.heap.size w (w.alloc (.cells #[.int .i64 a, .int .i64 b] 78)) := (Below.refl _ _).alloc (Nat.le_refl _) _
  have hsz1 : (w.alloc (.cells #[.int .i64 a, .int .i64 b] 78)).heap.size = w.heap.size + 1 := allocSize _ _
  obtain ⟨gb, cap, w2, hrun, hown2, hgrow, hat, hlt⟩ := run_append_lies (P := Tryd.prog) (w.alloc (.cells #[.int .i64 a, .int .i64 b] 78)) 50 50 base 78 i0 _ 2 16 Tryd.underlying50 hi0 hz0 hz1 hz2 rfl (by omega)
    v L.length (prC L) (ownsRow_same h fun b e => hb1.block b (h.lt b e).2) ⟨w.heap.size, 0, none⟩ 1 1 [.int .i64 a, .int .i64 b] rfl (World.news_of_block (cs := #[.int .i64 a, .int .i64 b]) (t := 78) (fr := (0, 0)) (heap_alloc_new w _)) (by simp [Value.oneCell']) (by omega) (by simp [maxLen]; omega) (by omega) (by omega) _ rfl
  refine ⟨gb, cap, w2, hrun, ?_, (hb1.mono hbase).grown hgrow (by omega) fun k e => (h.lt k e).1⟩
  unfold PrAt
  rw [prC_append, List.length_append]
  exact hown2

theorem wpList_buildSlice_run {P : Program} (w : World) {ops : Array Oper} {rest : List Oper} {o : Oper} {a : Act} {Q : Exit → Act → World → Prop} (hgd : o.guard = none) (t : TypeId) (n : Nat) (ps : Array (Nat × Operand))
    (ho : o.op = .buildSlice t n ps) (vs : Array (Nat × Value)) (hv : (ps.map fun (i, x) => (i, a.eval x)) = vs) (v' : Value) (w' : World) (hr : (Instr.buildSlice t n vs).run P w = .ok v' w') (h : wpList P ops Q rest (a.put o.dst v') w') : wpList P ops Q (o :: rest) a w :=
  wpList_plain hgd fun _ hK => wp_buildSlice_run t n ps ho vs hv v' w' hr (hK _ _ h)

set_option maxRecDepth 20000 in
set_option maxHeartbeats 2000000 in
theorem dskLoose {w : World} {H : Nat} {d : DiskD} {g : DG} (h : Dk w H d g) :
    Calls Tryd.prog 31 #[.pointer (some ⟨H, 0, none⟩)] w fun e w' => (∃ v, e = .returned v ∧ PrAt w.heap.size w' v (looseD d)) ∧ Below w.heap.size w w' := by
  obtain ⟨c0, c1, c2, f0, f1, f2⟩ := h.headCells
  have hn := h.n2
  have hc := h.capn
  have hcm := h.capm
  unfold maxLen at hcm
  have HK := Lib.hid h
  unfold looseD
  clear h
  obtain ⟨n, hnn⟩ : ∃ n, n = d.l.length := ⟨_, rfl⟩
  rw [← hnn] at c0 hn hc ⊢
  have HNN := Lib.hid hnn
  clear hnn
  go_enter Tryd.func31, Tryd.ntmps31
  go_wp2_with fail
  clear c0 c1 c2 f0 f1 f2
  go_loopw [3, 11] (fun v i wr => ∃ k : Nat, i = .int .i64 k ∧ (k : Int) ≤ n ∧ Hid (Below w.heap.size w wr) ∧ Hid (PrAt w.heap.size wr v (looseTo d k))) (fun _ i _ => n - (intOf i).toNat)
  case atStart => exact ⟨0, rfl, by omega, Lib.hid (Below.refl _ _), Lib.hid (PrAt.nil _ _)⟩
  case round =>
    obtain ⟨k, rfl, hk, HBR, HIR⟩ := hrel
    obtain ⟨o3, c3, hv3, hl3, hm3⟩ := HIR.out.form
    subst hv3
    unfold maxLen at hm3
    have hll := looseTo_len d k
    by_cases hk2 : (k : Int) < n
    · have hkn : k < d.l.length := by have := HNN.out; omega
      have hd := HK.out.below HBR.out
      obtain ⟨s0, s1, sf⟩ := hd.secCells hkn
      have hx := hd.sec k hkn
      have hmany := hx.many
      obtain ⟨ov, cv, hV, hV1, hV2⟩ := hd.sec_slice hkn
      unfold maxLen at hV2
      obtain ⟨_, ou, cu, hU, _, _, _, _⟩ := hx.fast.1
      rw [hx.flen] at hU
      rw [hU] at s0
      rw [hV] at s1
      have hsucc := looseTo_succ d k
      generalize (d.sec k).loose.length = nv at s1 hsucc hmany hV1
      have hal : Below wr.heap.size wr (wr.alloc (.cells #[.slice ou 256 cu, .slice ov nv cv] 100)) := (Below.refl _ _).alloc (Nat.le_refl _) _
      have hrow := heap_alloc_new wr (.cells #[.slice ou 256 cu, .slice ov nv cv] 100)
      have HB2 : Hid (Below w.heap.size w (wr.alloc (.cells #[.slice ou 256 cu, .slice ov nv cv] 100))) := Lib.hid (HBR.out.trans (hal.mono HBR.out.size))
      have HP2 := Lib.hid (HIR.out.below hal)
      by_cases hz : nv = 0
      · subst hz
        have e : looseTo d (k + 1) = looseTo d k := by rw [hsucc]; simp
        rw [← e] at HP2
        rw [← e]
        clear e hsucc hd hx hal HIR HBR hkn sf hU hV hrow
        go_wp2_with fail
        go_roundw
        case rel => exact ⟨k + 1, by go_num, by omega, HB2, HP2⟩
        case measure => simp [intOf]; omega
      · have hpos : (0 : Int) < nv := by omega
        have e : looseTo d (k + 1) = looseTo d k ++ [(k, nv)] := by rw [hsucc, if_pos (by omega)]
        obtain ⟨gb, cap, w2, hrun, hp, hbb⟩ := HP2.out.step (HB2.out.size) k nv (by omega)
        rw [← e] at hp
        rw [allocSize] at hrun
        have hle : (looseTo d k).length ≤ 1000000 := by omega
        generalize (looseTo d k).length = nl at *
        have HP3 := Lib.hid hp
        have HB3 := Lib.hid (HB2.out.trans hbb)
        clear e hsucc hd hx hal HIR HBR hkn sf hU hV hrow hp hbb HP2 HB2 hz
        go_wp2_with (at_builtin; refine Lib.wpList_append_run _ rfl _ _ _ _ rfl _ _ rfl rfl _ _ hrun ?_)
        go_roundw
        case rel => exact ⟨k + 1, by go_num, by omega, HB3, HP3⟩
        case measure => simp [intOf]; omega
    · obtain rfl : k = n := by omega
      go_wp2_with fail
      go_ret
      first | exact ⟨⟨_, rfl, HIR.out⟩, HBR.out⟩ | exact ⟨HIR.out, HBR.out⟩
end Go.Proofs.YtccfiohcblecoaaDoor
