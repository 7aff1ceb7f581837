/- Contract of the disk's Image. -/
import Derived.Test.YtoikdhfihkbcbaaDoorDskN
import Derived.Lib.AppendZerosOnto
import Derived.Test.YtoikdhfihkbcbaaDoorDskS
import Derived.Test.YtoikdhfihkbcbaaDoorDskA
namespace Go.Proofs.YtoikdhfihkbcbaaDoor
open Go.RowKit
set_option linter.unusedVariables false

/-- a list of lists of bytes, all its own -/
def ImgAt (base : Nat) (w : World) (v : Value) (L : List (List Int)) : Prop :=
  ∃ xs : List Value, w.ownsRow base 33 1 v L.length xs ∧ ∀ i, i < L.length → Ob 5 base w (xs.getD i undef) (L.getD i []) ∧ ∀ b, (xs.getD i undef).ownBlock = some b → v.ownBlock ≠ some b
theorem ImgAt.nil (base : Nat) (w : World) : ImgAt base w (.slice none 0 0) [] := ⟨[], World.ownsRow_nil _ _ _ _, fun i hi => absurd hi (by simp)⟩
theorem Ob.lt {e : TypeId} {base : Nat} {w : World} {v : Value} {l : List Int} (h : Ob e base w v l) {b : Nat} (hb : v.ownBlock = some b) : base ≤ b ∧ b < w.heap.size := h.2.lt b hb
theorem Ob.same {e : TypeId} {base : Nat} {w w' : World} {v : Value} {l : List Int} (h : Ob e base w v l) (hb : ∀ b, v.ownBlock = some b → w'.heap[b]? = w.heap[b]?) : Ob e base w' v l := ⟨h.1, ownsRow_same h.2 hb⟩
theorem ImgAt.below {base : Nat} {w w' : World} {v : Value} {L : List (List Int)} (h : ImgAt base w v L) (hb : Below w.heap.size w w') : ImgAt base w' v L := by
  obtain ⟨xs, h1, h2⟩ := h
  exact ⟨xs, ownsRow_same h1 fun b e => hb.block b (h1.lt b e).2, fun i hi => ⟨(h2 i hi).1.below hb, (h2 i hi).2⟩⟩
theorem ImgAt.form {base : Nat} {w : World} {v : Value} {L : List (List Int)} (h : ImgAt base w v L) : ∃ o c, v = .slice o L.length c ∧ L.length ≤ c ∧ c ≤ maxLen := by
  obtain ⟨xs, h1, _⟩ := h
  rcases h1.2 with ⟨hv, hn⟩ | ⟨gb, cap, cur, hv, _, _, hc, hm, _⟩
  · exact ⟨none, 0, by rw [hv, hn], by omega, by simp [maxLen]⟩
  · exact ⟨some ⟨gb, 0, none⟩, cap, hv, hc, hm⟩

/-- one list of bytes more -/
theorem ImgAt.step {base : Nat} {w W : World} {v : Value} {L : List (List Int)} (h : ImgAt base w v L) (hb : Below w.heap.size w W) (hbase : base ≤ w.heap.size) (x : Value) (l : List Int) (hx : Ob 5 w.heap.size W x l) (hL : L.length ≤ 1000000) (o : Option Addr) (n c : Nat) (hxv : x = .slice o n c) :
    ∃ gb cap w2, (Builtin.append_ #[48, 48] 48 #[v, .slice (some ⟨W.heap.size, 0, none⟩) 1 1]).run Tryd.prog (W.alloc (.cells #[x] 33)) = .ok (.slice (some ⟨gb, 0, none⟩) (L.length + 1) cap) w2 ∧
      ImgAt base w2 (.slice (some ⟨gb, 0, none⟩) (L.length + 1) cap) (L ++ [l]) ∧ Below base w w2 := by
  obtain ⟨i0, hi0, hz0, hz1, hz2⟩ := info_parts secInfo
  obtain ⟨xs, hown, hel⟩ := h
  have hb1 : Below w.heap.size w (W.alloc (.cells #[x] 33)) := hb.alloc hb.size _
  have hsz1 : (W.alloc (.cells #[x] 33)).heap.size = W.heap.size + 1 := allocSize _ _
  have hW := hb.size
  have hvlt := fun b e => (hown.lt b e).2
  have hown1 : (W.alloc (.cells #[x] 33)).ownsRow base 33 1 v L.length xs := ownsRow_same hown fun b e => hb1.block b (hvlt b e)
  have hx1 : Ob 5 w.heap.size (W.alloc (.cells #[x] 33)) x l := hx.below ((Below.refl _ _).alloc (Nat.le_refl _) _)
  obtain ⟨gb, cap, w2, hrun, hown2, hgrow, hat, hlt⟩ := run_append_lies (P := Tryd.prog) (W.alloc (.cells #[x] 33)) 48 48 base 33 i0 _ 1 24 Tryd.underlying48 hi0 hz0 hz1 hz2 rfl (by omega)
    v L.length xs hown1 ⟨W.heap.size, 0, none⟩ 1 1 [x] rfl (World.news_of_block (cs := #[x]) (t := 33) (fr := (0, 0)) (heap_alloc_new W _)) (by rw [hxv]; simp [Value.oneCell']) (by omega) (by simp [maxLen]; omega) (by omega) (by omega) _ rfl
  have hgb : v.ownBlock = some gb ∨ (W.alloc (.cells #[x] 33)).heap.size ≤ gb := hat.imp id fun e => Nat.le_of_eq e.symm
  have hkeep : ∀ c, c < W.heap.size + 1 → v.ownBlock ≠ some c → w2.heap[c]? = (W.alloc (.cells #[x] 33)).heap[c]? := fun c hc hne => hgrow.block c (by omega) fun e => hne e.symm
  refine ⟨gb, cap, w2, hrun, ⟨xs ++ [x], ?_, fun i hi => ?_⟩, (hb1.mono hbase).grown hgrow (by omega) fun k e => (hown.lt k e).1⟩
  · have e : (L ++ [l]).length = L.length + 1 := by simp
    rw [e]; exact hown2
  · have hi' : i < L.length + 1 := by simpa using hi
    have hxl : xs.length = L.length := by have := hown.1; omega
    by_cases hi2 : i < L.length
    · obtain ⟨ho, hs⟩ := hel i hi2
      rw [List.getD_eq_getElem?_getD, List.getElem?_append_left (by omega), ← List.getD_eq_getElem?_getD]
      rw [List.getD_eq_getElem?_getD (l := L ++ [l]), List.getElem?_append_left hi2, ← List.getD_eq_getElem?_getD]
      refine ⟨ho.same fun b e => ?_, fun b e e2 => ?_⟩
      · rw [hkeep b (by have := (ho.lt e).2; omega) (hs b e)]
        exact hb1.block b (ho.lt e).2
      · have e' : gb = b := by simpa [Value.ownBlock] using e2
        subst e'
        rcases hgb with e1 | e1
        · exact hs gb e e1
        · have := (ho.lt e).2; omega
    · obtain rfl : i = L.length := by omega
      have e1 : (xs ++ [x]).getD L.length undef = x := by rw [← hxl]; simp
      have e2 : (L ++ [l]).getD L.length [] = l := by simp
      rw [e1, e2]
      have hr : ∀ b, x.ownBlock = some b → w.heap.size ≤ b ∧ b < W.heap.size := fun b e => hx.lt e
      refine ⟨((hx1.same fun b e => ?_).mono hbase), fun b e e3 => ?_⟩
      · exact hkeep b (by have := hr b e; omega) fun e3 => by have := hvlt b e3; have := hr b e; omega
      · have e' : gb = b := by simpa [Value.ownBlock] using e3
        subst e'
        rcases hgb with e4 | e4
        · have := hvlt gb e4; have := hr gb e; omega
        · have := hr gb e; omega

theorem looseTo_succ (d : DiskD) (k : Nat) : looseTo d (k + 1) = looseTo d k ++ if (d.sec k).loose.length > 0 then [(k, (d.sec k).loose.length)] else [] := by
  unfold looseTo
  rw [List.range_succ, List.filterMap_append]
  congr 1
  by_cases h : (d.sec k).loose.length > 0
  · simp [h]
  · simp [h]
theorem looseTo_len (d : DiskD) (k : Nat) : (looseTo d k).length ≤ k := by
  unfold looseTo
  exact Nat.le_trans (List.length_filterMap_le _ _) (by simp)

/-- pairs as cells -/
def prC (L : List (Nat × Nat)) : List Value := L.flatMap fun p => [.int .i64 p.1, .int .i64 p.2]
theorem prC_len (L : List (Nat × Nat)) : (prC L).length = L.length * 2 := by
  induction L with
  | nil => rfl
  | cons p L ih => simp only [prC, List.flatMap_cons, List.length_append, List.length_cons, List.length_nil] at ih ⊢; omega
theorem prC_append (L M : List (Nat × Nat)) : prC (L ++ M) = prC L ++ prC M := by simp [prC]
theorem prC_get (L : List (Nat × Nat)) (i : Nat) (h : i < L.length) : (prC L)[i * 2]? = some (.int .i64 ((L.getD i (0, 0)).1 : Nat)) ∧ (prC L)[i * 2 + 1]? = some (.int .i64 ((L.getD i (0, 0)).2 : Nat)) := by
  induction L generalizing i with
  | nil => simp at h
  | cons p L ih =>
    cases i with
    | zero => exact ⟨rfl, rfl⟩
    | succ i =>
      have := ih i (by simpa using h)
      have e : prC (p :: L) = .int .i64 p.1 :: .int .i64 p.2 :: prC L := rfl
      rw [e]
      simpa [show (i + 1) * 2 = i * 2 + 1 + 1 by omega] using this

/-- a list of pairs in a row of its own -/
def PrAt (base : Nat) (w : World) (v : Value) (L : List (Nat × Nat)) : Prop := w.ownsRow base 110 2 v L.length (prC L)
theorem PrAt.nil (base : Nat) (w : World) : PrAt base w (.slice none 0 0) [] := World.ownsRow_nil _ _ _ _
theorem PrAt.below {base : Nat} {w w' : World} {v : Value} {L : List (Nat × Nat)} (h : PrAt base w v L) (hb : Below w.heap.size w w') : PrAt base w' v L := ownsRow_same h fun b e => hb.block b (h.lt b e).2
theorem PrAt.form {base : Nat} {w : World} {v : Value} {L : List (Nat × Nat)} (h : PrAt base w v L) : ∃ o c, v = .slice o L.length c ∧ L.length ≤ c ∧ c ≤ maxLen := by
  rcases h.2 with ⟨hv, hn⟩ | ⟨gb, cap, cur, hv, _, _, hc, hm, _⟩
  · exact ⟨none, 0, by rw [hv, hn], by omega, by simp [maxLen]⟩
  · exact ⟨some ⟨gb, 0, none⟩, cap, hv, hc, hm⟩
theorem PrAt.at_ {base : Nat} {w : World} {v : Value} {L : List (Nat × Nat)} (h : PrAt base w v L) {i : Nat} (hi : i < L.length) :
    ∃ gb c, v = .slice (some ⟨gb, 0, none⟩) L.length c ∧ base ≤ gb ∧ gb < w.heap.size ∧ w.cell? ⟨gb, i * 2, none⟩ = some (.int .i64 ((L.getD i (0, 0)).1 : Nat)) ∧ w.cell? ⟨gb, i * 2 + 1, none⟩ = some (.int .i64 ((L.getD i (0, 0)).2 : Nat)) := by
  rcases h.2 with ⟨hv, hn⟩ | ⟨gb, cap, cur, hv, hb, hg, hc, hm, hcs, ht⟩
  · omega
  · obtain ⟨e1, e2⟩ := prC_get L i hi
    rw [← ht] at e1 e2
    rw [List.getElem?_take, if_pos (by omega)] at e1 e2
    refine ⟨gb, cap, hv, hb, (Array.getElem?_eq_some_iff.1 hg).1, ?_, ?_⟩ <;> rw [cell_of_row w gb _ _ _ (0, 0) hg]
    · simpa using e1
    · simpa using e2

theorem pairInfo : (Tryd.prog.info? 110).map (fun i => (i.zero, i.size, i.bytes)) = some (some (.agg #[.int .i64 0, .int .i64 0]), 2, 16) := by kernel_rfl
theorem pair_laid (w : World) (a b : Int) : (Instr.buildSlice 108 1 #[(0, .agg #[.int .i64 a, .int .i64 b])]).run Tryd.prog w = .ok (.slice (some ⟨w.heap.size, 0, none⟩) 1 1) (w.alloc (.cells #[.int .i64 a, .int .i64 b] 110)) := by kernel_rfl

theorem PrAt.step {base : Nat} {w : World} {v : Value} {L : List (Nat × Nat)} (h : PrAt base w v L) (hbase : base ≤ w.heap.size) (a b : Nat) (hL : L.length ≤ 1000000) :
    ∃ gb cap w2, (Builtin.append_ #[108, 108] 108 #[v, .slice (some ⟨w.heap.size, 0, none⟩) 1 1]).run Tryd.prog (w.alloc (.cells #[.int .i64 a, .int .i64 b] 110)) = .ok (.slice (some ⟨gb, 0, none⟩) (L.length + 1) cap) w2 ∧
      PrAt base w2 (.slice (some ⟨gb, 0, none⟩) (L.length + 1) cap) (L ++ [(a, b)]) ∧ Below base w w2 := by
  obtain ⟨i0, hi0, hz0, hz1, hz2⟩ := info_parts pairInfo
  have hb1 : Below w.heap.size w (w.alloc (.cells #[.int .i64 a, .int .i64 b] 110)) := (Below.refl _ _).alloc (Nat.le_refl _) _
  have hsz1 : (w.alloc (.cells #[.int .i64 a, .int .i64 b] 110)).heap.size = w.heap.size + 1 := allocSize _ _
  obtain ⟨gb, cap, w2, hrun, hown2, hgrow, hat, hlt⟩ := run_append_lies (P := Tryd.prog) (w.alloc (.cells #[.int .i64 a, .int .i64 b] 110)) 108 108 base 110 i0 _ 2 16 Tryd.underlying108 hi0 hz0 hz1 hz2 rfl (by omega)
    v L.length (prC L) (ownsRow_same h fun b e => hb1.block b (h.lt b e).2) ⟨w.heap.size, 0, none⟩ 1 1 [.int .i64 a, .int .i64 b] rfl (World.news_of_block (cs := #[.int .i64 a, .int .i64 b]) (t := 110) (fr := (0, 0)) (heap_alloc_new w _)) (by simp [Value.oneCell']) (by omega) (by simp [maxLen]; omega) (by omega) (by omega) _ rfl
  refine ⟨gb, cap, w2, hrun, ?_, (hb1.mono hbase).grown hgrow (by omega) fun k e => (h.lt k e).1⟩
  unfold PrAt
  rw [prC_append, List.length_append]
  exact hown2

theorem wpList_buildSlice_run {P : Program} (w : World) {ops : Array Oper} {rest : List Oper} {o : Oper} {a : Act} {Q : Exit → Act → World → Prop} (hgd : o.guard = none) (t : TypeId) (n : Nat) (ps : Array (Nat × Operand))
    (ho : o.op = .buildSlice t n ps) (vs : Array (Nat × Value)) (hv : (ps.map fun (i, x) => (i, a.eval x)) = vs) (v' : Value) (w' : World) (hr : (Instr.buildSlice t n vs).run P w = .ok v' w') (h : wpList P ops Q rest (a.put o.dst v') w') : wpList P ops Q (o :: rest) a w :=
  wpList_plain hgd fun _ hK => wp_buildSlice_run t n ps ho vs hv v' w' hr (hK _ _ h)

set_option maxRecDepth 20000 in
set_option maxHeartbeats 2000000 in
theorem dskLoose {w : World} {H : Nat} {d : DiskD} {g : DG} (h : Dk w H d g) :
    Calls Tryd.prog 66 #[.pointer (some ⟨H, 0, none⟩)] w fun e w' => (∃ v, e = .returned v ∧ PrAt w.heap.size w' v (looseD d)) ∧ Below w.heap.size w w' := by
  obtain ⟨c0, c1, c2, f0, f1, f2⟩ := h.headCells
  have hn := h.n2
  have hc := h.capn
  have hcm := h.capm
  unfold maxLen at hcm
  have HK := Lib.hid h
  unfold looseD
  clear h
  obtain ⟨n, hnn⟩ : ∃ n, n = d.l.length := ⟨_, rfl⟩
  rw [← hnn] at c0 hn hc ⊢
  have HNN := Lib.hid hnn
  clear hnn
  go_enter Tryd.func66, Tryd.ntmps66
  go_wp2_with fail
  clear c0 c1 c2 f0 f1 f2
  go_loopw [3, 11] (fun v i wr => ∃ k : Nat, i = .int .i64 k ∧ (k : Int) ≤ n ∧ Hid (Below w.heap.size w wr) ∧ Hid (PrAt w.heap.size wr v (looseTo d k))) (fun _ i _ => n - (intOf i).toNat)
  case atStart => exact ⟨0, rfl, by omega, Lib.hid (Below.refl _ _), Lib.hid (PrAt.nil _ _)⟩
  case round =>
    obtain ⟨k, rfl, hk, HBR, HIR⟩ := hrel
    obtain ⟨o3, c3, hv3, hl3, hm3⟩ := HIR.out.form
    subst hv3
    unfold maxLen at hm3
    have hll := looseTo_len d k
    by_cases hk2 : (k : Int) < n
    · have hkn : k < d.l.length := by have := HNN.out; omega
      have hd := HK.out.below HBR.out
      obtain ⟨s0, s1, sf⟩ := hd.secCells hkn
      have hx := hd.sec k hkn
      have hmany := hx.many
      obtain ⟨ov, cv, hV, hV1, hV2⟩ := hd.sec_slice hkn
      unfold maxLen at hV2
      obtain ⟨_, ou, cu, hU, _, _, _, _⟩ := hx.fast.1
      rw [hx.flen] at hU
      rw [hU] at s0
      rw [hV] at s1
      have hsucc := looseTo_succ d k
      generalize (d.sec k).loose.length = nv at s1 hsucc hmany hV1
      have hal : Below wr.heap.size wr (wr.alloc (.cells #[.slice ou 256 cu, .slice ov nv cv] 95)) := (Below.refl _ _).alloc (Nat.le_refl _) _
      have hrow := heap_alloc_new wr (.cells #[.slice ou 256 cu, .slice ov nv cv] 95)
      have HB2 : Hid (Below w.heap.size w (wr.alloc (.cells #[.slice ou 256 cu, .slice ov nv cv] 95))) := Lib.hid (HBR.out.trans (hal.mono HBR.out.size))
      have HP2 := Lib.hid (HIR.out.below hal)
      by_cases hz : nv = 0
      · subst hz
        have e : looseTo d (k + 1) = looseTo d k := by rw [hsucc]; simp
        rw [← e] at HP2
        rw [← e]
        clear e hsucc hd hx hal HIR HBR hkn sf hU hV hrow
        go_wp2_with fail
        go_roundw
        case rel => exact ⟨k + 1, by go_num, by omega, HB2, HP2⟩
        case measure => simp [intOf]; omega
      · have hpos : (0 : Int) < nv := by omega
        have e : looseTo d (k + 1) = looseTo d k ++ [(k, nv)] := by rw [hsucc, if_pos (by omega)]
        obtain ⟨gb, cap, w2, hrun, hp, hbb⟩ := HP2.out.step (HB2.out.size) k nv (by omega)
        rw [← e] at hp
        rw [allocSize] at hrun
        have hle : (looseTo d k).length ≤ 1000000 := by omega
        generalize (looseTo d k).length = nl at *
        have HP3 := Lib.hid hp
        have HB3 := Lib.hid (HB2.out.trans hbb)
        clear e hsucc hd hx hal HIR HBR hkn sf hU hV hrow hp hbb HP2 HB2 hz
        go_wp2_with (at_builtin; refine Lib.wpList_append_run _ rfl _ _ _ _ rfl _ _ rfl rfl _ _ hrun ?_)
        go_roundw
        case rel => exact ⟨k + 1, by go_num, by omega, HB3, HP3⟩
        case measure => simp [intOf]; omega
    · obtain rfl : k = n := by omega
      go_wp2_with fail
      go_ret
      first | exact ⟨⟨_, rfl, HIR.out⟩, HBR.out⟩ | exact ⟨HIR.out, HBR.out⟩

def clrS (s : SecD) : SecD := ⟨s.fast, []⟩
theorem onD_eq (d : DiskD) : onD d = ⟨d.l.map clrS, false, -1⟩ := rfl
theorem onD_len (d : DiskD) : (onD d).l.length = d.l.length := by simp [onD]

set_option maxRecDepth 20000 in
set_option maxHeartbeats 2000000 in
theorem dskOn {w : World} {H : Nat} {d : DiskD} {g : DG} (h : Dk w H d g) :
    Calls Tryd.prog 67 #[.pointer (some ⟨H, 0, none⟩)] w fun e w' => e = .returned (.tuple #[]) ∧ ∃ g', Dk w' H (onD d) g' ∧ Ext (g.F H d.l.length) w (g'.F H (onD d).l.length) w' := by
  obtain ⟨c0, _, _, _, _, _⟩ := h.headCells
  have hn2 := h.n2
  have hcp := h.capn
  have hcm := h.capm
  unfold maxLen at hcm
  rw [onD_len]
  have HX0 : Hid (Ext (g.F H d.l.length) w (g.F H d.l.length) w) := Lib.hid (Ext.refl _ _)
  rw [← mapTo_zero clrS d] at h
  have HD0 := Lib.hid h
  obtain ⟨n, hnn⟩ : ∃ n, n = d.l.length := ⟨_, rfl⟩
  have HNN := Lib.hid hnn
  rw [← hnn] at c0 hn2 hcp
  clear h hnn
  go_enter Tryd.func67, Tryd.ntmps67
  go_wp2_with fail
  clear c0 hcp hcm
  go_loopw [8] (fun i wr => ∃ k : Nat, i = .int .i64 k ∧ (k : Int) ≤ n ∧ ∃ gr, Hid (Dk wr H (mapTo clrS d k) gr) ∧ Hid (Ext (g.F H d.l.length) w (gr.F H d.l.length) wr)) (fun i _ => n - (intOf i).toNat)
  case atStart => exact ⟨0, rfl, by omega, g, HD0, HX0⟩
  case round =>
    obtain ⟨k, rfl, hk, gr, HDR, HXR⟩ := hrel
    have hml : (mapTo clrS d k).l.length = n := by rw [mapTo_len, HNN.out]
    obtain ⟨c0, c1, c2, f0, f1, f2⟩ := HDR.out.headCells
    have hcp := HDR.out.capn
    have hcm := HDR.out.capm
    unfold maxLen at hcm
    rw [hml] at c0 hcp
    by_cases hk2 : (k : Int) < n
    · have hkn : k < (mapTo clrS d k).l.length := by rw [hml]; omega
      obtain ⟨s0, s1, sf⟩ := HDR.out.secCells hkn
      have sf1 := sf (k * 2 + 1)
      have hsc := mapTo_succ clrS d k (by rw [HNN.out] at hk2; omega)
      obtain ⟨g', hdn, hxn⟩ := HDR.out.clrStep k hkn
      have e : ({ mapTo clrS d k with l := (mapTo clrS d k).l.set k ⟨((mapTo clrS d k).sec k).fast, []⟩ } : DiskD) = mapTo clrS d (k + 1) := by rw [hsc]; rfl
      rw [e] at hdn
      rw [hml, HNN.out] at hxn
      have HDN := Lib.hid hdn
      have HXN := Lib.hid (HXR.out.trans hxn)
      clear hsc hkn hml HDR sf hdn hxn HXR e c1 c2 f0 f1 f2 s0
      go_wp2_with fail
      go_roundw
      case rel => exact ⟨k + 1, by go_num, by omega, g', HDN, HXN⟩
      case measure => simp [intOf]; omega
    · obtain rfl : k = n := by omega
      have hdr := HDR.out
      rw [HNN.out, mapTo_all] at hdr
      have h1 := hdr.setOff false
      have h2 := h1.setFuse (-1) (by omega) (by omega)
      have hx : Ext (gr.F H d.l.length) wr (gr.F H d.l.length) ((wr.setCell ⟨H, 1, none⟩ (.bool false)).setCell ⟨H, 2, none⟩ (.int .i64 (-1))) := (ext_setCell (.inl rfl) 1 _).trans (ext_setCell (.inl rfl) 2 _)
      obtain ⟨_, _, c3, _, _, f3⟩ := h1.headCells
      have HD2 := Lib.hid h2
      have HX2 := Lib.hid (HXR.out.trans hx)
      clear hdr h1 h2 hx HDR HXR
      go_wp2_with fail
      exact bodyPost_end (results_none rfl _ _ _) rfl ⟨rfl, gr, HD2.out, HX2.out⟩

/-- what a crash keeps of a sector -/
def crOne (s : SecD) (q : Int) : SecD := if 0 < (q % (s.loose.length + 1)) then ⟨s.loose.getD ((q % (s.loose.length + 1)).toNat - 1) [], s.loose⟩ else s
/-- the first j loose sectors, each as it is kept -/
def crashTo (d : DiskD) (keep : List Int) : Nat → DiskD
  | 0 => d
  | j + 1 =>
    let D := crashTo d keep j
    let i := ((looseD d).getD j (0, 0)).1
    if j < keep.length ∧ 0 ≤ keep.getD j 0 then { D with l := D.l.set i (crOne (D.sec i) (keep.getD j 0)) } else D
def crashD (d : DiskD) (keep : List Int) : DiskD := onD (crashTo d keep (looseD d).length)
theorem crashTo_len (d : DiskD) (keep : List Int) (j : Nat) : (crashTo d keep j).l.length = d.l.length := by
  induction j with
  | zero => rfl
  | succ j ih =>
    unfold crashTo
    simp only
    split
    · simpa using ih
    · exact ih
theorem crOne_loose (s : SecD) (q : Int) : (crOne s q).loose = s.loose := by unfold crOne; split <;> rfl
theorem crashTo_loose (d : DiskD) (keep : List Int) (j i : Nat) : ((crashTo d keep j).sec i).loose = (d.sec i).loose := by
  induction j with
  | zero => rfl
  | succ j ih =>
    unfold crashTo
    simp only
    split
    · rw [← ih]
      unfold DiskD.sec
      simp only [List.getD_eq_getElem?_getD, List.getElem?_set]
      split
      · rename_i e
        split
        · rename_i h2
          simp only [Option.getD_some]
          rw [crOne_loose, e]
        · rename_i h2
          rw [List.getElem?_eq_none (by omega)]
      · rfl
    · exact ih
theorem looseTo_mem (d : DiskD) (n : Nat) (j : Nat) (h : j < (looseTo d n).length) : ((looseTo d n).getD j (0, 0)).1 < n ∧ ((looseTo d n).getD j (0, 0)).2 = (d.sec ((looseTo d n).getD j (0, 0)).1).loose.length ∧ 0 < ((looseTo d n).getD j (0, 0)).2 := by
  have hm : (looseTo d n).getD j (0, 0) ∈ looseTo d n := by rw [getD_lt h]; exact List.getElem_mem h
  generalize (looseTo d n).getD j (0, 0) = p at hm ⊢
  unfold looseTo at hm
  rw [List.mem_filterMap] at hm
  obtain ⟨i, hi, he⟩ := hm
  rw [List.mem_range] at hi
  by_cases hp : (d.sec i).loose.length > 0
  · rw [if_pos hp] at he
    simp only [Option.some.injEq] at he
    subst he
    exact ⟨hi, rfl, hp⟩
  · rw [if_neg hp] at he; cases he

/-- one of the loose versions made fast -/
theorem Dk.crashStep {w : World} {H : Nat} {d : DiskD} {g : DG} (h : Dk w H d g) (i : Nat) (hi : i < d.l.length) (n : Nat) (hn1 : 0 < n) (hn2 : n ≤ (d.sec i).loose.length) :
    ∃ gb c ox cx g', g.V i = .slice (some ⟨gb, 0, none⟩) (d.sec i).loose.length c ∧ (d.sec i).loose.length ≤ c ∧ c ≤ maxLen ∧ w.cell? ⟨gb, n - 1, none⟩ = some (.slice ox 256 cx) ∧
      Dk (w.setCell ⟨g.G, i * 2, none⟩ (.slice ox 256 cx)) H { d with l := d.l.set i ⟨(d.sec i).loose.getD (n - 1) [], (d.sec i).loose⟩ } g' ∧
      Ext (g.F H d.l.length) w (g'.F H d.l.length) (w.setCell ⟨g.G, i * 2, none⟩ (.slice ox 256 cx)) := by
  obtain ⟨gb, c, x, hv, hx, hbx⟩ := h.looseCell hi (j := n - 1) (by omega)
  obtain ⟨o, c', hv', hc1, hc2⟩ := h.sec_slice hi
  rw [hv] at hv'
  simp only [Value.slice.injEq] at hv'
  obtain ⟨_, _, rfl⟩ := hv'
  have hlen : ((d.sec i).loose.getD (n - 1) []).length = 256 := (h.sec i hi).llen _ (by rw [List.getD_eq_getElem?_getD, List.getElem?_eq_getElem (by omega)]; simp)
  obtain ⟨_, ox, cx, hxv, _, _, _, _⟩ := hbx.1
  rw [hlen] at hxv
  subst hxv
  refine ⟨gb, c, ox, cx, _, hv, hc1, hc2, hx, h.setU i hi _ _ hbx hlen, ?_⟩
  have x3 : Ext (g.F H d.l.length) w (g.F H d.l.length) (w.setCell ⟨g.G, i * 2, none⟩ (.slice ox 256 cx)) := ext_setCell (.inr (.inl rfl)) _ _
  refine ⟨x3.os, x3.tape, x3.output, x3.size, x3.block, fun b hb => .inl ?_⟩
  rcases hb with e | e | ⟨j, hj, e⟩ | e
  · exact .inl e
  · exact .inr (.inl e)
  · have e0 : (upd g.V i (g.V i) j).ownBlock = some b := e
    by_cases hij : j = i
    · subst hij; rw [upd_at] at e0; exact .inr (.inr (.inl ⟨j, hj, e0⟩))
    · rw [upd_ne _ _ hij] at e0; exact .inr (.inr (.inl ⟨j, hj, e0⟩))
  · exact .inr (.inr (.inr e))

theorem crashD_len (d : DiskD) (keep : List Int) : (crashD d keep).l.length = d.l.length := by unfold crashD; rw [onD_len, crashTo_len]

set_option maxRecDepth 20000 in
set_option maxHeartbeats 4000000 in
theorem dskCrash {w : World} {H : Nat} {d : DiskD} {g : DG} (h : Dk w H d g) (v : Value) (keep : List Int) (hv : Ns .i64 w v keep) (hvF : keep ≠ [] → ∀ b, v.ownBlock = some b → ¬ g.F H d.l.length b) (hkl : keep.length ≤ 1000000) :
    Calls Tryd.prog 36 #[.pointer (some ⟨H, 0, none⟩), v] w fun e w' => e = .returned (.tuple #[]) ∧ ∃ g', Dk w' H (crashD d keep) g' ∧ Ext (g.F H d.l.length) w (g'.F H (crashD d keep).l.length) w' := by
  have hlo := dskLoose h
  have HK := Lib.hid h
  have HV := Lib.hid hv
  have HVF := Lib.hid hvF
  obtain ⟨hwf, ok, ck, rfl, hk1, hk2, hk3, hkc⟩ := hv
  unfold maxLen at hk2
  have hpl : (looseD d).length ≤ 200 := Nat.le_trans (looseTo_len d _) h.n2
  rw [crashD_len]
  have HMEM : Hid (∀ j, j < (looseD d).length → ((looseD d).getD j (0, 0)).1 < d.l.length ∧ ((looseD d).getD j (0, 0)).2 = (d.sec ((looseD d).getD j (0, 0)).1).loose.length ∧ 0 < ((looseD d).getD j (0, 0)).2) := Lib.hid (fun j hj => looseTo_mem d _ j hj)
  have HLO := Lib.hid hlo
  clear h hlo hvF
  obtain ⟨m, hm⟩ : ∃ m, m = keep.length := ⟨_, rfl⟩
  rw [← hm] at hk1 hkl ⊢
  have HM := Lib.hid hm
  clear hm
  go_enter Tryd.func36, Tryd.ntmps36
  go_wp2_with fail
  refine HLO.out.mono ?_
  clear HLO
  rintro e w1 ⟨⟨vp, rfl, hp⟩, hb1⟩
  obtain ⟨op, cp, hvp, hp1, hp2⟩ := hp.form
  subst hvp
  unfold maxLen at hp2
  have HP := Lib.hid hp
  have HB1 := Lib.hid hb1
  have HD1 := Lib.hid (HK.out.below hb1)
  have HV1 := Lib.hid (HV.out.below hb1)
  obtain ⟨np, hnp⟩ : ∃ np, np = (looseD d).length := ⟨_, rfl⟩
  rw [← hnp] at hp1 hpl ⊢
  have HNP := Lib.hid hnp
  clear hp hb1 hnp
  go_wp2_with fail
  go_loopw [11] (fun i wr => ∃ j : Nat, i = .int .i64 j ∧ (j : Int) ≤ np ∧ ∃ gr, Hid (Dk wr H (crashTo d keep j) gr) ∧ Hid (Ext (g.F H d.l.length) w1 (gr.F H d.l.length) wr)) (fun i _ => np - (intOf i).toNat)
  case atStart => exact ⟨0, rfl, by omega, g, HD1, Lib.hid (Ext.refl _ _)⟩
  case round =>
    obtain ⟨j, rfl, hj, gr, HDR, HXR⟩ := hrel
    by_cases hj2 : (j : Int) < np
    · have hjp : j < (looseD d).length := by have := HNP.out; omega
      obtain ⟨gb, kb, hvb, hgb, hgl, hq1, hq2⟩ := PrAt.at_ HP.out (i := j) hjp
      simp only [Value.slice.injEq] at hvb
      obtain ⟨rfl, _, rfl⟩ := hvb
      have hgF : ¬ g.F H d.l.length gb := fun hf => by have := HK.out.low hf; omega
      have hblk := HXR.out.block gb hgl hgF
      rw [← World.cell?_of_block (a := ⟨gb, j * 2, none⟩) hblk] at hq1
      rw [← World.cell?_of_block (a := ⟨gb, j * 2 + 1, none⟩) hblk] at hq2
      obtain ⟨hm1, hm2, hm3⟩ := HMEM.out j hjp
      obtain ⟨i, hi⟩ : ∃ i, i = ((looseD d).getD j (0, 0)).1 := ⟨_, rfl⟩
      obtain ⟨mm, hmm⟩ : ∃ mm, mm = ((looseD d).getD j (0, 0)).2 := ⟨_, rfl⟩
      rw [← hi] at hq1 hm1 hm2
      rw [← hmm] at hq2 hm2 hm3
      have HI := Lib.hid hi
      clear hi hmm hblk hgF hgl hgb hjp
      have HM2 := Lib.hid hm2
      have hdl : (crashTo d keep j).l.length = d.l.length := crashTo_len d keep j
      have hlo := congrArg List.length (crashTo_loose d keep j i)
      rw [← hm2] at hlo
      have HSTEP : Hid (crashTo d keep (j + 1) = if j < keep.length ∧ 0 ≤ keep.getD j 0 then { crashTo d keep j with l := (crashTo d keep j).l.set i (crOne ((crashTo d keep j).sec i) (keep.getD j 0)) } else crashTo d keep j) := Lib.hid (by rw [HI.out]; rfl)
      by_cases hjm : (j : Int) < m
      · have hjk : j < keep.length := by have := HM.out; omega
        obtain ⟨a, x, ha, hxc, hxe, hxw⟩ := Ns.at_ hwf hkc hjk
        subst ha
        have hxb := wf_i64 hxw
        have hxF : ¬ g.F H d.l.length (a.add j).block := by
          have e : (a.add j).block = a.block := by unfold Addr.add; split <;> rfl
          rw [e]; exact HVF.out (fun e2 => by rw [e2] at hjk; simp at hjk) a.block rfl
        have hx1 : w1.cell? (a.add j) = some (.int .i64 x) := (HB1.out.cell (Below.lt hxc)).trans hxc
        have hx2 : wr.cell? (a.add j) = some (.int .i64 x) := (World.cell?_of_block (HXR.out.block _ (Below.lt hx1) hxF)).trans hx1
        have hal : Below wr.heap.size wr (wr.alloc (.cells #[.int .i64 (i : Nat), .int .i64 (mm : Nat)] 110)) := (Below.refl _ _).alloc (Nat.le_refl _) _
        have hx3 : (wr.alloc (.cells #[.int .i64 (i : Nat), .int .i64 (mm : Nat)] 110)).cell? (a.add j) = some (.int .i64 x) := (hal.cell (Below.lt hx2)).trans hx2
        clear hxc hx1 hxF hxw hx2
        by_cases hx0 : x < 0
        · have e : crashTo d keep (j + 1) = crashTo d keep j := by rw [HSTEP.out, if_neg]; rw [hxe.out]; omega
          have HDN : Hid (Dk (wr.alloc (.cells #[.int .i64 (i : Nat), .int .i64 (mm : Nat)] 110)) H (crashTo d keep (j + 1)) gr) := Lib.hid (by rw [e]; exact HDR.out.below hal)
          have HXN : Hid (Ext (g.F H d.l.length) w1 (gr.F H d.l.length) (wr.alloc (.cells #[.int .i64 (i : Nat), .int .i64 (mm : Nat)] 110))) := Lib.hid (HXR.out.trans (Ext.of_below hal))
          clear e hal HSTEP HDR HXR hdl hlo hjk hm1 hm2 hm3 hxe HM2
          go_wp2_with fail
          go_roundw
          case rel => exact ⟨j + 1, by go_num, by omega, gr, HDN, HXN⟩
          case measure => simp [intOf]; omega
        · obtain ⟨q, rfl⟩ := Int.eq_ofNat_of_zero_le (show 0 ≤ x by omega)
          have hd2 := HDR.out.below hal
          obtain ⟨c0, _, _, _, _, _⟩ := hd2.headCells
          have hcp := hd2.capn
          have hcm := hd2.capm
          have hn2 := hd2.n2
          unfold maxLen at hcm
          rw [hdl] at c0 hcp hn2
          have hil : (i : Int) < (d.l.length : Int) := by exact_mod_cast hm1
          have hmany := (hd2.sec i (by rw [hdl]; exact hm1)).many
          rw [hlo] at hmany
          have htm : (q : Int).tmod ((mm : Int) + 1) = ((q % (mm + 1) : Nat) : Int) := by exact_mod_cast (Int.ofNat_tmod q (mm + 1)).symm
          obtain ⟨n, hn⟩ : ∃ n, n = q % (mm + 1) := ⟨_, rfl⟩
          rw [← hn] at htm
          have hnm : n ≤ mm := by have := Nat.mod_lt q (show 0 < mm + 1 by omega); omega
          have hmm0 : ¬ ((mm : Int) + 1 = 0) := by omega
          have HNQ : Hid ((q : Int) % ((mm : Int) + 1) = (n : Int)) := Lib.hid (by rw [hn]; exact_mod_cast (Int.natCast_emod q (mm + 1)).symm)
          have HHL := Lib.hid hlo
          have HDL := Lib.hid hdl
          have HM1 := Lib.hid hm1
          have HD2 := Lib.hid hd2
          have HX2 : Hid (Ext (g.F H d.l.length) w1 (gr.F H d.l.length) (wr.alloc (.cells #[.int .i64 (i : Nat), .int .i64 (mm : Nat)] 110))) := Lib.hid (HXR.out.trans (Ext.of_below hal))
          obtain ⟨N, hN⟩ : ∃ N, N = d.l.length := ⟨_, rfl⟩
          rw [← hN] at c0 hcp hn2 hil
          have HNN := Lib.hid hN
          clear hn hd2 hal hdl hlo hm1 hm2 hm3 HDR HXR hx0 hN
          have hpr := heap_alloc_new wr (.cells #[.int .i64 (i : Nat), .int .i64 (mm : Nat)] 110)
          have p0 : (wr.alloc (.cells #[.int .i64 (i : Nat), .int .i64 (mm : Nat)] 110)).cell? ⟨wr.heap.size, 0, none⟩ = some (.int .i64 (i : Nat)) := by rw [cell_of_row _ _ _ _ _ (0, 0) hpr]; rfl
          have p1 : (wr.alloc (.cells #[.int .i64 (i : Nat), .int .i64 (mm : Nat)] 110)).cell? ⟨wr.heap.size, 1, none⟩ = some (.int .i64 (mm : Nat)) := by rw [cell_of_row _ _ _ _ _ (0, 0) hpr]; rfl
          clear hpr
          have hqq : ¬ ((q : Int) < 0) := by omega
          have hkeepj : ¬ ¬ (j < keep.length ∧ 0 ≤ keep.getD j 0) := by rw [hxe.out]; omega
          have HKJ : Hid (j < keep.length ∧ 0 ≤ keep.getD j 0) := Lib.hid (Classical.not_not.1 hkeepj)
          have HXE : Hid (keep.getD j 0 = (q : Int)) := hxe
          clear hkeepj hxe
          go_wp2_with fail
          generalize (wr.alloc (.cells #[.int .i64 (i : Nat), .int .i64 (mm : Nat)] 110)) = W2 at hx3 c0 p0 p1 HD2 HX2 ⊢
          generalize wr.heap.size = B at p0 p1 ⊢
          go_region
          by_cases hn0 : n = 0
          · have e : crashTo d keep (j + 1) = crashTo d keep j := by
              rw [HSTEP.out, if_pos HKJ.out, HXE.out]
              have : crOne ((crashTo d keep j).sec i) (q : Int) = (crashTo d keep j).sec i := by
                unfold crOne
                rw [HHL.out, HNQ.out, hn0]; rfl
              rw [this, set_self (by rw [HDL.out]; exact HM1.out)]
            have HDN : Hid (Dk W2 H (crashTo d keep (j + 1)) gr) := Lib.hid (by rw [e]; exact HD2.out)
            subst hn0
            clear e HSTEP HD2 HHL HNQ HXE HKJ
            go_wp2_with fail
            go_region
            go_wp2_with fail
            go_roundw
            case rel => exact ⟨j + 1, by go_num, by omega, gr, Lib.hid (HDN.out.same (Nat.le_refl _) fun _ _ => rfl), Lib.hid ⟨HX2.out.os, HX2.out.tape, HX2.out.output, HX2.out.size, HX2.out.block, HX2.out.grow⟩⟩
            case measure => simp [intOf]; omega
          · have hil2 : i < (crashTo d keep j).l.length := by rw [HDL.out]; exact HM1.out
            obtain ⟨gl, cl, ox, cx, g', hv, hc1, hc2, hx, hdn, hxn⟩ := HD2.out.crashStep i hil2 n (by omega) (by rw [HHL.out]; exact hnm)
            obtain ⟨s0, s1, sf⟩ := HD2.out.secCells hil2
            have sf0 := sf (i * 2)
            rw [hv] at s1
            rw [HHL.out] at s1 hc1
            unfold maxLen at hc2
            have e : crashTo d keep (j + 1) = { crashTo d keep j with l := (crashTo d keep j).l.set i ⟨((crashTo d keep j).sec i).loose.getD (n - 1) [], ((crashTo d keep j).sec i).loose⟩ } := by
              rw [HSTEP.out, if_pos HKJ.out, HXE.out]
              have : crOne ((crashTo d keep j).sec i) (q : Int) = ⟨((crashTo d keep j).sec i).loose.getD (n - 1) [], ((crashTo d keep j).sec i).loose⟩ := by
                unfold crOne
                rw [HHL.out, HNQ.out, if_pos (by omega)]; rfl
              rw [this]
            rw [← e] at hdn
            rw [HDL.out] at hxn
            have HDN := Lib.hid hdn
            have HXN := Lib.hid (HX2.out.trans hxn)
            have hn1 : (1 : Int) ≤ (n : Int) := by omega
            have hnpos : 0 < n := by omega
            have hnmI : (n : Int) ≤ (mm : Int) := by omega
            have hnmJ : (n : Int) - 1 < (mm : Int) := by omega
            clear e HSTEP HD2 HHL HNQ HXE HKJ hdn hxn hv sf HX2 hn0
            go_wp2_with fail
            go_region
            go_wp2_with fail
            go_roundw
            case rel => exact ⟨j + 1, by go_num, by omega, g', Lib.hid (HDN.out.same (Nat.le_refl _) fun _ _ => rfl), Lib.hid ⟨HXN.out.os, HXN.out.tape, HXN.out.output, HXN.out.size, HXN.out.block, HXN.out.grow⟩⟩
            case measure => simp [intOf]; omega
      · have e : crashTo d keep (j + 1) = crashTo d keep j := by rw [HSTEP.out, if_neg]; have := HM.out; omega
        have hal : Below wr.heap.size wr (wr.alloc (.cells #[.int .i64 (i : Nat), .int .i64 (mm : Nat)] 110)) := (Below.refl _ _).alloc (Nat.le_refl _) _
        have HDN : Hid (Dk (wr.alloc (.cells #[.int .i64 (i : Nat), .int .i64 (mm : Nat)] 110)) H (crashTo d keep (j + 1)) gr) := Lib.hid (by rw [e]; exact HDR.out.below hal)
        have HXN : Hid (Ext (g.F H d.l.length) w1 (gr.F H d.l.length) (wr.alloc (.cells #[.int .i64 (i : Nat), .int .i64 (mm : Nat)] 110))) := Lib.hid (HXR.out.trans (Ext.of_below hal))
        clear e hal HSTEP HDR HXR hdl hlo hm1 hm2 hm3
        go_wp2_with fail
        go_roundw
        case rel => exact ⟨j + 1, by go_num, by omega, gr, HDN, HXN⟩
        case measure => simp [intOf]; omega
    · obtain rfl : j = np := by omega
      have hon := dskOn HDR.out
      rw [onD_len, crashTo_len] at hon
      have HON := Lib.hid hon
      clear hon
      go_wp2_with fail
      refine HON.out.mono ?_
      rintro e w9 ⟨rfl, g9, hd9, hx9⟩
      have HX9 := Lib.hid ((Ext.of_below (F := g.F H d.l.length) HB1.out).trans (HXR.out.trans hx9))
      have hd9' : Dk w9 H (crashD d keep) g9 := by unfold crashD; rw [← HNP.out]; exact hd9
      have HD9 := Lib.hid hd9'
      clear hd9 hx9 hd9' HON
      go_wp2_with fail
      exact bodyPost_end (results_none rfl _ _ _) rfl ⟨rfl, g9, HD9.out, HX9.out⟩

theorem dskFuse {w : World} {H : Nat} {d : DiskD} {g : DG} (h : Dk w H d g) (n : Int) (h1 : -9223372036854775808 ≤ n) (h2 : n ≤ 9223372036854775807) :
    Calls Tryd.prog 40 #[.pointer (some ⟨H, 0, none⟩), .int .i64 n] w fun e w' => e = .returned (.tuple #[]) ∧ Dk w' H (fuseD d n) g ∧ Ext (g.F H d.l.length) w (g.F H d.l.length) w' := by
  obtain ⟨c0, c1, c2, f0, f1, f2⟩ := h.headCells
  by_cases hn : n ≤ -1
  · have hm : max n (-1) = -1 := by omega
    have HS := Lib.hid (h.setFuse (-1) (by omega) (by omega))
    have HE : Hid (Ext (g.F H d.l.length) w (g.F H d.l.length) (w.setCell ⟨H, 2, none⟩ (.int .i64 (-1)))) := Lib.hid (ext_setCell (.inl rfl) 2 _)
    have HD : Hid (fuseD d n = { d with fuse := -1 }) := Lib.hid (by unfold fuseD; rw [hm])
    clear h hm
    go_enter Tryd.func40, Tryd.ntmps40
    go_wp2_with fail
    all_goals exact bodyPost_end (results_none rfl _ _ _) rfl ⟨rfl, by rw [HD.out]; first | exact HS.out | (rw [show n = -1 by omega]; exact HS.out), by first | exact HE.out | (rw [show n = -1 by omega]; exact HE.out)⟩
  · have hm : max n (-1) = n := by omega
    have HS := Lib.hid (h.setFuse n (by omega) h2)
    have HE : Hid (Ext (g.F H d.l.length) w (g.F H d.l.length) (w.setCell ⟨H, 2, none⟩ (.int .i64 n))) := Lib.hid (ext_setCell (.inl rfl) 2 _)
    have HD : Hid (fuseD d n = { d with fuse := n }) := Lib.hid (by unfold fuseD; rw [hm])
    clear h hm
    go_enter Tryd.func40, Tryd.ntmps40
    go_wp2_with fail
    exact bodyPost_end (results_none rfl _ _ _) rfl ⟨rfl, by rw [HD.out]; exact HS.out, HE.out⟩
end Go.Proofs.YtoikdhfihkbcbaaDoor
