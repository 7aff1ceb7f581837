/- The walk of the law ChainUndoes. -/
import Derived.Test.YtccfiohcblecoaaDoorChL
import Derived.Test.YtccfiohcblecoaaDoorChQ
import Derived.Test.YtccfiohcblecoaaDoorSameI
import Derived.Test.YtccfiohcblecoaaDoorMkx
namespace Go.Proofs.YtccfiohcblecoaaDoor
open Go.RowKit
set_option linter.unusedVariables false

/-- what stands behind k things: the records, and what is to be undone, the last one first -/
structure US (k : Nat) (R : List RecD) (st : List Int) : Prop where
  len : R.length = k + 1
  stk : Stk R st
  nrm : norm 0 R R.length = (st.headD 0, none)
  ok : ∀ r ∈ R, okR r = true
  w : ∀ r ∈ R, r.W
  bd : ∀ x ∈ st, 1 ≤ x ∧ x ≤ (k : Int) + 1
  sl : st.length ≤ k
def begR : RecD := ⟨1, 1, 0, 0, 0, 0, false, false, 0, 0⟩
theorem begR_w : begR.W := by constructor <;> simp [begR, I64]
theorem US.zero : US 0 [begR] [] where
  len := rfl
  stk := trivial
  nrm := norm_begin (by decide) (r := begR) (by decide) rfl
  ok := fun r hr => by rw [List.mem_singleton.1 hr]; decide
  w := fun r hr => by rw [List.mem_singleton.1 hr]; exact begR_w
  bd := fun x hx => by simp at hx
  sl := Nat.le_refl _
def undoSet (k : Nat) : RecD := ⟨2, 1, 1, (k : Int) + 1, 0, k, false, true, 0, 0⟩
def undoClr (k : Nat) (nx top : Int) : RecD := ⟨3, 1, 1, (k : Int) + 1, nx, 1, true, false, top, 0⟩
theorem undoSet_w {k : Nat} (hk : k ≤ 40) : (undoSet k).W := by constructor <;> simp [undoSet, I64] <;> omega
theorem undoClr_w {k : Nat} {nx top : Int} (hk : k ≤ 40) (h1 : 0 ≤ nx) (h2 : nx ≤ 100) (h3 : 1 ≤ top) (h4 : top ≤ 100) : (undoClr k nx top).W := by constructor <;> simp [undoClr, I64] <;> omega
theorem undoSet_ok {k : Nat} (hk : k ≤ 40) : okR (undoSet k) = true := by
  show okR ⟨2, 1, 1, (k : Int) + 1, 0, k, false, true, 0, 0⟩ = true
  simp [okR, inB, txnTop, pageTop, prevB, nextB, keyB, valsB]; omega
theorem undoClr_ok {k : Nat} {nx top : Int} (hk : k ≤ 40) (h1 : 0 ≤ nx) (h2 : nx ≤ 100) (h3 : 1 ≤ top) (h4 : top ≤ 100) : okR (undoClr k nx top) = true := by
  show okR ⟨3, 1, 1, (k : Int) + 1, nx, 1, true, false, top, 0⟩ = true
  simp [okR, inB, txnTop, pageTop, prevB, nextB, keyB, valsB]; omega
theorem US.push {k : Nat} {R : List RecD} {st : List Int} (h : US k R st) (hk : k ≤ 40) : US (k + 1) (R ++ [undoSet k]) (((k : Int) + 1 + 1) :: st) := by
  obtain ⟨h1, h2⟩ := h.stk.push h.nrm (undoSet k) rfl (by rw [h.len]; simp [undoSet])
  have e : ((R.length : Int) + 1) = (k : Int) + 1 + 1 := by rw [h.len]; omega
  rw [e] at h1 h2
  refine ⟨by rw [List.length_append, h.len]; rfl, h1, h2, fun r hr => ?_, fun r hr => ?_, fun x hx => ?_, by have := h.sl; simp at this ⊢; omega⟩
  · rcases List.mem_append.1 hr with hr | hr
    · exact h.ok r hr
    · rw [List.mem_singleton.1 hr]; exact undoSet_ok hk
  · rcases List.mem_append.1 hr with hr | hr
    · exact h.w r hr
    · rw [List.mem_singleton.1 hr]; exact undoSet_w hk
  · rcases List.mem_cons.1 hx with rfl | hx
    · omega
    · have := h.bd x hx; omega
theorem US.pop {k : Nat} {R : List RecD} {a : Int} {st : List Int} (h : US k R (a :: st)) (hk : k ≤ 40) : US (k + 1) (R ++ [undoClr k (st.headD 0) a]) st := by
  have ha := h.bd a List.mem_cons_self
  have hx : 0 ≤ st.headD 0 ∧ st.headD 0 ≤ (k : Int) + 1 := by
    cases st with
    | nil => simp; omega
    | cons b st => have := h.bd b (by simp); simp; omega
  obtain ⟨h1, h2⟩ := h.stk.pop (undoClr k (st.headD 0) a) rfl rfl
  refine ⟨by rw [List.length_append, h.len]; rfl, h1, h2, fun r hr => ?_, fun r hr => ?_, fun x hx => ?_, by have := h.sl; simp at this ⊢; omega⟩
  · rcases List.mem_append.1 hr with hr | hr
    · exact h.ok r hr
    · rw [List.mem_singleton.1 hr]; exact undoClr_ok hk hx.1 (by omega) ha.1 (by omega)
  · rcases List.mem_append.1 hr with hr | hr
    · exact h.w r hr
    · rw [List.mem_singleton.1 hr]; exact undoClr_w hk hx.1 (by omega) ha.1 (by omega)
  · have := h.bd x (List.mem_cons_of_mem _ hx); omega

/-- where the records and the numbers lie -/
structure UW (w0 w : World) (o4 : Option Addr) (n4 c4 : Nat) (o5 : Option Addr) (n5 c5 : Nat) (R : List RecD) (st : List Int) : Prop where
  recs : Og w0.heap.size w (.slice o4 n4 c4) R
  left : Ns .i64 w (.slice o5 n5 c5) st.reverse
  sep : st ≠ [] → ∀ b, (Value.slice o5 n5 c5).ownBlock = some b → (Value.slice o4 n4 c4).ownBlock ≠ some b
  bel : Below w0.heap.size w0 w
theorem Ns.lt {ik : IntKind} {w : World} {v : Value} {l : List Int} (h : Ns ik w v l) (hne : l ≠ []) {b : Nat} (hb : v.ownBlock = some b) : b < w.heap.size := by
  obtain ⟨_, o, c, rfl, _, _, _, h6⟩ := h
  obtain ⟨a, rfl, hc⟩ := h6 hne
  have h := Below.lt (hc 0 (List.length_pos_iff.2 hne))
  have e1 : (a.add 0).block = a.block := by unfold Addr.add; split <;> rfl
  rw [e1] at h
  have e2 : a.block = b := by simpa [Value.ownBlock] using hb
  omega
/-- a record more, in whatever world behind; the numbers stand where they stood, or in new memory -/
theorem UW.next {w0 w W : World} {o4 o5 o5' : Option Addr} {n4 c4 n5 c5 n5' c5' : Nat} {R : List RecD} {st st' : List Int} (h : UW w0 w o4 n4 c4 o5 n5 c5 R st) (hb : Below w.heap.size w W) (r : RecD) (hr : r.W) (hl : R.length ≤ 1000) (g0 : Nat) (hg0 : RW g0 (recCs r) W)
    (hn : Ns .i64 W (.slice o5' n5' c5') st'.reverse) (hs : st' ≠ [] → ∀ b, (Value.slice o5' n5' c5').ownBlock = some b → (Value.slice o4 n4 c4).ownBlock ≠ some b) :
    ∃ gb cap w', (Builtin.append_ #[60, 60] 60 #[.slice o4 n4 c4, .slice (some ⟨g0, 0, none⟩) 1 1]).run Tryd.prog W = .ok (.slice (some ⟨gb, 0, none⟩) (R.length + 1) cap) w' ∧ R.length + 1 ≤ cap ∧ cap ≤ maxLen ∧
      UW w0 w' (some ⟨gb, 0, none⟩) (R.length + 1) cap o5' n5' c5' (R ++ [r]) st' := by
  have ho := h.recs.below hb
  have hbw := h.bel.trans (hb.mono h.bel.size)
  obtain ⟨gb, cap, w', hrun, ho3, hg3, hat, _, hc1, hc2⟩ := ho.append1 r hr hbw.size (by omega) g0 hg0 1 60
  refine ⟨gb, cap, w', hrun, hc1, hc2, ho3, ?_, fun hne b e1 e2 => ?_, ho.grown hg3 hbw (Nat.le_refl _) hbw.size⟩
  · by_cases hne : st' = []
    · subst hne
      obtain ⟨q1, o, c, q2, q3, q4, q5, q6⟩ := hn
      exact ⟨q1, o, c, q2, q3, q4, q5, fun h => absurd rfl h⟩
    · refine hn.same fun b e => hg3.block b (hn.lt (by simpa using hne) e) fun e2 => hs hne b e e2.symm
  · have e2' : gb = b := by simpa [Value.ownBlock] using e2
    rcases hat with h1 | h1
    · exact hs hne b e1 (by rw [← e2']; exact h1)
    · have := hn.lt (by simpa using hne) e1; omega

theorem chainUndoes_idle {ea : Nat → Addr} (v : Value) (l : List Int) (w : World) (hs : Sen ea w) (hv : Ns .i64 w v l) (hbig : (40 : Int) < l.length) :
    Calls Tryd.prog 7 #[v] w fun e w' => e = .returned (.bool true) ∧ Below w.heap.size w w' := by
  obtain ⟨_, o, cap, rfl, hc1, hc2, hc3, _⟩ := hv
  unfold maxLen at hc2
  have HF := Lib.hid (chainFirst w hs)
  clear hs
  generalize l.length = n at *
  go_enter Tryd.func7, Tryd.ntmps7
  go_wp2_with fail
  refine HF.out.mono ?_
  rintro e w1 ⟨rfl, hb1⟩
  have HB1 := Lib.hid hb1
  clear hb1
  go_wp2_with fail
  go_ret
  exact ⟨rfl, HB1.out⟩

set_option maxRecDepth 20000 in
set_option maxHeartbeats 4000000 in
theorem chainUndoes_walk0 {ea : Nat → Addr} (v : Value) (l : List Int) (w : World) (hs : Sen ea w) (hv : Ns .i64 w v l) (hl : (l.length : Int) ≤ 40) :
    Calls Tryd.prog 7 #[v] w fun e w' => e = .returned (.bool true) ∧ Below w.heap.size w w' := by
  have HS := Lib.hid hs
  have HF := Lib.hid (chainFirst w hs)
  obtain ⟨hwf, o, cap, rfl, hc1, hc2, hc3, hcell⟩ := hv
  have HCELL := Lib.hid (fun k (hk : k < l.length) => Ns.at_ hwf hcell hk)
  unfold maxLen at hc2
  obtain ⟨n, hn⟩ : ∃ n, n = l.length := ⟨_, rfl⟩
  rw [← hn] at hc1 hl ⊢
  have HN := Lib.hid hn
  clear hs hn hcell hc3 hwf
  go_enter Tryd.func7, Tryd.ntmps7
  go_wp2_with fail
  refine HF.out.mono ?_
  clear HF
  rintro e w1 ⟨rfl, hb1⟩
  have HB1 := Lib.hid hb1
  clear hb1
  have HU0 : Hid (UW w (w1.alloc (.cells #[.int .i64 1, .int .i64 1, .int .i64 0, .int .i64 0, .int .i64 0, .int .i64 0, .bool false, .bool false, .int .i64 0, .int .i64 0] 33)) (some ⟨w1.heap.size, 0, none⟩) 1 1 none 0 0 [begR] []) := Lib.hid
    ⟨⟨fun r hr => by rw [List.mem_singleton.1 hr]; exact begR_w, by
        have := World.ownsRow_lit (e := 33) (size := 10) w1 #[.int .i64 1, .int .i64 1, .int .i64 0, .int .i64 0, .int .i64 0, .int .i64 0, .bool false, .bool false, .int .i64 0, .int .i64 0] 1 HB1.out.size (by simp [maxLen]) (by simp)
        exact this⟩, Ns.nil _ _, fun h => absurd rfl h, HB1.out.alloc HB1.out.size _⟩
  go_upto_region 9 with fail
  generalize (w1.alloc (.cells #[.int .i64 1, .int .i64 1, .int .i64 0, .int .i64 0, .int .i64 0, .int .i64 0, .bool false, .bool false, .int .i64 0, .int .i64 0] 33)) = w2 at HU0 ⊢
  generalize w1.heap.size = A1 at HU0 ⊢
  go_wp2_with fail
  go_loopw [4, 5, 6, 7] (fun s4 s5 s6 s7 wr => ∃ k o4 c4 o5 n5 c5 R st, s4 = .slice o4 (k + 1) c4 ∧ s5 = .slice o5 n5 c5 ∧ s6 = .int .i64 ((k : Int) + 1) ∧ s7 = .int .i64 (k : Int) ∧ (k : Int) ≤ n ∧ k + 1 ≤ c4 ∧ c4 ≤ 9223372036854775807 ∧ Hid (US k R st) ∧ Hid (UW w wr o4 (k + 1) c4 o5 n5 c5 R st)) (fun _ _ _ i _ => n - (intOf i).toNat)
  case atStart => exact ⟨0, _, 1, none, 0, 0, [begR], [], rfl, rfl, by go_num, by go_num, by omega, by omega, by omega, Lib.hid US.zero, HU0⟩
  case round =>
    obtain ⟨k, o4, c4, o5, n5, c5, R, st, rfl, rfl, rfl, rfl, hk, h41, h42, HUS, HUW⟩ := hrel
    clear HU0 HB1
    obtain ⟨hwf5, _, _, he5, h51, h52, h53, h5cell⟩ := HUW.out.left
    have hn5 := HUW.out.left.len
    rw [List.length_reverse] at hn5
    simp only [Value.slice.injEq] at he5
    obtain ⟨rfl, he5n, rfl⟩ := he5
    clear he5n
    rw [List.length_reverse, ← hn5] at h51
    unfold maxLen at h52
    have H5C := Lib.hid (fun i (hi : i < st.reverse.length) => Ns.at_ hwf5 h5cell hi)
    have HN5 := Lib.hid hn5
    clear hwf5 h53 h5cell hn5
    by_cases hkn : (k : Int) < n
    · have hk40 : k ≤ 40 := by omega
      obtain ⟨a, x, rfl, g0, hx, hxw⟩ := HCELL.out k (by have := HN.out; omega)
      obtain ⟨W8, hW8⟩ : ∃ W8, W8 = wr.alloc (.cells #[.int .i64 2, .int .i64 1, .int .i64 1, .int .i64 ((k : Int) + 1), .int .i64 0, .int .i64 k, .bool false, .bool true, .int .i64 0, .int .i64 0] 33) := ⟨_, rfl⟩
      have hb8 : Below wr.heap.size wr W8 := by rw [hW8]; exact (Below.refl _ _).alloc (Nat.le_refl _) _
      have HRW8 : Hid (RW wr.heap.size (recCs (undoSet k)) W8) := Lib.hid (by rw [hW8]; exact RW.new wr _)
      have g8 : W8.cell? (a.add k) = some (.int .i64 x) := ((HUW.out.bel.trans (hb8.mono HUW.out.bel.size)).cell (Below.lt g0)).trans g0
      have HB8 := Lib.hid hb8
      have HW8 := Lib.hid hW8
      obtain ⟨A8, hA8⟩ : ∃ A8, A8 = wr.heap.size := ⟨_, rfl⟩
      have HA8 := Lib.hid hA8
      rw [← hA8] at HRW8
      obtain ⟨y, hy⟩ : ∃ y, bits .and .i64 x 1 = y := ⟨_, rfl⟩
      clear hb8 g0 hx hxw hW8 hA8
      go_upto_region 13 with fail
      rw [← HW8.out, ← HA8.out]
      clear HW8
      by_cases hpop : y = 0 ∧ 0 < n5
      · obtain ⟨hy0, hn0⟩ := hpop
        subst hy0
        cases st with
        | nil => have := HN5.out; simp at this; omega
        | cons top st2 =>
          have hlen : n5 = st2.length + 1 := HN5.out
          have HLEN5 := Lib.hid hlen
          have hrev : (top :: st2).reverse = st2.reverse ++ [top] := List.reverse_cons
          have HUN := Lib.hid (HUS.out.pop hk40)
          have htop := HUS.out.bd top List.mem_cons_self
          obtain ⟨a5, x5, rfl, g5, hx5, _⟩ := H5C.out st2.length (by simp)
          have hx5' : x5 = top := by rw [← hx5.out, hrev, List.getD_eq_getElem?_getD, List.getElem?_append_right (by simp)]; simp
          subst hx5'
          have g5' : W8.cell? (a5.add st2.length) = some (.int .i64 x5) := (HB8.out.cell (Below.lt g5)).trans g5
          have hns9 : ∀ W, Below W8.heap.size W8 W → Ns .i64 W (.slice (some a5) st2.length c5) st2.reverse := fun W hb => by
            have h := ((HUW.out.left.below HB8.out).below hb).pre st2.length (by simp)
            rw [hrev, List.take_append_of_le_length (by simp), List.take_of_length_le (by simp)] at h
            exact h
          have HNS9 := Lib.hid hns9
          obtain ⟨nx, hnx⟩ : ∃ nx, nx = st2.headD 0 := ⟨_, rfl⟩
          have hnxb : 0 ≤ nx ∧ nx ≤ 100 := by
            rw [hnx]
            cases st2 with
            | nil => simp
            | cons b st3 => have := HUS.out.bd b (by simp); simp; omega
          have hnc : st2.length = 0 ∧ nx = 0 ∨ 0 < st2.length ∧ W8.cell? (a5.add (st2.length - 1)) = some (.int .i64 nx) := by
            cases st2 with
            | nil => exact .inl ⟨rfl, by rw [hnx]; rfl⟩
            | cons b st3 =>
              right
              refine ⟨by simp, ?_⟩
              obtain ⟨a6, x6, ha6, g6, hx6, _⟩ := H5C.out st3.length (by simp)
              have ha65 : a6 = a5 := by simpa using ha6.symm
              subst ha65
              have hb6 : x6 = nx := by rw [← hx6.out, hnx]; simp [List.getD_eq_getElem?_getD]
              subst hb6
              have e : (b :: st3).length - 1 = st3.length := by simp
              rw [e]
              exact (HB8.out.cell (Below.lt g6)).trans g6
          have hpo : ∀ W9, Below W8.heap.size W8 W9 ∨ True → Below wr.heap.size wr W9 → RW A8 (recCs (undoClr k nx x5)) W9 → (Ns .i64 W9 (.slice (some a5) st2.length c5) st2.reverse) → ∃ gr c4' W11,
              (Builtin.append_ #[60, 60] 60 #[.slice o4 (k + 1) c4, .slice (some ⟨W9.heap.size, 0, none⟩) 1 1]).run Tryd.prog (W9.alloc (.cells (recCs (undoClr k nx x5)) 33)) = .ok (.slice (some ⟨gr, 0, none⟩) (k + 1 + 1) c4') W11 ∧ k + 1 + 1 ≤ c4' ∧ c4' ≤ maxLen ∧
              UW w W11 (some ⟨gr, 0, none⟩) (k + 1 + 1) c4' (some a5) st2.length c5 (R ++ [undoClr k nx x5]) st2 := by
            intro W9 _ hb9 hrw9 hns
            have hal9 : Below W9.heap.size W9 (W9.alloc (.cells (recCs (undoClr k nx x5)) 33)) := (Below.refl _ _).alloc (Nat.le_refl _) _
            obtain ⟨gr, c4', W11, hr11, hc11a, hc11b, huw⟩ := HUW.out.next (hb9.trans (hal9.mono hb9.size)) (undoClr k nx x5) (undoClr_w hk40 hnxb.1 hnxb.2 htop.1 (by omega)) (by rw [HUS.out.len]; omega) W9.heap.size (RW.new W9 _) (o5' := some a5) (n5' := st2.length) (c5' := c5) (st' := st2)
              (hns.below hal9) (fun hne b e1 e2 => HUW.out.sep (by simp) b e1 e2)
            rw [HUS.out.len] at hr11 hc11a huw
            exact ⟨gr, c4', W11, hr11, hc11a, hc11b, huw⟩
          have HPO := Lib.hid hpo
          rw [← hnx] at HUN
          have hsl : st2.length ≤ 40 := by have := HUS.out.sl; simp at this; omega
          clear hpo hns9 hrev hx5 H5C HUS hnx g5 htop HN5 hlen hnxb
          obtain ⟨m, hm⟩ : ∃ m, m = st2.length := ⟨_, rfl⟩
          rw [← hm] at g5' hnc HPO HNS9 hsl
          have HM := Lib.hid hm
          have hlen : n5 = m + 1 := by rw [hm]; exact HLEN5.out
          clear hm HLEN5 hn0
          subst hlen
          have hput := RW.put HRW8.out (.int .i64 3) (.int .i64 1) (.int .i64 1) (.int .i64 ((k : Int) + 1)) (.int .i64 nx) (.int .i64 1) (.bool true) (.bool false) (.int .i64 x5) (.int .i64 0) rfl
          obtain ⟨W9, hW9⟩ : ∃ W9, W9 = (((((((((W8.setCell ⟨A8, 0, none⟩ (.int .i64 3)).setCell ⟨A8, 1, none⟩ (.int .i64 1)).setCell ⟨A8, 2, none⟩ (.int .i64 1)).setCell ⟨A8, 3, none⟩ (.int .i64 ((k : Int) + 1))).setCell ⟨A8, 4, none⟩ (.int .i64 nx)).setCell ⟨A8, 5, none⟩ (.int .i64 1)).setCell ⟨A8, 6, none⟩ (.bool true)).setCell ⟨A8, 7, none⟩ (.bool false)).setCell ⟨A8, 8, none⟩ (.int .i64 x5)).setCell ⟨A8, 9, none⟩ (.int .i64 0) := ⟨_, rfl⟩
          rw [← hW9] at hput
          obtain ⟨hrw9, hsz9, hbel9, hoth9⟩ := hput
          have hb9 := hbel9 wr.heap.size wr HB8.out (by rw [HA8.out]; exact Nat.le_refl _)
          have hns9 : Ns .i64 W9 (.slice (some a5) m c5) st2.reverse := (HNS9.out W8 (Below.refl _ _)).ext (F := fun b => b = A8) (F' := fun b => b = A8) ⟨hb9.os.trans HB8.out.os.symm, hb9.tape.trans HB8.out.tape.symm, hb9.output.trans HB8.out.output.symm, by rw [hsz9]; exact Nat.le_refl _, fun q hq hn => hoth9 q hn, fun q hq => .inl hq⟩ (fun hne b e h => by
            have h1 := HUW.out.left.lt (by simp) (show (Value.slice (some a5) (m + 1) c5).ownBlock = some b from e)
            have h2 := HA8.out
            omega)
          obtain ⟨gr, c4', W11, hr11, hc11a, hc11b, huw⟩ := HPO.out W9 (.inr trivial) hb9 hrw9 hns9
          obtain ⟨e0, e1, e2, e3, e4, e5, e6, e7, e8, e9⟩ := hrw9.cells
          obtain ⟨f0, f1, f2, f3, f4, f5, f6, f7, f8, f9⟩ := HRW8.out.cells
          have hfz := HRW8.out.frozen
          have HUWN := Lib.hid huw
          have HW9 := Lib.hid hW9
          unfold maxLen at hc11b
          dsimp only [recCs, undoClr] at hr11
          clear hrw9 hsz9 hbel9 hoth9 hb9 hns9 huw hW9 HPO HNS9 HB8 HUW HRW8
          rcases hnc with ⟨hm0, hnx0⟩ | ⟨hm0, hnxc⟩
          · have hmb : decide (0 < m) = false := by simp; omega
            have hmc : decide ((0 : Int) < (m : Int)) = false := by simp; omega
            subst hnx0
            have HM0 := Lib.hid hm0
            clear hm0
            have E := Lib.hid (And.intro e0 (And.intro e1 (And.intro e2 (And.intro e3 (And.intro e4 (And.intro e5 (And.intro e6 (And.intro e7 (And.intro e8 e9)))))))))
            clear e0 e1 e2 e3 e4 e5 e6 e7 e8 e9
            go_upto_region 19 with fail
            rw [← HW9.out]
            obtain ⟨e0, e1, e2, e3, e4, e5, e6, e7, e8, e9⟩ := E.out
            clear f0 f1 f2 f3 f4 f5 f6 f7 f8 f9 hfz HW9 E
            go_wp2_with (at_builtin; refine Lib.wpList_append_run _ rfl _ _ _ _ rfl _ _ rfl rfl _ _ hr11 ?_)
            go_roundw
            case rel => exact ⟨k + 1, _, c4', _, m, c5, _, st2, rfl, rfl, by go_num, by go_num, by omega, by omega, by omega, HUN, HUWN⟩
            case measure => simp [intOf]; omega
          · have hmb : decide (0 < m) = true := by simp; omega
            have hmc : decide ((0 : Int) < (m : Int)) = true := by simp; omega
            have hix : (m : Int) - 1 = ((m - 1 : Nat) : Int) := by omega
            have E := Lib.hid (And.intro e0 (And.intro e1 (And.intro e2 (And.intro e3 (And.intro e4 (And.intro e5 (And.intro e6 (And.intro e7 (And.intro e8 e9)))))))))
            have hm1 : ((m - 1 : Nat) : Int) < (m : Int) + 1 := by omega
            clear e0 e1 e2 e3 e4 e5 e6 e7 e8 e9
            go_upto_region 19 with fail
            rw [← HW9.out]
            obtain ⟨e0, e1, e2, e3, e4, e5, e6, e7, e8, e9⟩ := E.out
            clear f0 f1 f2 f3 f4 f5 f6 f7 f8 f9 hfz HW9 E hnxc hix hm1
            go_wp2_with (at_builtin; refine Lib.wpList_append_run _ rfl _ _ _ _ rfl _ _ rfl rfl _ _ hr11 ?_)
            go_roundw
            case rel => exact ⟨k + 1, _, c4', _, m, c5, _, st2, rfl, rfl, by go_num, by go_num, by omega, by omega, by omega, HUN, HUWN⟩
            case measure => simp [intOf]; omega
      · have HUN := Lib.hid (HUS.out.push hk40)
        have hns8 := HUW.out.left.below HB8.out
        have HI := Lib.hid (intsRef _ _ W8 hns8 (by rw [List.length_reverse]; have := HUS.out.sl; omega))
        have hsl : n5 ≤ 40 := by have := HUS.out.sl; have := HN5.out; omega
        have HRL := Lib.hid HUS.out.len
        have HUW2 := HUW
        clear HUS H5C hns8
        have hpush : ∀ W9 o9 c9, Below W8.heap.size W8 W9 → Oi W8.heap.size W9 (.slice o9 n5 c9) st.reverse → ∃ gb c10 W10 gr c4' W11, (Builtin.append_ #[22, 22] 22 #[.slice o9 n5 c9, .slice (some ⟨W9.heap.size, 0, none⟩) 1 1]).run Tryd.prog (W9.alloc (.cells #[.int .i64 ((k : Int) + 1 + 1)] 3)) = .ok (.slice (some ⟨gb, 0, none⟩) (n5 + 1) c10) W10 ∧
            RW A8 (recCs (undoSet k)) W10 ∧ n5 + 1 ≤ c10 ∧ c10 ≤ maxLen ∧
            (Builtin.append_ #[60, 60] 60 #[.slice o4 (k + 1) c4, .slice (some ⟨W10.heap.size, 0, none⟩) 1 1]).run Tryd.prog (W10.alloc (.cells (recCs (undoSet k)) 33)) = .ok (.slice (some ⟨gr, 0, none⟩) (k + 1 + 1) c4') W11 ∧ k + 1 + 1 ≤ c4' ∧ c4' ≤ maxLen ∧
            UW w W11 (some ⟨gr, 0, none⟩) (k + 1 + 1) c4' (some ⟨gb, 0, none⟩) (n5 + 1) c10 (R ++ [undoSet k]) (((k : Int) + 1 + 1) :: st) := by
          intro W9 o9 c9 hb9 ho9
          have hwr8 := HB8.out.size
          have hlen9 : st.reverse.length = n5 := by rw [List.length_reverse]; exact HN5.out.symm
          obtain ⟨gb, c10, W10, hr10, ho10, hg10, hat10, _, hc10a, hc10b⟩ := ho9.append1 ((k : Int) + 1 + 1) (wf_of_i64 (by omega) (by omega)) hb9.size (by rw [hlen9]; omega) 3 22
          rw [hlen9] at hr10 ho10 hc10a
          have hal9 : Below W9.heap.size W9 (W9.alloc (.cells #[.int .i64 ((k : Int) + 1 + 1)] 3)) := (Below.refl _ _).alloc (Nat.le_refl _) _
          have hb10 : Below W8.heap.size W8 W10 := (ho9.below hal9).grown hg10 (hb9.trans (hal9.mono hb9.size)) (Nat.le_refl _) (Nat.le_trans hb9.size hal9.size)
          have hrw10 := HRW8.out.below hb10
          have hal10 : Below W10.heap.size W10 (W10.alloc (.cells (recCs (undoSet k)) 33)) := (Below.refl _ _).alloc (Nat.le_refl _) _
          have hbr : Below wr.heap.size wr (W10.alloc (.cells (recCs (undoSet k)) 33)) := HB8.out.trans ((hb10.trans (hal10.mono hb10.size)).mono HB8.out.size)
          obtain ⟨gr, c4', W11, hr11, hc11a, hc11b, huw⟩ := HUW2.out.next hbr (undoSet k) (undoSet_w hk40) (by rw [HRL.out]; omega) W10.heap.size (RW.new W10 _) (o5' := some ⟨gb, 0, none⟩) (n5' := n5 + 1) (c5' := c10) (st' := ((k : Int) + 1 + 1) :: st)
            (by have h := ho10.ns.below hal10; rw [List.reverse_cons]; exact h) (fun _ b e1 e2 => by
              have e1' : gb = b := by simpa [Value.ownBlock] using e1
              have h2 := (HUW2.out.recs.lt e2).2
              have h3 := (ho10.lt e1).1
              omega)
          rw [HRL.out] at hr11 hc11a huw
          exact ⟨gb, c10, W10, gr, c4', W11, hr10, hrw10, hc10a, hc10b, hr11, hc11a, hc11b, huw⟩
        have HPU := Lib.hid hpush
        have hlen9 : st.reverse.length = n5 := by rw [List.length_reverse]; exact HN5.out.symm
        rw [hlen9] at HI
        have htest : ((y == 0) && decide (0 < n5)) = false := by
          by_cases h : y = 0
          · have : ¬ 0 < n5 := fun h2 => hpop ⟨h, h2⟩
            simp [this]
          · simp [h]
        clear hpush hlen9 hpop HRL
        have hfin : ∀ (hq : (y = 0 ∧ n5 = 0) ∨ y ≠ 0), True := fun _ => trivial
        by_cases hy0 : y = 0
        · have hyb : (y == 0) = true := by simpa using hy0
          have hnb : decide (0 < n5) = false := by simp [hyb] at htest; simp; omega
          clear htest hfin
          go_wp2_with fail
          refine HI.out.mono ?_
          clear HI
          rintro e w9 ⟨o9, c9, rfl, hb9, ho9⟩
          obtain ⟨gb, c10, W10, gr, c4', W11, hr10, hrw10, hc10a, hc10b, hr11, hc11a, hc11b, huw⟩ := HPU.out w9 o9 c9 hb9 ho9
          obtain ⟨e0, e1, e2, e3, e4, e5, e6, e7, e8, e9⟩ := hrw10.cells
          unfold maxLen at hc10b hc11b
          have HUWN := Lib.hid huw
          dsimp only [recCs, undoSet] at hr11
          clear HPU hb9 ho9 huw hrw10
          go_wp2_with (first | (at_builtin; refine Lib.wpList_append_run _ rfl _ _ _ _ rfl _ _ rfl rfl _ _ hr10 ?_) | (at_builtin; refine Lib.wpList_append_run _ rfl _ _ _ _ rfl _ _ rfl rfl _ _ hr11 ?_))
          go_roundw
          case rel => exact ⟨k + 1, _, c4', _, n5 + 1, c10, _, _, rfl, rfl, by go_num, by go_num, by omega, by omega, by omega, HUN, HUWN⟩
          case measure => simp [intOf]; omega
        · have hyb : (y == 0) = false := by simpa using hy0
          clear htest hfin
          go_wp2_with fail
          refine HI.out.mono ?_
          clear HI
          rintro e w9 ⟨o9, c9, rfl, hb9, ho9⟩
          obtain ⟨gb, c10, W10, gr, c4', W11, hr10, hrw10, hc10a, hc10b, hr11, hc11a, hc11b, huw⟩ := HPU.out w9 o9 c9 hb9 ho9
          obtain ⟨e0, e1, e2, e3, e4, e5, e6, e7, e8, e9⟩ := hrw10.cells
          unfold maxLen at hc10b hc11b
          have HUWN := Lib.hid huw
          dsimp only [recCs, undoSet] at hr11
          clear HPU hb9 ho9 huw hrw10
          go_wp2_with (first | (at_builtin; refine Lib.wpList_append_run _ rfl _ _ _ _ rfl _ _ rfl rfl _ _ hr10 ?_) | (at_builtin; refine Lib.wpList_append_run _ rfl _ _ _ _ rfl _ _ rfl rfl _ _ hr11 ?_))
          go_roundw
          case rel => exact ⟨k + 1, _, c4', _, n5 + 1, c10, _, _, rfl, rfl, by go_num, by go_num, by omega, by omega, by omega, HUN, HUWN⟩
          case measure => simp [intOf]; omega
    · obtain rfl : k = n := by omega
      have hlr := HUS.out.len
      have HLG := Lib.hid (chainLogs (ea := ea) _ R 0 wr (HS.out.below HUW.out.bel) HUW.out.recs.gs HUS.out.ok (by omega) (by omega) (by omega))
      have hnrm := HUS.out.nrm
      rw [hlr] at hnrm
      have e1 : (((k + 1 : Nat) : Int)) = (k : Int) + 1 := by omega
      rw [e1] at hnrm
      have hch := HUS.out.stk.chain [] ((k : Int) + 1) hnrm
      rw [List.nil_append] at hch
      have HCH := Lib.hid hch
      have HNR := Lib.hid hnrm
      clear hlr hnrm hch e1 HUS
      go_wp2_with fail
      refine HLG.out.mono ?_
      clear HLG
      rintro e w3 ⟨X, Y, dx, dy, vx, vy, rfl, ht⟩
      have HX := Lib.hid ht.x
      have HB3 := Lib.hid (HUW.out.bel.trans (ht.bel.mono HUW.out.bel.size))
      have HL3 := Lib.hid (HUW.out.left.below ht.bel)
      clear ht HUW
      have HQ1 := Lib.hid (allFine HX.out (HS.out.below HB3.out) ((k : Int) + 1) st (by omega) (by omega) HCH.out)
      go_wp2_with fail
      refine HQ1.out.mono ?_
      clear HQ1
      rintro e w4 ⟨oa, capa, rfl, hb4, hna⟩
      have HB4 := Lib.hid (HB3.out.trans (hb4.mono HB3.out.size))
      have HX4 := Lib.hid (HX.out.below hb4)
      have HL4 := Lib.hid (HL3.out.below hb4)
      have HA4 := Lib.hid hna
      have HQ2 := Lib.hid (normFine HX4.out (HS.out.below HB4.out) ((k : Int) + 1) (st.headD 0) (by omega) (by omega) HNR.out)
      obtain ⟨_, _, _, hea, ha1, ha2, _, _⟩ := hna
      simp only [Value.slice.injEq] at hea
      obtain ⟨rfl, _, rfl⟩ := hea
      unfold maxLen at ha2
      rw [← HN5.out] at ha1 ⊢
      clear hb4 HX HB3 HL3 HCH HNR
      go_wp2_with fail
      refine HQ2.out.mono ?_
      clear HQ2
      rintro e w5 ⟨rfl, hb5⟩
      have HB5 := Lib.hid (HB4.out.trans (hb5.mono HB4.out.size))
      have HL5 := Lib.hid (HL4.out.below hb5)
      have HA5 := Lib.hid (HA4.out.below hb5)
      clear hb5 HX4 HB4 HL4 HA4
      have HHD : Hid ((n5 = 0 ∧ st.headD 0 = 0) ∨ (0 < n5 ∧ st.reverse.getD (n5 - 1) 0 = st.headD 0)) := Lib.hid (by
        have h := HN5.out
        cases st with
        | nil => exact .inl ⟨h, rfl⟩
        | cons a st2 =>
          right
          simp only [List.length_cons] at h
          refine ⟨by omega, ?_⟩
          rw [h, List.reverse_cons, List.getD_eq_getElem?_getD, Nat.add_sub_cancel, List.getElem?_append_right (by simp)]
          simp)
      generalize st.headD 0 = hd at HHD ⊢
      go_wp2_with fail
      go_loopw [18] (fun s wx => ∃ i : Nat, s = .int .i64 i ∧ (i : Int) ≤ n5 ∧ Hid (Below w5.heap.size w5 wx)) (fun s _ => n5 - (intOf s).toNat)
      case atStart => exact ⟨0, rfl, by omega, Lib.hid (Below.refl _ _)⟩
      case round =>
        obtain ⟨i, rfl, hi, HBX⟩ := hrel
        obtain ⟨hwa, _, _, hea, _, _, _, hac⟩ := HA5.out.below HBX.out
        obtain ⟨hwb, _, _, heb, _, _, _, hbc⟩ := HL5.out.below HBX.out
        simp only [Value.slice.injEq] at hea heb
        obtain ⟨rfl, hea2, rfl⟩ := hea
        obtain ⟨rfl, heb2, rfl⟩ := heb
        clear hea2 heb2
        have hn := HN5.out
        by_cases hin : (i : Int) < n5
        · obtain ⟨aa, xa, rfl, ga, hxa, _⟩ := Ns.at_ hwa hac (k := i) (by omega)
          obtain ⟨ab, xb, rfl, gb, hxb, _⟩ := Ns.at_ hwb hbc (k := n5 - 1 - i) (by rw [List.length_reverse]; omega)
          have hxx : xa = xb := by
            rw [← hxa.out, ← hxb.out, List.getD_eq_getElem?_getD, List.getD_eq_getElem?_getD, List.getElem?_reverse (by omega)]
            congr 2
            omega
          subst hxx
          have hidx : (n5 : Int) - 1 - (i : Int) = ((n5 - 1 - i : Nat) : Int) := by omega
          have hi1 : ((n5 - 1 - i : Nat) : Int) < (n5 : Int) := by omega
          have hi2 : n5 - 1 - i < n5 := by omega
          have HNN := Lib.hid hn
          clear hwa hac hwb hbc hxa hxb hn
          go_wp2_with fail
          go_quiet (fail)
          go_wp2_with fail
          go_roundw
          case rel => exact ⟨i + 1, by go_num, by omega, Lib.hid (HBX.out.trans (bdrew _ _ _))⟩
          case measure => simp [intOf]; omega
        · have HBN := Lib.hid (HB5.out.trans (HBX.out.mono HB5.out.size))
          rcases HHD.out with ⟨hz, rfl⟩ | ⟨hp, hd1⟩
          · subst hz
            clear hwa hac hwb hbc hn
            go_wp2_with fail
            go_ret
            exact ⟨rfl, HBN.out⟩
          · obtain ⟨ab, xb, rfl, gb, hxb, _⟩ := Ns.at_ hwb hbc (k := n5 - 1) (by rw [List.length_reverse]; omega)
            have hxx : xb = hd := by rw [← hxb.out, ← hd1]
            subst hxx
            have hidx : (n5 : Int) - 1 = ((n5 - 1 : Nat) : Int) := by omega
            have hi1 : ((n5 - 1 : Nat) : Int) < (n5 : Int) := by omega
            have hi2 : n5 - 1 < n5 := by omega
            have hz1 : ((n5 : Int) == 0) = false := by simp; omega
            have hz2 : (n5 == 0) = false := by simp; omega
            have hz3 : decide (0 < n5) = true := by simp; omega
            have hz4 : decide ((0 : Int) < (n5 : Int)) = true := by simp; omega
            clear hwa hac hwb hbc hxb hd1 hn hp
            go_wp2_with fail
            go_ret
            exact ⟨rfl, HBN.out⟩

theorem chainUndoes_walk {ea : Nat → Addr} (v : Value) (l : List Int) (w : World) (hs : Sen ea w) (hv : Ns .i64 w v l) :
    Calls Tryd.prog 7 #[v] w fun e w' => e = .returned (.bool true) ∧ Below w.heap.size w w' := by
  by_cases h : (40 : Int) < l.length
  · exact chainUndoes_idle v l w hs hv h
  · exact chainUndoes_walk0 v l w hs hv (by omega)
end Go.Proofs.YtccfiohcblecoaaDoor
