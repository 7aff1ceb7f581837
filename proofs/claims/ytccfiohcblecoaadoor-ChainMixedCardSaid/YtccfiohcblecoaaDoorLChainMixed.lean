/- The walk of the law ChainMixed. -/
import Derived.Test.YtccfiohcblecoaaDoorChL
import Derived.Test.YtccfiohcblecoaaDoorChQ
import Derived.Test.YtccfiohcblecoaaDoorSameI
namespace Go.Proofs.YtccfiohcblecoaaDoor
open Go.RowKit
set_option linter.unusedVariables false

theorem and_i64_one (x : Int) : bits .and .i64 x 1 = 0 ∨ bits .and .i64 x 1 = 1 := by
  have h : bits .and .i64 x 1 = IntKind.i64.wrap ((BitVec.ofInt 64 x &&& BitVec.ofInt 64 1).toNat : Int) := rfl
  have h1 : (BitVec.ofInt 64 x &&& BitVec.ofInt 64 1).toNat = (BitVec.ofInt 64 x).toNat % 2 := by
    rw [BitVec.toNat_and, show (BitVec.ofInt 64 1).toNat = 1 from rfl, Nat.and_one_is_mod]
  rw [h, h1, IntKind.wrap_i64]
  omega

theorem Stk.pushAt {R : List RecD} {st : List Int} {la : Int} (h : Stk R st) (hl : norm 0 R la = (st.headD 0, none)) (hla : la ≤ R.length) (r : RecD) (hk : r.kind = 2) (hp : r.prev = la) :
    Stk (R ++ [r]) (((R.length : Int) + 1) :: st) ∧ norm 0 (R ++ [r]) ((R.length : Int) + 1) = ((R.length : Int) + 1, none) := by
  have hr := recAtN_last R r
  refine ⟨⟨⟨by omega, by simp, r, hr, hk, by omega, ?_⟩, h.more⟩, norm_set (by omega) hr hk⟩
  rw [hp, norm_append (Int.le_refl _) _ _ (Nat.lt_succ_self _) (by omega)]; exact hl

/-- one of the two: its last record, its changes, the last one first -/
structure MS (R : List RecD) (la : Int) (st : List Int) : Prop where
  stk : Stk R st
  nrm : norm 0 R la = (st.headD 0, none)
  l0 : 1 ≤ la
  l1 : la ≤ R.length
theorem MS.more {R : List RecD} {la : Int} {st : List Int} (h : MS R la st) (r : RecD) : MS (R ++ [r]) la st :=
  ⟨h.stk.more, by rw [norm_append (Int.le_refl _) _ _ (Nat.lt_succ_self _) (by have := h.l1; omega)]; exact h.nrm, h.l0, by have := h.l1; simp; omega⟩
theorem MS.push {R : List RecD} {la : Int} {st : List Int} (h : MS R la st) (r : RecD) (hk : r.kind = 2) (hp : r.prev = la) : MS (R ++ [r]) ((R.length : Int) + 1) (((R.length : Int) + 1) :: st) := by
  obtain ⟨h1, h2⟩ := h.stk.pushAt h.nrm h.l1 r hk hp
  exact ⟨h1, h2, by omega, by simp⟩
def mixR (t : Int) (la : Int) (k : Nat) : RecD := ⟨2, t, 1, la, 0, k, false, true, 0, 0⟩
theorem mixR_w {t la : Int} {k : Nat} (ht : t = 1 ∨ t = 2) (h1 : 1 ≤ la) (h2 : la ≤ 100) (hk : k ≤ 40) : (mixR t la k).W := by constructor <;> simp [mixR, I64] <;> omega
theorem mixR_ok {t la : Int} {k : Nat} (ht : t = 1 ∨ t = 2) (h1 : 1 ≤ la) (h2 : la ≤ 100) (hk : k ≤ 40) : okR (mixR t la k) = true := by
  rcases ht with rfl | rfl
  · show okR ⟨2, 1, 1, la, 0, k, false, true, 0, 0⟩ = true
    simp [okR, inB, txnTop, pageTop, prevB, nextB, keyB, valsB]; omega
  · show okR ⟨2, 2, 1, la, 0, k, false, true, 0, 0⟩ = true
    simp [okR, inB, txnTop, pageTop, prevB, nextB, keyB, valsB]; omega
/-- what stands behind k changes -/
structure MX (k : Nat) (R : List RecD) (la0 la1 : Int) (st0 st1 : List Int) : Prop where
  len : R.length = k + 2
  a : MS R la0 st0
  b : MS R la1 st1
  ok : ∀ r ∈ R, okR r = true
  w : ∀ r ∈ R, r.W
  s0 : st0.length ≤ k
  s1 : st1.length ≤ k
  w0 : ∀ x ∈ st0, (Lit.int .i64 x).wf = true
def beg2 (t : Int) : RecD := ⟨1, t, 0, 0, 0, 0, false, false, 0, 0⟩
theorem beg2_w (t : Int) (ht : t = 1 ∨ t = 2) : (beg2 t).W := by constructor <;> simp [beg2, I64] <;> omega
theorem MX.zero : MX 0 [beg2 1, beg2 2] 1 2 [] [] where
  len := rfl
  a := ⟨trivial, norm_begin (by decide) (r := beg2 1) (by decide) rfl, by decide, by decide⟩
  b := ⟨trivial, norm_begin (by decide) (r := beg2 2) (by decide) rfl, by decide, by decide⟩
  ok := fun r hr => by
    simp only [List.mem_cons, List.not_mem_nil, or_false] at hr
    rcases hr with rfl | rfl <;> decide
  w := fun r hr => by
    simp only [List.mem_cons, List.not_mem_nil, or_false] at hr
    rcases hr with rfl | rfl
    · exact beg2_w 1 (.inl rfl)
    · exact beg2_w 2 (.inr rfl)
  s0 := Nat.le_refl _
  s1 := Nat.le_refl _
  w0 := fun x hx => by simp at hx
theorem mem_snoc {R : List RecD} {q : RecD → Prop} {x : RecD} (h : ∀ r ∈ R, q r) (hx : q x) : ∀ r ∈ R ++ [x], q r := fun r hr => by
  rcases List.mem_append.1 hr with hr | hr
  · exact h r hr
  · rw [List.mem_singleton.1 hr]; exact hx
theorem MX.push0 {k : Nat} {R : List RecD} {la0 la1 : Int} {st0 st1 : List Int} (h : MX k R la0 la1 st0 st1) (hk : k ≤ 40) : MX (k + 1) (R ++ [mixR 1 la0 k]) ((k : Int) + 2 + 1) la1 (((k : Int) + 2 + 1) :: st0) st1 := by
  have e : ((R.length : Int) + 1) = (k : Int) + 2 + 1 := by rw [h.len]; omega
  have h1 := h.a.push (mixR 1 la0 k) rfl rfl
  rw [e] at h1
  have hl := h.a.l1
  rw [h.len] at hl
  exact ⟨by rw [List.length_append, h.len]; rfl, h1, h.b.more _, mem_snoc h.ok (mixR_ok (.inl rfl) h.a.l0 (by omega) hk), mem_snoc h.w (mixR_w (.inl rfl) h.a.l0 (by omega) hk), by have := h.s0; simp; omega, by have := h.s1; omega, fun x hx => by
    rcases List.mem_cons.1 hx with rfl | hx
    · exact wf_of_i64 (by omega) (by omega)
    · exact h.w0 x hx⟩
theorem MX.push1 {k : Nat} {R : List RecD} {la0 la1 : Int} {st0 st1 : List Int} (h : MX k R la0 la1 st0 st1) (hk : k ≤ 40) : MX (k + 1) (R ++ [mixR 2 la1 k]) la0 ((k : Int) + 2 + 1) st0 (((k : Int) + 2 + 1) :: st1) := by
  have e : ((R.length : Int) + 1) = (k : Int) + 2 + 1 := by rw [h.len]; omega
  have h1 := h.b.push (mixR 2 la1 k) rfl rfl
  rw [e] at h1
  have hl := h.b.l1
  rw [h.len] at hl
  exact ⟨by rw [List.length_append, h.len]; rfl, h.a.more _, h1, mem_snoc h.ok (mixR_ok (.inr rfl) h.b.l0 (by omega) hk), mem_snoc h.w (mixR_w (.inr rfl) h.b.l0 (by omega) hk), by have := h.s0; omega, by have := h.s1; simp; omega, h.w0⟩

theorem int_laid (x : Int) (w : World) : (Instr.buildSlice 22 1 #[(0, .int .i64 x)]).run Tryd.prog w = .ok (.slice (some ⟨w.heap.size, 0, none⟩) 1 1) (w.alloc (.cells #[.int .i64 x] 3)) := by kernel_rfl
/-- a slice of numbers that lies apart from two blocks and a third -/
def Apart (w : World) (v : Value) (l : List Int) (no : Nat → Prop) : Prop := Ns .i64 w v l ∧ (l = [] → v = .slice none 0 0) ∧ (l ≠ [] → ∀ b, v.ownBlock = some b → ¬ no b)
/-- where all lies -/
structure MW (w0 w : World) (P Q : Nat) (o4 : Option Addr) (n4 c4 : Nat) (la0 la1 : Int) (v0 v1 : Value) (R : List RecD) (st0 st1 : List Int) : Prop where
  arr : w.heap[P]? = some (.cells #[.int .i64 la0, .int .i64 la1] 78 (0, 0))
  mine : w.heap[Q]? = some (.cells #[v0, v1] 79 (0, 0))
  recs : Og w0.heap.size w (.slice o4 n4 c4) R
  a : Apart w v0 st0 (fun b => b = P ∨ b = Q ∨ (Value.slice o4 n4 c4).ownBlock = some b)
  b : Apart w v1 st1 (fun b => b = P ∨ b = Q ∨ (Value.slice o4 n4 c4).ownBlock = some b)
  PQ : P ≠ Q
  P0 : w0.heap.size ≤ P
  Q0 : w0.heap.size ≤ Q
  rP : (Value.slice o4 n4 c4).ownBlock ≠ some P
  rQ : (Value.slice o4 n4 c4).ownBlock ≠ some Q
  bel : Below w0.heap.size w0 w

theorem MW.step0 {w0 wr : World} {P Q : Nat} {o4 : Option Addr} {c4 k : Nat} {la0 la1 : Int} {v0 v1 : Value} {R : List RecD} {st0 st1 : List Int} (h : MW w0 wr P Q o4 (k + 2) c4 la0 la1 v0 v1 R st0 st1) (hm : MX k R la0 la1 st0 st1) (hk : k ≤ 40) :
    ∃ gb cap w5, (Builtin.append_ #[60, 60] 60 #[.slice o4 (k + 2) c4, .slice (some ⟨wr.heap.size, 0, none⟩) 1 1]).run Tryd.prog (wr.alloc (.cells (recCs (mixR 1 la0 k)) 33)) = .ok (.slice (some ⟨gb, 0, none⟩) (k + 2 + 1) cap) w5 ∧ k + 2 + 1 ≤ cap ∧ cap ≤ maxLen ∧
      (w5.cell? ⟨P, 0, none⟩ = some (.int .i64 la0) ∧ w5.frozen? ⟨P, 0, none⟩ = false) ∧
      (∀ w6, w6 = w5.setCell ⟨P, 0, none⟩ (.int .i64 ((k : Int) + 2 + 1)) → w6.cell? ⟨Q, 0, none⟩ = some v0 ∧ Calls Tryd.prog 46 #[.slice (some ⟨w6.heap.size, 0, none⟩) 1 1] (w6.alloc (.cells #[.int .i64 ((k : Int) + 2 + 1)] 3)).drew (fun e w7 => ∃ o7 c7 gb2 cap2 w8, e = .returned (.slice o7 1 c7) ∧ w7.cell? ⟨Q, 0, none⟩ = some v0 ∧
        (Builtin.append_ #[22, 22] 22 #[.slice o7 1 c7, v0]).run Tryd.prog w7 = .ok (.slice (some ⟨gb2, 0, none⟩) (1 + st0.length) cap2) w8 ∧ (w8.cell? ⟨Q, 0, none⟩ = some v0 ∧ w8.frozen? ⟨Q, 0, none⟩ = false) ∧
        MW w0 (w8.setCell ⟨Q, 0, none⟩ (.slice (some ⟨gb2, 0, none⟩) (1 + st0.length) cap2)) P Q (some ⟨gb, 0, none⟩) (k + 2 + 1) cap ((k : Int) + 2 + 1) la1 (.slice (some ⟨gb2, 0, none⟩) (1 + st0.length) cap2) v1 (R ++ [mixR 1 la0 k]) (((k : Int) + 2 + 1) :: st0) st1)) := by
  have hrl := hm.len
  have hPl : P < wr.heap.size := (Array.getElem?_eq_some_iff.1 h.arr).1
  have hQl : Q < wr.heap.size := (Array.getElem?_eq_some_iff.1 h.mine).1
  have hal : Below wr.heap.size wr (wr.alloc (.cells (recCs (mixR 1 la0 k)) 33)) := (Below.refl _ _).alloc (Nat.le_refl _) _
  have hsa : (wr.alloc (.cells (recCs (mixR 1 la0 k)) 33)).heap.size = wr.heap.size + 1 := by simp
  have hlm := hm.a.l1
  rw [hrl] at hlm
  obtain ⟨gb, cap, w5, hrun, ho5, hg5, hat, hlt5, hc1, hc2⟩ := (h.recs.below hal).append1 (mixR 1 la0 k) (mixR_w (by decide) hm.a.l0 (by omega) hk) (by rw [hsa]; have := h.bel.size; omega) (by omega) wr.heap.size (RW.new wr _) 1 60
  rw [hrl] at hrun ho5 hc1
  have hsz5 := hg5.size
  have h5 : ∀ b, b < wr.heap.size → (Value.slice o4 (k + 2) c4).ownBlock ≠ some b → w5.heap[b]? = wr.heap[b]? := fun b hb hn => by
    rw [hg5.block b (by omega) (fun e => hn e.symm), hal.block b hb]
  have hgbP : gb ≠ P := fun e => by
    rcases hat with h1 | h1
    · exact h.rP (by rw [← e]; exact h1)
    · omega
  have hgbQ : gb ≠ Q := fun e => by
    rcases hat with h1 | h1
    · exact h.rQ (by rw [← e]; exact h1)
    · omega
  have hP5 : w5.heap[P]? = some (.cells #[.int .i64 la0, .int .i64 la1] 78 (0, 0)) := (h5 P hPl h.rP).trans h.arr
  have hQ5 : w5.heap[Q]? = some (.cells #[v0, v1] 79 (0, 0)) := (h5 Q hQl h.rQ).trans h.mine
  refine ⟨gb, cap, w5, hrun, hc1, hc2, ⟨by rw [cell_of_row w5 P _ _ _ (0, 0) hP5]; rfl, rowFrozen hP5 _⟩, ?_⟩
  intro w6 hw6
  have hs6 : w6.heap.size = w5.heap.size := by rw [hw6, setCell_sizeR]
  have h6 : ∀ b, b ≠ P → w6.heap[b]? = w5.heap[b]? := fun b hb => by rw [hw6]; exact setCell_otherR w5 _ _ hb
  have hP6 : w6.heap[P]? = some (.cells #[.int .i64 ((k : Int) + 2 + 1), .int .i64 la1] 78 (0, 0)) := by rw [hw6, setCell_rowR hP5]; rfl
  have hQ6 : w6.heap[Q]? = some (.cells #[v0, v1] 79 (0, 0)) := (h6 Q (Ne.symm h.PQ)).trans hQ5
  have hbel5 : Below w0.heap.size w0 w5 := (h.recs.below hal).grown hg5 (h.bel.alloc h.bel.size _) (Nat.le_refl _) (by rw [hsa]; have := h.bel.size; omega)
  have hbel6 : Below w0.heap.size w0 w6 := by rw [hw6]; exact hbel5.setCell (p := ⟨P, 0, none⟩) h.P0 _
  refine ⟨by rw [cell_of_row w6 Q _ _ _ (0, 0) hQ6]; rfl, ?_⟩
  have hN : ∀ (v : Value) (st : List Int), Apart wr v st (fun b => b = P ∨ b = Q ∨ (Value.slice o4 (k + 2) c4).ownBlock = some b) → Ns .i64 w6 v st ∧ (st ≠ [] → ∀ b, v.ownBlock = some b → b < wr.heap.size) := fun v st ha => by
    by_cases hne : st = []
    · subst hne
      rw [ha.2.1 rfl]
      exact ⟨Ns.nil _ _, fun h => absurd rfl h⟩
    · have hlt : ∀ b, v.ownBlock = some b → b < wr.heap.size := fun b e => by
        obtain ⟨_, o, c, rfl, _, _, _, h6⟩ := ha.1
        obtain ⟨a, rfl, hc⟩ := h6 hne
        have h := Below.lt (hc 0 (List.length_pos_iff.2 hne))
        have e1 : (a.add 0).block = a.block := by unfold Addr.add; split <;> rfl
        rw [e1] at h
        have e2 : a.block = b := by simpa [Value.ownBlock] using e
        omega
      refine ⟨ha.1.same fun b e => ?_, fun _ => hlt⟩
      have hn := ha.2.2 hne b e
      rw [h6 b (fun e2 => hn (.inl e2)), h5 b (hlt b e) (fun e2 => hn (.inr (.inr e2)))]
  obtain ⟨hA6, hAl⟩ := hN _ _ h.a
  obtain ⟨hB6, hBl⟩ := hN _ _ h.b
  have hwx : (Lit.int .i64 ((k : Int) + 2 + 1)).wf = true := wf_of_i64 (by omega) (by omega)
  have hal6 : Below w6.heap.size w6 (w6.alloc (.cells #[.int .i64 ((k : Int) + 2 + 1)] 3)).drew := ((Below.refl _ _).alloc (Nat.le_refl _) _).drew
  have hs7 : (w6.alloc (.cells #[.int .i64 ((k : Int) + 2 + 1)] 3)).drew.heap.size = w6.heap.size + 1 := by simp
  refine (intsRef _ [(k : Int) + 2 + 1] _ ((Ns.one hwx).below ((Below.refl _ _).drew)) (by simp)).mono ?_
  rintro e w7 ⟨o7, c7, rfl, hb7, ho7⟩
  have hb67 := hal6.trans (hb7.mono hal6.size)
  have hQ7 : w7.heap[Q]? = some (.cells #[v0, v1] 79 (0, 0)) := (hb67.block Q (by omega)).trans hQ6
  have happ : ∃ gb2 cap2 w8, (Builtin.append_ #[22, 22] 22 #[.slice o7 1 c7, v0]).run Tryd.prog w7 = .ok (.slice (some ⟨gb2, 0, none⟩) (1 + st0.length) cap2) w8 ∧ Oi (w6.heap.size + 1) w8 (.slice (some ⟨gb2, 0, none⟩) (1 + st0.length) cap2) (((k : Int) + 2 + 1) :: st0) ∧ w7.grownBy w8 (Value.slice o7 1 c7).ownBlock := by
    rw [hs7] at ho7
    by_cases hne : st0 = []
    · subst hne
      rw [h.a.2.1 rfl]
      obtain ⟨i0, hi0, hz0, hz1, hz2⟩ := info_parts intInfo
      have hr := run_append_owned_none (P := Tryd.prog) w7 (w6.heap.size + 1) 22 22 3 i0 1 Tryd.underlying22 hi0 (.slice o7 1 c7) 1 _ ho7.2
      obtain ⟨o, cp, hv, _, _, hn0, ha0⟩ := ho7.form
      simp only [Value.slice.injEq] at hv
      obtain ⟨rfl, _, rfl⟩ := hv
      cases o7 with
      | none => have := (hn0 rfl).2; simp at this
      | some a =>
        obtain ⟨gb2, rfl, _⟩ := ha0 a rfl
        exact ⟨gb2, c7, w7, hr, ho7, rfl, rfl, rfl, Nat.le_refl _, fun _ _ _ => rfl⟩
    · obtain ⟨gb2, cap2, w8, hr, ho8, hg8, _⟩ := ho7.append v0 st0 (hA6.below hb67) (by rw [← hs7]; exact hb7.size) (by have := hm.s0; simp; omega) hne 22
      exact ⟨gb2, cap2, w8, hr, ho8, hg8⟩
  obtain ⟨gb2, cap2, w8, hr8, ho8, hg8⟩ := happ
  have hb8 : Below (w6.heap.size + 1) (w6.alloc (.cells #[.int .i64 ((k : Int) + 2 + 1)] 3)).drew w8 := by
    rw [hs7] at ho7 hb7
    exact ho7.grown hg8 hb7 (Nat.le_refl _) (by have h1 := hb7.size; rw [hs7] at h1; exact h1)
  have hb68 : Below w6.heap.size w6 w8 := hal6.trans (hb8.mono (by omega))
  have hQ8 : w8.heap[Q]? = some (.cells #[v0, v1] 79 (0, 0)) := (hb68.block Q (by omega)).trans hQ6
  have hgb2 := (ho8.lt (b := gb2) (by rfl)).1
  have h9 : ∀ b, b ≠ Q → (w8.setCell ⟨Q, 0, none⟩ (.slice (some ⟨gb2, 0, none⟩) (1 + st0.length) cap2)).heap[b]? = w8.heap[b]? := fun b hb => setCell_otherR w8 _ _ hb
  refine ⟨o7, c7, gb2, cap2, w8, rfl, by rw [cell_of_row w7 Q _ _ _ (0, 0) hQ7]; rfl, hr8, ⟨by rw [cell_of_row w8 Q _ _ _ (0, 0) hQ8]; rfl, rowFrozen hQ8 _⟩, ?_⟩
  have hgbl : gb < w6.heap.size := by omega
  have hOth : ∀ (v : Value) (st : List Int), Apart wr v st (fun b => b = P ∨ b = Q ∨ (Value.slice o4 (k + 2) c4).ownBlock = some b) → Ns .i64 w6 v st → (st ≠ [] → ∀ b, v.ownBlock = some b → b < wr.heap.size) → Apart (w8.setCell ⟨Q, 0, none⟩ (.slice (some ⟨gb2, 0, none⟩) (1 + st0.length) cap2)) v st (fun b => b = P ∨ b = Q ∨ (Value.slice (some ⟨gb, 0, none⟩) (k + 2 + 1) cap).ownBlock = some b) := fun v st ha hn hl => by
    refine ⟨?_, ha.2.1, fun hne b e hbad => ?_⟩
    · by_cases hne : st = []
      · subst hne
        rw [ha.2.1 rfl]
        exact Ns.nil _ _
      · exact hn.same fun b e => by rw [h9 b (fun e2 => ha.2.2 hne b e (.inr (.inl e2))), hb68.block b (by have := hl hne b e; omega)]
    · rcases hbad with hb | hb | hb
      · exact ha.2.2 hne b e (.inl hb)
      · exact ha.2.2 hne b e (.inr (.inl hb))
      · have hb' : gb = b := by simpa [Value.ownBlock] using hb
        rcases hat with h1 | h1
        · exact ha.2.2 hne b e (.inr (.inr (by rw [← hb']; exact h1)))
        · have := hl hne b e; omega
  have hNew : Apart (w8.setCell ⟨Q, 0, none⟩ (.slice (some ⟨gb2, 0, none⟩) (1 + st0.length) cap2)) (.slice (some ⟨gb2, 0, none⟩) (1 + st0.length) cap2) (((k : Int) + 2 + 1) :: st0) (fun b => b = P ∨ b = Q ∨ (Value.slice (some ⟨gb, 0, none⟩) (k + 2 + 1) cap).ownBlock = some b) := by
    have hgg : ∀ b, (Value.slice (some ⟨gb2, 0, none⟩) (1 + st0.length) cap2).ownBlock = some b → gb2 = b := fun b e => by simpa [Value.ownBlock] using e
    refine ⟨ho8.ns.same fun b e => h9 b (fun e2 => by have := hgg b e; omega), fun h => by simp at h, fun _ b e hbad => ?_⟩
    have e1 := hgg b e
    rcases hbad with hb | hb | hb
    · omega
    · omega
    · have hb' : gb = b := by simpa [Value.ownBlock] using hb
      omega
  refine { arr := ?_, mine := ?_, recs := ?_, a := ?_, b := ?_, PQ := h.PQ, P0 := h.P0, Q0 := h.Q0, rP := fun e => hgbP (by simpa [Value.ownBlock] using e), rQ := fun e => hgbQ (by simpa [Value.ownBlock] using e), bel := ?_ }
  · rw [h9 P h.PQ, hb68.block P (by omega)]; exact hP6
  · rw [setCell_rowR hQ8]; rfl
  · refine ho5.same fun b e => ?_
    have e' : gb = b := by simpa [Value.ownBlock] using e
    subst e'
    rw [h9 gb hgbQ, hb68.block gb hgbl, h6 gb hgbP]
  · exact hNew
  · exact hOth _ _ h.b hB6 hBl
  · exact (hbel6.trans (hb68.mono hbel6.size)).setCell (p := ⟨Q, 0, none⟩) h.Q0 _

theorem MW.step1 {w0 wr : World} {P Q : Nat} {o4 : Option Addr} {c4 k : Nat} {la0 la1 : Int} {v0 v1 : Value} {R : List RecD} {st0 st1 : List Int} (h : MW w0 wr P Q o4 (k + 2) c4 la0 la1 v0 v1 R st0 st1) (hm : MX k R la0 la1 st0 st1) (hk : k ≤ 40) :
    ∃ gb cap w5, (Builtin.append_ #[60, 60] 60 #[.slice o4 (k + 2) c4, .slice (some ⟨wr.heap.size, 0, none⟩) 1 1]).run Tryd.prog (wr.alloc (.cells (recCs (mixR 2 la1 k)) 33)) = .ok (.slice (some ⟨gb, 0, none⟩) (k + 2 + 1) cap) w5 ∧ k + 2 + 1 ≤ cap ∧ cap ≤ maxLen ∧
      (w5.cell? ⟨P, 1, none⟩ = some (.int .i64 la1) ∧ w5.frozen? ⟨P, 1, none⟩ = false) ∧
      (∀ w6, w6 = w5.setCell ⟨P, 1, none⟩ (.int .i64 ((k : Int) + 2 + 1)) → w6.cell? ⟨Q, 1, none⟩ = some v1 ∧ Calls Tryd.prog 46 #[.slice (some ⟨w6.heap.size, 0, none⟩) 1 1] (w6.alloc (.cells #[.int .i64 ((k : Int) + 2 + 1)] 3)).drew (fun e w7 => ∃ o7 c7 gb2 cap2 w8, e = .returned (.slice o7 1 c7) ∧ w7.cell? ⟨Q, 1, none⟩ = some v1 ∧
        (Builtin.append_ #[22, 22] 22 #[.slice o7 1 c7, v1]).run Tryd.prog w7 = .ok (.slice (some ⟨gb2, 0, none⟩) (1 + st1.length) cap2) w8 ∧ (w8.cell? ⟨Q, 1, none⟩ = some v1 ∧ w8.frozen? ⟨Q, 1, none⟩ = false) ∧
        MW w0 (w8.setCell ⟨Q, 1, none⟩ (.slice (some ⟨gb2, 0, none⟩) (1 + st1.length) cap2)) P Q (some ⟨gb, 0, none⟩) (k + 2 + 1) cap la0 ((k : Int) + 2 + 1) v0 (.slice (some ⟨gb2, 0, none⟩) (1 + st1.length) cap2) (R ++ [mixR 2 la1 k]) st0 (((k : Int) + 2 + 1) :: st1))) := by
  have hrl := hm.len
  have hPl : P < wr.heap.size := (Array.getElem?_eq_some_iff.1 h.arr).1
  have hQl : Q < wr.heap.size := (Array.getElem?_eq_some_iff.1 h.mine).1
  have hal : Below wr.heap.size wr (wr.alloc (.cells (recCs (mixR 2 la1 k)) 33)) := (Below.refl _ _).alloc (Nat.le_refl _) _
  have hsa : (wr.alloc (.cells (recCs (mixR 2 la1 k)) 33)).heap.size = wr.heap.size + 1 := by simp
  have hlm := hm.b.l1
  rw [hrl] at hlm
  obtain ⟨gb, cap, w5, hrun, ho5, hg5, hat, hlt5, hc1, hc2⟩ := (h.recs.below hal).append1 (mixR 2 la1 k) (mixR_w (by decide) hm.b.l0 (by omega) hk) (by rw [hsa]; have := h.bel.size; omega) (by omega) wr.heap.size (RW.new wr _) 1 60
  rw [hrl] at hrun ho5 hc1
  have hsz5 := hg5.size
  have h5 : ∀ b, b < wr.heap.size → (Value.slice o4 (k + 2) c4).ownBlock ≠ some b → w5.heap[b]? = wr.heap[b]? := fun b hb hn => by
    rw [hg5.block b (by omega) (fun e => hn e.symm), hal.block b hb]
  have hgbP : gb ≠ P := fun e => by
    rcases hat with h1 | h1
    · exact h.rP (by rw [← e]; exact h1)
    · omega
  have hgbQ : gb ≠ Q := fun e => by
    rcases hat with h1 | h1
    · exact h.rQ (by rw [← e]; exact h1)
    · omega
  have hP5 : w5.heap[P]? = some (.cells #[.int .i64 la0, .int .i64 la1] 78 (0, 0)) := (h5 P hPl h.rP).trans h.arr
  have hQ5 : w5.heap[Q]? = some (.cells #[v0, v1] 79 (0, 0)) := (h5 Q hQl h.rQ).trans h.mine
  refine ⟨gb, cap, w5, hrun, hc1, hc2, ⟨by rw [cell_of_row w5 P _ _ _ (0, 0) hP5]; rfl, rowFrozen hP5 _⟩, ?_⟩
  intro w6 hw6
  have hs6 : w6.heap.size = w5.heap.size := by rw [hw6, setCell_sizeR]
  have h6 : ∀ b, b ≠ P → w6.heap[b]? = w5.heap[b]? := fun b hb => by rw [hw6]; exact setCell_otherR w5 _ _ hb
  have hP6 : w6.heap[P]? = some (.cells #[.int .i64 la0, .int .i64 ((k : Int) + 2 + 1)] 78 (0, 0)) := by rw [hw6, setCell_rowR hP5]; rfl
  have hQ6 : w6.heap[Q]? = some (.cells #[v0, v1] 79 (0, 0)) := (h6 Q (Ne.symm h.PQ)).trans hQ5
  have hbel5 : Below w0.heap.size w0 w5 := (h.recs.below hal).grown hg5 (h.bel.alloc h.bel.size _) (Nat.le_refl _) (by rw [hsa]; have := h.bel.size; omega)
  have hbel6 : Below w0.heap.size w0 w6 := by rw [hw6]; exact hbel5.setCell (p := ⟨P, 1, none⟩) h.P0 _
  refine ⟨by rw [cell_of_row w6 Q _ _ _ (0, 0) hQ6]; rfl, ?_⟩
  have hN : ∀ (v : Value) (st : List Int), Apart wr v st (fun b => b = P ∨ b = Q ∨ (Value.slice o4 (k + 2) c4).ownBlock = some b) → Ns .i64 w6 v st ∧ (st ≠ [] → ∀ b, v.ownBlock = some b → b < wr.heap.size) := fun v st ha => by
    by_cases hne : st = []
    · subst hne
      rw [ha.2.1 rfl]
      exact ⟨Ns.nil _ _, fun h => absurd rfl h⟩
    · have hlt : ∀ b, v.ownBlock = some b → b < wr.heap.size := fun b e => by
        obtain ⟨_, o, c, rfl, _, _, _, h6⟩ := ha.1
        obtain ⟨a, rfl, hc⟩ := h6 hne
        have h := Below.lt (hc 0 (List.length_pos_iff.2 hne))
        have e1 : (a.add 0).block = a.block := by unfold Addr.add; split <;> rfl
        rw [e1] at h
        have e2 : a.block = b := by simpa [Value.ownBlock] using e
        omega
      refine ⟨ha.1.same fun b e => ?_, fun _ => hlt⟩
      have hn := ha.2.2 hne b e
      rw [h6 b (fun e2 => hn (.inl e2)), h5 b (hlt b e) (fun e2 => hn (.inr (.inr e2)))]
  obtain ⟨hA6, hAl⟩ := hN _ _ h.a
  obtain ⟨hB6, hBl⟩ := hN _ _ h.b
  have hwx : (Lit.int .i64 ((k : Int) + 2 + 1)).wf = true := wf_of_i64 (by omega) (by omega)
  have hal6 : Below w6.heap.size w6 (w6.alloc (.cells #[.int .i64 ((k : Int) + 2 + 1)] 3)).drew := ((Below.refl _ _).alloc (Nat.le_refl _) _).drew
  have hs7 : (w6.alloc (.cells #[.int .i64 ((k : Int) + 2 + 1)] 3)).drew.heap.size = w6.heap.size + 1 := by simp
  refine (intsRef _ [(k : Int) + 2 + 1] _ ((Ns.one hwx).below ((Below.refl _ _).drew)) (by simp)).mono ?_
  rintro e w7 ⟨o7, c7, rfl, hb7, ho7⟩
  have hb67 := hal6.trans (hb7.mono hal6.size)
  have hQ7 : w7.heap[Q]? = some (.cells #[v0, v1] 79 (0, 0)) := (hb67.block Q (by omega)).trans hQ6
  have happ : ∃ gb2 cap2 w8, (Builtin.append_ #[22, 22] 22 #[.slice o7 1 c7, v1]).run Tryd.prog w7 = .ok (.slice (some ⟨gb2, 0, none⟩) (1 + st1.length) cap2) w8 ∧ Oi (w6.heap.size + 1) w8 (.slice (some ⟨gb2, 0, none⟩) (1 + st1.length) cap2) (((k : Int) + 2 + 1) :: st1) ∧ w7.grownBy w8 (Value.slice o7 1 c7).ownBlock := by
    rw [hs7] at ho7
    by_cases hne : st1 = []
    · subst hne
      rw [h.b.2.1 rfl]
      obtain ⟨i0, hi0, hz0, hz1, hz2⟩ := info_parts intInfo
      have hr := run_append_owned_none (P := Tryd.prog) w7 (w6.heap.size + 1) 22 22 3 i0 1 Tryd.underlying22 hi0 (.slice o7 1 c7) 1 _ ho7.2
      obtain ⟨o, cp, hv, _, _, hn0, ha0⟩ := ho7.form
      simp only [Value.slice.injEq] at hv
      obtain ⟨rfl, _, rfl⟩ := hv
      cases o7 with
      | none => have := (hn0 rfl).2; simp at this
      | some a =>
        obtain ⟨gb2, rfl, _⟩ := ha0 a rfl
        exact ⟨gb2, c7, w7, hr, ho7, rfl, rfl, rfl, Nat.le_refl _, fun _ _ _ => rfl⟩
    · obtain ⟨gb2, cap2, w8, hr, ho8, hg8, _⟩ := ho7.append v1 st1 (hB6.below hb67) (by rw [← hs7]; exact hb7.size) (by have := hm.s1; simp; omega) hne 22
      exact ⟨gb2, cap2, w8, hr, ho8, hg8⟩
  obtain ⟨gb2, cap2, w8, hr8, ho8, hg8⟩ := happ
  have hb8 : Below (w6.heap.size + 1) (w6.alloc (.cells #[.int .i64 ((k : Int) + 2 + 1)] 3)).drew w8 := by
    rw [hs7] at ho7 hb7
    exact ho7.grown hg8 hb7 (Nat.le_refl _) (by have h1 := hb7.size; rw [hs7] at h1; exact h1)
  have hb68 : Below w6.heap.size w6 w8 := hal6.trans (hb8.mono (by omega))
  have hQ8 : w8.heap[Q]? = some (.cells #[v0, v1] 79 (0, 0)) := (hb68.block Q (by omega)).trans hQ6
  have hgb2 := (ho8.lt (b := gb2) (by rfl)).1
  have h9 : ∀ b, b ≠ Q → (w8.setCell ⟨Q, 1, none⟩ (.slice (some ⟨gb2, 0, none⟩) (1 + st1.length) cap2)).heap[b]? = w8.heap[b]? := fun b hb => setCell_otherR w8 _ _ hb
  refine ⟨o7, c7, gb2, cap2, w8, rfl, by rw [cell_of_row w7 Q _ _ _ (0, 0) hQ7]; rfl, hr8, ⟨by rw [cell_of_row w8 Q _ _ _ (0, 0) hQ8]; rfl, rowFrozen hQ8 _⟩, ?_⟩
  have hgbl : gb < w6.heap.size := by omega
  have hOth : ∀ (v : Value) (st : List Int), Apart wr v st (fun b => b = P ∨ b = Q ∨ (Value.slice o4 (k + 2) c4).ownBlock = some b) → Ns .i64 w6 v st → (st ≠ [] → ∀ b, v.ownBlock = some b → b < wr.heap.size) → Apart (w8.setCell ⟨Q, 1, none⟩ (.slice (some ⟨gb2, 0, none⟩) (1 + st1.length) cap2)) v st (fun b => b = P ∨ b = Q ∨ (Value.slice (some ⟨gb, 0, none⟩) (k + 2 + 1) cap).ownBlock = some b) := fun v st ha hn hl => by
    refine ⟨?_, ha.2.1, fun hne b e hbad => ?_⟩
    · by_cases hne : st = []
      · subst hne
        rw [ha.2.1 rfl]
        exact Ns.nil _ _
      · exact hn.same fun b e => by rw [h9 b (fun e2 => ha.2.2 hne b e (.inr (.inl e2))), hb68.block b (by have := hl hne b e; omega)]
    · rcases hbad with hb | hb | hb
      · exact ha.2.2 hne b e (.inl hb)
      · exact ha.2.2 hne b e (.inr (.inl hb))
      · have hb' : gb = b := by simpa [Value.ownBlock] using hb
        rcases hat with h1 | h1
        · exact ha.2.2 hne b e (.inr (.inr (by rw [← hb']; exact h1)))
        · have := hl hne b e; omega
  have hNew : Apart (w8.setCell ⟨Q, 1, none⟩ (.slice (some ⟨gb2, 0, none⟩) (1 + st1.length) cap2)) (.slice (some ⟨gb2, 0, none⟩) (1 + st1.length) cap2) (((k : Int) + 2 + 1) :: st1) (fun b => b = P ∨ b = Q ∨ (Value.slice (some ⟨gb, 0, none⟩) (k + 2 + 1) cap).ownBlock = some b) := by
    have hgg : ∀ b, (Value.slice (some ⟨gb2, 0, none⟩) (1 + st1.length) cap2).ownBlock = some b → gb2 = b := fun b e => by simpa [Value.ownBlock] using e
    refine ⟨ho8.ns.same fun b e => h9 b (fun e2 => by have := hgg b e; omega), fun h => by simp at h, fun _ b e hbad => ?_⟩
    have e1 := hgg b e
    rcases hbad with hb | hb | hb
    · omega
    · omega
    · have hb' : gb = b := by simpa [Value.ownBlock] using hb
      omega
  refine { arr := ?_, mine := ?_, recs := ?_, a := ?_, b := ?_, PQ := h.PQ, P0 := h.P0, Q0 := h.Q0, rP := fun e => hgbP (by simpa [Value.ownBlock] using e), rQ := fun e => hgbQ (by simpa [Value.ownBlock] using e), bel := ?_ }
  · rw [h9 P h.PQ, hb68.block P (by omega)]; exact hP6
  · rw [setCell_rowR hQ8]; rfl
  · refine ho5.same fun b e => ?_
    have e' : gb = b := by simpa [Value.ownBlock] using e
    subst e'
    rw [h9 gb hgbQ, hb68.block gb hgbl, h6 gb hgbP]
  · exact hOth _ _ h.a hA6 hAl
  · exact hNew
  · exact (hbel6.trans (hb68.mono hbel6.size)).setCell (p := ⟨Q, 1, none⟩) h.Q0 _

set_option maxRecDepth 20000 in
set_option maxHeartbeats 4000000 in
theorem chainMixed_walk0 {ea : Nat → Addr} (v : Value) (l : List Int) (w : World) (hs : Sen ea w) (hv : Ns .i64 w v l) (hl : (l.length : Int) ≤ 40) :
    Calls Tryd.prog 9 #[v] w fun e w' => e = .returned (.bool true) ∧ Below w.heap.size w w' := by
  have HS := Lib.hid hs
  have HF := Lib.hid (chainFirst w hs)
  obtain ⟨hwf, o, cap, rfl, hc1, hc2, hc3, hcell⟩ := hv
  have HCELL := Lib.hid (fun k (hk : k < l.length) => Ns.at_ hwf hcell hk)
  unfold maxLen at hc2
  obtain ⟨n, hn⟩ : ∃ n, n = l.length := ⟨_, rfl⟩
  rw [← hn] at hc1 hl ⊢
  have HN := Lib.hid hn
  clear hs hn hcell hc3 hwf
  go_enter Tryd.func9, Tryd.ntmps9
  go_wp2_with fail
  refine HF.out.mono ?_
  clear HF
  rintro e w1 ⟨rfl, hb1⟩
  have HB1 := Lib.hid hb1
  clear hb1
  obtain ⟨w2, hw2⟩ : ∃ w2, w2 = w1.alloc (.cells #[.int .i64 1, .int .i64 1, .int .i64 0, .int .i64 0, .int .i64 0, .int .i64 0, .bool false, .bool false, .int .i64 0, .int .i64 0, .int .i64 1, .int .i64 2, .int .i64 0, .int .i64 0, .int .i64 0, .int .i64 0, .bool false, .bool false, .int .i64 0, .int .i64 0] 33) := ⟨_, rfl⟩
  have hs2 : w2.heap.size = w1.heap.size + 1 := by rw [hw2]; simp
  have ho2 : Og w.heap.size w2 (.slice (some ⟨w1.heap.size, 0, none⟩) (0 + 2) 2) [beg2 1, beg2 2] := ⟨MX.zero.w, by
    rw [hw2]
    have := World.ownsRow_lit (e := 33) (size := 10) w1 #[.int .i64 1, .int .i64 1, .int .i64 0, .int .i64 0, .int .i64 0, .int .i64 0, .bool false, .bool false, .int .i64 0, .int .i64 0, .int .i64 1, .int .i64 2, .int .i64 0, .int .i64 0, .int .i64 0, .int .i64 0, .bool false, .bool false, .int .i64 0, .int .i64 0] 2 HB1.out.size (by simp [maxLen]) (by simp)
    exact this⟩
  have hb2 : Below w1.heap.size w1 w2 := by rw [hw2]; exact (Below.refl _ _).alloc (Nat.le_refl _) _
  obtain ⟨w3, hw3⟩ : ∃ w3, w3 = w2.alloc (.cells #[.int .i64 1, .int .i64 2] 78) := ⟨_, rfl⟩
  have hs3 : w3.heap.size = w1.heap.size + 1 + 1 := by rw [hw3, ← hs2]; simp
  have hb3 : Below w2.heap.size w2 w3 := by rw [hw3]; exact (Below.refl _ _).alloc (Nat.le_refl _) _
  have hr3 : w3.heap[w1.heap.size + 1]? = some (.cells #[.int .i64 1, .int .i64 2] 78 (0, 0)) := by rw [hw3, ← hs2]; exact heap_alloc_new w2 _
  obtain ⟨w4, hw4⟩ : ∃ w4, w4 = w3.alloc (.cells #[.slice none 0 0, .slice none 0 0] 79) := ⟨_, rfl⟩
  have hb4 : Below w3.heap.size w3 w4 := by rw [hw4]; exact (Below.refl _ _).alloc (Nat.le_refl _) _
  have hr4 : w4.heap[w1.heap.size + 1 + 1]? = some (.cells #[.slice none 0 0, .slice none 0 0] 79 (0, 0)) := by rw [hw4, ← hs3]; exact heap_alloc_new w3 _
  have HMW : Hid (MW w w4 (w1.heap.size + 1) (w1.heap.size + 1 + 1) (some ⟨w1.heap.size, 0, none⟩) (0 + 2) 2 1 2 (.slice none 0 0) (.slice none 0 0) [beg2 1, beg2 2] [] []) := Lib.hid
    { arr := by rw [hb4.block _ (by omega)]; exact hr3
      mine := hr4
      recs := (ho2.below hb3).below hb4
      a := ⟨Ns.nil _ _, fun _ => rfl, fun h => absurd rfl h⟩
      b := ⟨Ns.nil _ _, fun _ => rfl, fun h => absurd rfl h⟩
      PQ := by omega
      P0 := by have := HB1.out.size; omega
      Q0 := by have := HB1.out.size; omega
      rP := fun e => by simp [Value.ownBlock] at e
      rQ := fun e => by simp [Value.ownBlock] at e; omega
      bel := by
        have h1 := HB1.out.trans (hb2.mono HB1.out.size)
        have h2 := h1.trans (hb3.mono h1.size)
        exact h2.trans (hb4.mono h2.size) }
  have HW4 : Hid (w4 = _) := Lib.hid hw4
  rw [hw3, hw2] at HW4
  clear ho2 hb2 hb3 hb4 hr3 hr4 hs2 hs3 hw4
  clear hw3
  clear hw2
  go_upto_region 9 with fail
  rw [← HW4.out]
  generalize w1.heap.size + 1 + 1 = Q at HMW ⊢
  generalize w1.heap.size + 1 = P at HMW ⊢
  generalize w1.heap.size = A1 at HMW ⊢
  clear HW4 HB1
  go_wp2_with fail
  go_loopw [4, 7] (fun s4 s7 wr => ∃ k o4 c4 la0 la1 v0 v1 R st0 st1, s4 = .slice o4 (k + 2) c4 ∧ s7 = .int .i64 (k : Int) ∧ (k : Int) ≤ n ∧ k + 2 ≤ c4 ∧ c4 ≤ 9223372036854775807 ∧ Hid (MX k R la0 la1 st0 st1) ∧ Hid (MW w wr P Q o4 (k + 2) c4 la0 la1 v0 v1 R st0 st1)) (fun _ i _ => n - (intOf i).toNat)
  case atStart => exact ⟨0, _, 2, 1, 2, _, _, [beg2 1, beg2 2], [], [], rfl, rfl, by omega, by omega, by omega, Lib.hid MX.zero, HMW⟩
  case round =>
    obtain ⟨k, o4, c4, la0, la1, v0, v1, R, st0, st1, rfl, rfl, hk, h41, h42, HMX, HMR⟩ := hrel
    clear HMW
    have hPc : wr.cell? ⟨P, 0, none⟩ = some (.int .i64 la0) ∧ wr.cell? ⟨P, 1, none⟩ = some (.int .i64 la1) := by
      constructor <;> rw [cell_of_row wr P _ _ _ (0, 0) HMR.out.arr] <;> rfl
    by_cases hkn : (k : Int) < n
    · have hk40 : k ≤ 40 := by omega
      obtain ⟨a, x, rfl, g0, hx, hxw⟩ := HCELL.out k (by have := HN.out; omega)
      have gx := (HMR.out.bel.cell (Below.lt g0)).trans g0
      obtain ⟨p0, p1⟩ := hPc
      clear hx hxw g0
      rcases and_i64_one x with hy | hy
      · obtain ⟨gb, cap2, w5, hr5, hca, hcb, ⟨q1, q2⟩, hrest⟩ := HMR.out.step0 HMX.out hk40
        have HRS := Lib.hid hrest
        have HMN := Lib.hid (HMX.out.push0 hk40)
        unfold maxLen at hcb
        dsimp only [recCs, mixR] at hr5
        clear hrest HMR HMX
        go_upto_region 13 with fail
        go_cut [4] from 37 to 46 (fun s4 wx => s4 = .slice (some ⟨gb, 0, none⟩) (k + 2 + 1) cap2 ∧ wx = w5)
        case first =>
          go_wp2_with (at_builtin; refine Lib.wpList_append_run _ rfl _ _ _ _ rfl _ _ rfl rfl _ _ hr5 ?_)
          go_meet
          exact ⟨rfl, rfl⟩
        obtain ⟨rfl, rfl⟩ := hcut
        clear hr5 gx p0 p1
        obtain ⟨w6, hw6⟩ : ∃ w6, w6 = wc.setCell ⟨P, 0, none⟩ (.int .i64 ((k : Int) + 2 + 1)) := ⟨_, rfl⟩
        obtain ⟨g6, hin⟩ := HRS.out w6 hw6
        have HIN := Lib.hid hin
        have HW6 := Lib.hid hw6
        clear hin hw6 HRS hy
        go_upto_region 15 with fail
        rw [← HW6.out]
        clear HW6 q1 q2
        have hlt := Below.lt g6
        have g7 : (w6.alloc (.cells #[.int .i64 ((k : Int) + 2 + 1)] 3)).cell? ⟨Q, 0, none⟩ = some v0 := (World.cell?_of_block (a := ⟨Q, 0, none⟩) (Below.heap_alloc w6 _ _ hlt)).trans g6
        clear hlt
        go_wp2_with fail
        go_region_law ((first
          | (refine step_append_run _ rfl _ _ _ _ rfl _ _ rfl rfl _ _ hr8 ?_)
          | (go_simp; go_at_call 46; (with_reducible refine HIN.out.mono ?_); rintro e w7 ⟨o7, c7, gb2, cc2, w8, rfl, k7, hr8, ⟨k8, f8⟩, hmw⟩)))
        all_goals
          have HMW9 := Lib.hid hmw
          clear hmw hr8 k7 k8 f8 g6 g7
          go_wp2_with fail
          go_roundw
          case rel =>
            have e : k + 2 + 1 = (k + 1) + 2 := by omega
            have hle : ((k + 1 : Nat) : Int) ≤ (n : Int) := by omega
            rw [e] at HMW9 hca ⊢
            exact ⟨k + 1, _, _, _, _, _, _, _, _, _, rfl, by go_num, hle, hca, hcb, HMN, HMW9⟩
          case measure => simp [intOf]; omega
      · obtain ⟨gb, cap2, w5, hr5, hca, hcb, ⟨q1, q2⟩, hrest⟩ := HMR.out.step1 HMX.out hk40
        have HRS := Lib.hid hrest
        have HMN := Lib.hid (HMX.out.push1 hk40)
        unfold maxLen at hcb
        dsimp only [recCs, mixR] at hr5
        clear hrest HMR HMX
        go_upto_region 13 with fail
        go_cut [4] from 37 to 46 (fun s4 wx => s4 = .slice (some ⟨gb, 0, none⟩) (k + 2 + 1) cap2 ∧ wx = w5)
        case first =>
          go_wp2_with (at_builtin; refine Lib.wpList_append_run _ rfl _ _ _ _ rfl _ _ rfl rfl _ _ hr5 ?_)
          go_meet
          exact ⟨rfl, rfl⟩
        obtain ⟨rfl, rfl⟩ := hcut
        clear hr5 gx p0 p1
        obtain ⟨w6, hw6⟩ : ∃ w6, w6 = wc.setCell ⟨P, 1, none⟩ (.int .i64 ((k : Int) + 2 + 1)) := ⟨_, rfl⟩
        obtain ⟨g6, hin⟩ := HRS.out w6 hw6
        have HIN := Lib.hid hin
        have HW6 := Lib.hid hw6
        clear hin hw6 HRS hy
        go_upto_region 15 with fail
        rw [← HW6.out]
        clear HW6 q1 q2
        have hlt := Below.lt g6
        have g7 : (w6.alloc (.cells #[.int .i64 ((k : Int) + 2 + 1)] 3)).cell? ⟨Q, 1, none⟩ = some v1 := (World.cell?_of_block (a := ⟨Q, 1, none⟩) (Below.heap_alloc w6 _ _ hlt)).trans g6
        clear hlt
        go_wp2_with fail
        go_region_law ((first
          | (refine step_append_run _ rfl _ _ _ _ rfl _ _ rfl rfl _ _ hr8 ?_)
          | (go_simp; go_at_call 46; (with_reducible refine HIN.out.mono ?_); rintro e w7 ⟨o7, c7, gb2, cc2, w8, rfl, k7, hr8, ⟨k8, f8⟩, hmw⟩)))
        all_goals
          have HMW9 := Lib.hid hmw
          clear hmw hr8 k7 k8 f8 g6 g7
          go_wp2_with fail
          go_roundw
          case rel =>
            have e : k + 2 + 1 = (k + 1) + 2 := by omega
            have hle : ((k + 1 : Nat) : Int) ≤ (n : Int) := by omega
            rw [e] at HMW9 hca ⊢
            exact ⟨k + 1, _, _, _, _, _, _, _, _, _, rfl, by go_num, hle, hca, hcb, HMN, HMW9⟩
          case measure => simp [intOf]; omega
    · obtain rfl : k = n := by omega
      have hlr := HMX.out.len
      have HLG := Lib.hid (chainLogs (ea := ea) _ R 0 wr (HS.out.below HMR.out.bel) HMR.out.recs.gs HMX.out.ok (by omega) (by omega) (by omega))
      have hch0 := HMX.out.a.stk.chain [] la0 HMX.out.a.nrm
      have hch1 := HMX.out.b.stk.chain [] la1 HMX.out.b.nrm
      rw [List.nil_append] at hch0 hch1
      have HCH0 := Lib.hid hch0
      have HCH1 := Lib.hid hch1
      have l00 := HMX.out.a.l0
      have l01 := HMX.out.a.l1
      have l10 := HMX.out.b.l0
      have l11 := HMX.out.b.l1
      rw [hlr] at l01 l11
      have HROW := Lib.hid (fun W (hb : Below wr.heap.size wr W) => (show W.cell? ⟨P, 0, none⟩ = some (.int .i64 la0) ∧ W.cell? ⟨P, 1, none⟩ = some (.int .i64 la1) ∧ W.cell? ⟨Q, 0, none⟩ = some v0 ∧ W.cell? ⟨Q, 1, none⟩ = some v1 by
        have h1 : W.heap[P]? = some (.cells #[.int .i64 la0, .int .i64 la1] 78 (0, 0)) := (hb.block P (Array.getElem?_eq_some_iff.1 HMR.out.arr).1).trans HMR.out.arr
        have h2 : W.heap[Q]? = some (.cells #[v0, v1] 79 (0, 0)) := (hb.block Q (Array.getElem?_eq_some_iff.1 HMR.out.mine).1).trans HMR.out.mine
        refine ⟨?_, ?_, ?_, ?_⟩
        · rw [cell_of_row W P _ _ _ (0, 0) h1]; rfl
        · rw [cell_of_row W P _ _ _ (0, 0) h1]; rfl
        · rw [cell_of_row W Q _ _ _ (0, 0) h2]; rfl
        · rw [cell_of_row W Q _ _ _ (0, 0) h2]; rfl))
      have HV0 := Lib.hid HMR.out.a.1
      have HV1 := Lib.hid HMR.out.b.1
      have HB0 := Lib.hid HMR.out.bel
      clear hlr hch0 hch1 HMX HMR hPc
      go_wp2_with fail
      refine HLG.out.mono ?_
      clear HLG
      rintro e w3' ⟨X, Y, dx, dy, vx, vy, rfl, ht⟩
      have HX := Lib.hid ht.x
      have HB03 := Lib.hid ht.bel
      have HB3 := Lib.hid (HB0.out.trans (ht.bel.mono HB0.out.size))
      clear ht
      go_wp2_with fail
      go_loopw [12] (fun s wy => ∃ j : Nat, s = .int .i64 j ∧ j ≤ 2 ∧ Hid (Below w3'.heap.size w3' wy)) (fun s _ => (2 - intOf s).toNat)
      case atStart => exact ⟨0, rfl, by omega, Lib.hid (Below.refl _ _)⟩
      case round =>
        obtain ⟨j, rfl, hj, HBY⟩ := hrel
        have hj3 : j = 0 ∨ j = 1 ∨ j = 2 := by omega
        clear hj
        rcases hj3 with hj0 | hj1 | hj2
        · subst hj0
          have HQ1 := Lib.hid (allFine (HX.out.below HBY.out) (HS.out.below (HB3.out.trans (HBY.out.mono HB3.out.size))) la0 st0 (by omega) (by omega) HCH0.out)
          obtain ⟨p0, p1, q0, q1⟩ := HROW.out _ (HB03.out.trans (HBY.out.mono HB03.out.size))
          go_wp2_with fail
          refine HQ1.out.mono ?_
          clear HQ1
          rintro e w5 ⟨oa, capa, rfl, hb5, hna⟩
          have HB5 := Lib.hid (HBY.out.trans (hb5.mono HBY.out.size))
          have hsi := sameIntsQ _ _ st0 st0 w5 hna (HV0.out.below (HB03.out.trans (HB5.out.mono HB03.out.size)))
          rw [show sameB st0 st0 = true by simp [sameB]] at hsi
          have HSI := Lib.hid hsi
          clear p0 p1 q0 q1 hb5 hna hsi
          obtain ⟨p0, p1, q0, q1⟩ := HROW.out _ (HB03.out.trans (HB5.out.mono HB03.out.size))
          go_wp2_with fail
          refine HSI.out.mono ?_
          clear HSI
          rintro e w6 ⟨rfl, hq6⟩
          have HB6 := Lib.hid (HB5.out.trans (hq6.below _))
          clear hq6 p0 p1 q0 q1
          go_wp2_with fail
          go_roundw
          case rel => exact ⟨1, by go_num, by omega, HB6⟩
          case measure => simp [intOf]
        · subst hj1
          have HQ1 := Lib.hid (allFine (HX.out.below HBY.out) (HS.out.below (HB3.out.trans (HBY.out.mono HB3.out.size))) la1 st1 (by omega) (by omega) HCH1.out)
          obtain ⟨p0, p1, q0, q1⟩ := HROW.out _ (HB03.out.trans (HBY.out.mono HB03.out.size))
          go_wp2_with fail
          refine HQ1.out.mono ?_
          clear HQ1
          rintro e w5 ⟨oa, capa, rfl, hb5, hna⟩
          have HB5 := Lib.hid (HBY.out.trans (hb5.mono HBY.out.size))
          have hsi := sameIntsQ _ _ st1 st1 w5 hna (HV1.out.below (HB03.out.trans (HB5.out.mono HB03.out.size)))
          rw [show sameB st1 st1 = true by simp [sameB]] at hsi
          have HSI := Lib.hid hsi
          clear p0 p1 q0 q1 hb5 hna hsi
          obtain ⟨p0, p1, q0, q1⟩ := HROW.out _ (HB03.out.trans (HB5.out.mono HB03.out.size))
          go_wp2_with fail
          refine HSI.out.mono ?_
          clear HSI
          rintro e w6 ⟨rfl, hq6⟩
          have HB6 := Lib.hid (HB5.out.trans (hq6.below _))
          clear hq6 p0 p1 q0 q1
          go_wp2_with fail
          go_roundw
          case rel => exact ⟨2, by go_num, by omega, HB6⟩
          case measure => simp [intOf]
        · subst hj2
          go_wp2_with fail
          go_ret
          exact ⟨rfl, HB3.out.trans (HBY.out.mono HB3.out.size)⟩

theorem chainMixed_idle {ea : Nat → Addr} (v : Value) (l : List Int) (w : World) (hs : Sen ea w) (hv : Ns .i64 w v l) (hbig : (40 : Int) < l.length) :
    Calls Tryd.prog 9 #[v] w fun e w' => e = .returned (.bool true) ∧ Below w.heap.size w w' := by
  obtain ⟨_, o, cap, rfl, hc1, hc2, hc3, _⟩ := hv
  unfold maxLen at hc2
  have HF := Lib.hid (chainFirst w hs)
  clear hs
  generalize l.length = n at *
  go_enter Tryd.func9, Tryd.ntmps9
  go_wp2_with fail
  refine HF.out.mono ?_
  rintro e w1 ⟨rfl, hb1⟩
  have HB1 := Lib.hid hb1
  clear hb1
  go_wp2_with fail
  go_ret
  exact ⟨rfl, HB1.out⟩

theorem chainMixed_walk {ea : Nat → Addr} (v : Value) (l : List Int) (w : World) (hs : Sen ea w) (hv : Ns .i64 w v l) :
    Calls Tryd.prog 9 #[v] w fun e w' => e = .returned (.bool true) ∧ Below w.heap.size w w' := by
  by_cases h : (40 : Int) < l.length
  · exact chainMixed_idle v l w hs hv h
  · exact chainMixed_walk0 v l w hs hv (by omega)
end Go.Proofs.YtccfiohcblecoaaDoor
