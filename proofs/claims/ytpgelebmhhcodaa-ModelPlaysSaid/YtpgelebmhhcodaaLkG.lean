/- Contract: slices.DeleteFunc over holds (Free's). -/
import Derived.Test.YtpgelebmhhcodaaLkF
import Derived.Lib.SliceRun
namespace Go.Proofs.Ytpgelebmhhcodaa
open Go.RowKit
set_option linter.unusedVariables false

theorem holdZero (w : World) : (zeroValue 91).run Try.prog w = .ok (.agg #[.int .i64 0, .int .i64 0, .int .i64 0]) w := by kernel_rfl
theorem run_clear_hold (w : World) (b o n c : Nat) (hn : 0 < n) (hc : ∀ j, j < n * 3 → (w.cell? ⟨b, o + j, none⟩).isSome = true) (hf : ∀ j, j < n * 3 → w.frozen? ⟨b, o + j, none⟩ = false) :
    ∃ vs : List Value, ∀ ty, (Builtin.clear_ #[24] ty #[.slice (some ⟨b, o, none⟩) n c]).run Try.prog w = .ok (.tuple #[]) (w.setCells b o vs) := by
  refine ⟨(Builtin.zeroCells #[.int .i64 0, .int .i64 0, .int .i64 0] n).toList, fun ty => ?_⟩
  have hlen : (Builtin.zeroCells #[Value.int .i64 0, Value.int .i64 0, Value.int .i64 0] n).toList.length = n * 3 := by simp [Builtin.zeroCells]
  have hst := run_storeCells_cells (P := Try.prog) b o (Builtin.zeroCells #[.int .i64 0, .int .i64 0, .int .i64 0] n).toList 0 w (by rw [hlen]; simpa using hc) (by rw [hlen]; simpa using hf) (by
    intro v hv
    rw [Array.mem_toList_iff] at hv
    simp only [Builtin.zeroCells, Array.mem_map] at hv
    obtain ⟨i, _, rfl⟩ := hv
    have h3 : i % 3 = 0 ∨ i % 3 = 1 ∨ i % 3 = 2 := by omega
    rcases h3 with h3 | h3 | h3 <;> simp [h3, Value.oneCell'])
  simp only [Nat.add_zero] at hst
  obtain ⟨m, rfl⟩ : ∃ m, n = m + 1 := ⟨n - 1, by omega⟩
  have hz := holdZero
  simp [Builtin.clear_, run_underlying Try.underlying24, hz, Value.cells, hst]

/-- cells set in a row -/
theorem setCells_row {b : Nat} {T : TypeId} {r : Nat × Nat} : ∀ (vs : List Value) (o : Nat) (w : World) (cs : Array Value), w.heap[b]? = some (.cells cs T r) →
    ∃ cs', (w.setCells b o vs).heap[b]? = some (.cells cs' T r) ∧ cs'.size = cs.size ∧ (∀ x, x < o → cs'[x]? = cs[x]?) ∧ w.grownBy (w.setCells b o vs) (some b)
  | [], o, w, cs, h => ⟨cs, h, rfl, fun _ _ => rfl, World.grownBy.refl _ _⟩
  | v :: vs, o, w, cs, h => by
    obtain ⟨cs', h1, h2, h3, h4⟩ := setCells_row vs (o + 1) (w.setCell ⟨b, o, none⟩ v) _ (setCell_rowL h o v)
    refine ⟨cs', h1, by rw [h2, Array.size_setIfInBounds], fun x hx => ?_, ?_⟩
    · rw [h3 x (by omega), Array.getElem?_setIfInBounds, if_neg (by omega)]
    · have g1 : w.grownBy (w.setCell ⟨b, o, none⟩ v) (some b) := ⟨rfl, rfl, rfl, by show _ ≤ (w.heap.modify b _).size; simp, fun k hk hne => setCell_otherL w _ _ fun e => hne (by rw [e])⟩
      exact ⟨h4.os.trans g1.os, h4.tape.trans g1.tape, h4.output.trans g1.output, Nat.le_trans g1.size h4.size, fun k hk hne => (h4.block k (Nat.lt_of_lt_of_le hk g1.size) hne).trans (g1.block k hk hne)⟩
theorem grownBy_trans {w w1 w2 : World} {r : Option Nat} (h : w.grownBy w1 r) (k : w1.grownBy w2 r) : w.grownBy w2 r :=
  ⟨k.os.trans h.os, k.tape.trans h.tape, k.output.trans h.output, Nat.le_trans h.size k.size, fun b hb hne => (k.block b (Nat.lt_of_lt_of_le hb h.size) hne).trans (h.block b hb hne)⟩
theorem grownBy_below {w w1 : World} {r : Option Nat} (h : Below w.heap.size w w1) : w.grownBy w1 r := ⟨h.os, h.tape, h.output, h.size, fun b hb _ => h.block b hb⟩
theorem grownBy_set {w : World} {g : Nat} (i : Nat) (v : Value) : w.grownBy (w.setCell ⟨g, i, none⟩ v) (some g) := ⟨rfl, rfl, rfl, by show _ ≤ (w.heap.modify g _).size; simp, fun k hk hne => setCell_otherL w _ _ fun e => hne (by rw [e])⟩

def freeT (T : List HoldD) (s : Int) : List HoldD := T.filter fun h => !(h.s == s)
def idxF (s : Int) : List HoldD → Nat → Int
  | [], _ => -1
  | h :: T, k => if (h.s == s) = true then (k : Int) else idxF s T (k + 1)
theorem idxF_spec (s : Int) : ∀ (T : List HoldD) (k : Nat), (idxF s T k = -1 ∧ freeT T s = T) ∨ ∃ j, j < T.length ∧ idxF s T k = ((k + j : Nat) : Int) ∧ freeT (T.take j) s = T.take j ∧ freeT (T.take (j + 1)) s = T.take j
  | [], k => .inl ⟨rfl, rfl⟩
  | h :: T, k => by
    rw [idxF]
    by_cases hs : (h.s == s) = true
    · rw [if_pos hs]
      right
      exact ⟨0, by simp, by simp, by simp [freeT], by simp [freeT, hs]⟩
    · rw [if_neg hs]
      have hs2 : (h.s == s) = false := by simpa using hs
      rcases idxF_spec s T (k + 1) with ⟨e, f⟩ | ⟨j, hj, e, f1, f2⟩
      · left
        refine ⟨e, ?_⟩
        unfold freeT at *
        rw [List.filter_cons, hs2, f]; rfl
      · right
        refine ⟨j + 1, by rw [List.length_cons]; omega, by rw [e]; omega, ?_, ?_⟩
        · unfold freeT at *
          rw [List.take_succ_cons, List.filter_cons, hs2, f1]; rfl
        · unfold freeT at *
          rw [List.take_succ_cons, List.filter_cons, hs2, f2, List.take_succ_cons]; rfl

theorem freeHere (h : HoldD) (s : Int) (p3 : Addr) (w : World) (c3 : w.cell? p3 = some (.int .i64 s)) :
    Calls Try.prog 65 #[holdV h, .pointer (some p3)] w fun e w' => e = .returned (.bool (h.s == s)) ∧ Below w.heap.size w w' := by
  obtain ⟨rs, rk, rm⟩ := h
  unfold holdV
  dsimp only
  have hb : ∀ o, Below w.heap.size w (w.alloc o) := fun o => (Below.refl _ _).alloc (Nat.le_refl _) o
  have d3 : ∀ o, (w.alloc o).cell? p3 = some (.int .i64 s) := fun o => ((hb o).cell (Below.lt c3)).trans c3
  have HB := Lib.hid hb
  clear hb c3
  go_enter Try.func65, Try.ntmps65
  go_wp2_with fail
  go_ret
  exact ⟨rfl, HB.out _⟩

set_option maxRecDepth 20000 in
theorem indexFree {base : Nat} {w : World} {v : Value} {T : List HoldD} (h : Ho base w v T) (hl : T.length ≤ 10000) (s : Int) (p3 : Addr) (c3 : w.cell? p3 = some (.int .i64 s)) :
    Calls Try.prog 67 #[v, .func (.func 65) #[] #[.pointer (some p3)]] w fun e w' => e = .returned (.int .i64 (idxF s T 0)) ∧ Below w.heap.size w w' := by
  obtain ⟨o, cap, rfl, h1, h2, _, _⟩ := h.form
  have HH := Lib.hid h
  unfold maxLen at h2
  have HC3 := Lib.hid c3
  obtain ⟨n, hn⟩ : ∃ n, n = T.length := ⟨_, rfl⟩
  rw [← hn] at h1 hl HH
  rw [← hn]
  have HN := Lib.hid hn
  obtain ⟨R, hR⟩ : ∃ R, R = idxF s T 0 := ⟨_, rfl⟩
  rw [← hR]
  have HR : Hid (R = idxF s (T.drop 0) 0) := Lib.hid (by rw [List.drop_zero]; exact hR)
  clear h hn hR c3
  go_enter Try.func67, Try.ntmps67
  go_wp2_with fail
  go_loopw [8] (fun i wr => ∃ k : Nat, i = .int .i64 k ∧ k ≤ n ∧ Hid (Below w.heap.size w wr) ∧ Hid (R = idxF s (T.drop k) k)) (fun i _ => n - (intOf i).toNat)
  case atStart => exact ⟨0, rfl, by omega, Lib.hid (Below.refl _ _), HR⟩
  case round =>
    obtain ⟨k, rfl, hk, HB, HRR⟩ := hrel
    clear HR
    by_cases hkn : (k : Int) < n
    · obtain ⟨g, r, rfl, _, _, hr, hrw, q0, q1, q2⟩ := (HH.out.below HB.out).at_ (k := k) (by rw [← HN.out]; omega)
      have hdrop : T.drop k = r :: T.drop (k + 1) := by
        obtain ⟨hlt, he⟩ := List.getElem?_eq_some_iff.1 hr
        rw [List.drop_eq_getElem_cons hlt, he]
      rw [hdrop] at HRR
      have hcl := freeHere r s p3 wr ((HB.out.cell (Below.lt HC3.out)).trans HC3.out)
      have HCL := Lib.hid hcl
      clear hr hrw hdrop hcl
      obtain ⟨rs, rk, rm⟩ := r
      dsimp only [holdV] at q0 q1 q2 HCL
      cases ht : (rs == s) with
      | true =>
        have HX : Hid (R = (k : Int)) := Lib.hid (by rw [HRR.out, idxF, if_pos ht])
        rw [ht] at HCL
        clear ht
        go_wp2_with fail
        refine HCL.out.mono ?_
        clear HCL
        rintro e w2 ⟨rfl, hb2⟩
        have HB2 := Lib.hid (HB.out.trans (hb2.mono HB.out.size))
        clear hb2 q0 q1 q2
        go_wp2_with fail
        go_ret
        exact ⟨by rw [HX.out]; rfl, HB2.out⟩
      | false =>
        have HX : Hid (R = idxF s (T.drop (k + 1)) (k + 1)) := Lib.hid (by rw [HRR.out, idxF, if_neg (by show ¬ (rs == s) = true; rw [ht]; simp)])
        rw [ht] at HCL
        clear ht
        go_wp2_with fail
        refine HCL.out.mono ?_
        clear HCL
        rintro e w2 ⟨rfl, hb2⟩
        have HB2 := Lib.hid (HB.out.trans (hb2.mono HB.out.size))
        clear hb2 q0 q1 q2
        go_wp2_with fail
        go_roundw
        case rel => exact ⟨k + 1, by go_num, by omega, HB2, HX⟩
        case measure => simp [intOf]; omega
    · have HX : Hid (R = -1) := Lib.hid (by rw [HRR.out, List.drop_eq_nil_of_le (by rw [← HN.out]; omega)]; rfl)
      go_wp2_with fail
      go_ret
      exact ⟨by rw [HX.out]; rfl, HB.out⟩
end Go.Proofs.Ytpgelebmhhcodaa
