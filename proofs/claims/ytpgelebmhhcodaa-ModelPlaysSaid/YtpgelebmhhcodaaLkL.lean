/- Contracts: slices.Compact, Clip, keys, Held, Keys. -/
import Derived.Test.YtpgelebmhhcodaaLkK
import Derived.Lib.RowBridge
namespace Go.Proofs.Ytpgelebmhhcodaa
open Go.RowKit Go.Sort
set_option linter.unusedVariables false

theorem compact_mem (l : List Int) (x : Int) (h : x ∈ Lib.compact l) : x ∈ l := by
  unfold Lib.compact Lib.compactUpTo at h
  obtain ⟨i, hi, rfl⟩ := List.mem_map.1 h
  have := (List.mem_filter.1 hi).1
  simp only [List.mem_range] at this
  rw [getElem!_pos _ i (by simpa using this)]
  simp

/-- slices.Compact of a row of the call's own -/
theorem compactOi {base : Nat} {w : World} {v : Value} {l : List Int} (h : Oi base w v l) (hl : l.length ≤ 1000000) :
    Calls Try.prog 73 #[v] w fun e w' => (∃ o c, e = .returned (.slice o (Lib.compact l).length c) ∧ Oi base w' (.slice o (Lib.compact l).length c) (Lib.compact l)) ∧ w.grownBy w' v.ownBlock := by
  obtain ⟨hw, hlen, hrow⟩ := h
  rcases hrow with ⟨rfl, hn⟩ | ⟨g, cap, cur, rfl, hbg, hg, hn, hcm, hcs, ht⟩
  · have : l = [] := List.eq_nil_of_length_eq_zero hn
    subst this
    refine (Try.slices_Compact_int_empty none 0 w).mono ?_
    rintro e w' ⟨he, rfl⟩
    exact ⟨⟨none, 0, he, Oi.nil⟩, World.grownBy.refl _ _⟩
  · rw [Nat.mul_one] at ht
    have hH := holds_of_blockI hg ht
    refine (Try.slices_Compact_int g 0 cap l w hH (by omega) hn).mono ?_
    rintro e w' ⟨he, q, rfl⟩
    have hcl := Lib.compact_length_le l
    have hll : (Lib.compact l ++ List.replicate (l.length - (Lib.compact l).length) 0).length = l.length := by simp; omega
    have h1 := ownsRow_sortedI (n := q) (os := #[]) (base := base) hll hbg hg hn hcm hcs
    have h2 := grownBy_sortedI (w := w) (g := g) (n := q) (os := #[]) (Lib.compact l ++ List.replicate (l.length - (Lib.compact l).length) 0).toArray
    have h0 : ∀ W : World, grow W #[] = W := fun W => by simp [grow]
    rw [h0] at h1 h2
    refine ⟨⟨_, cap, he, fun x hx => hw x (compact_mem l x hx), by rw [List.length_map, Nat.mul_one], ?_⟩, h2⟩
    rcases h1.2 with ⟨e, _⟩ | ⟨g', cap', cur', e, k1, k2, k3, k4, k5, k6⟩
    · simp at e
    · simp only [Value.slice.injEq, Option.some.injEq, Addr.mk.injEq, and_true, true_and] at e
      obtain ⟨rfl, rfl⟩ := e
      refine .inr ⟨g, cap, cur', rfl, k1, k2, by omega, k4, k5, ?_⟩
      rw [Nat.mul_one] at k6 ⊢
      have := congrArg (List.take (Lib.compact l).length) k6
      rw [List.take_take, Nat.min_eq_left hcl, List.map_append, List.take_left' (by simp)] at this
      exact this

/-- slices.Clip -/
theorem clipOi {base : Nat} {w : World} {v : Value} {l : List Int} (h : Oi base w v l) :
    Calls Try.prog 98 #[v] w fun e w' => (∃ o, e = .returned (.slice o l.length l.length) ∧ Ns .i64 w (.slice o l.length l.length) l) ∧ w = w' := by
  have hns := h.ns
  obtain ⟨o, cap, rfl, h1, h2, h3, h4⟩ := h.form
  cases o with
  | none =>
    obtain ⟨rfl, rfl⟩ := h3 rfl
    clear h4 h hns
    go_enter Try.func98, Try.ntmps98
    go_wp2_with fail
    go_ret
    exact ⟨⟨none, rfl, Ns.nil _ _⟩, rfl⟩
  | some a =>
    obtain ⟨g, rfl, _, _, hc⟩ := h4 a rfl
    obtain ⟨n, hn⟩ : ∃ n, n = l.length := ⟨_, rfl⟩
    rw [← hn] at h1 hc ⊢
    have HW := Lib.hid hns.1
    have HC := Lib.hid hc
    have HN := Lib.hid hn
    have h2' := h2
    unfold maxLen at h2
    clear h3 h4 hns hc hn h h2'
    go_enter Try.func98, Try.ntmps98
    go_wp2_with fail
    go_ret
    refine ⟨⟨_, rfl, HW.out, some ⟨g, 0, none⟩, n, by rw [← HN.out], by rw [HN.out]; exact Nat.le_refl _, by unfold maxLen; omega, by simp, fun hne => ⟨⟨g, 0, none⟩, rfl, fun i hi => ?_⟩⟩, rfl⟩
    rw [← HC.out i (by rw [HN.out]; exact hi)]
    congr 1
    unfold Addr.add; split <;> simp_all

def keyL (p : HoldD → Bool) (T : List HoldD) : List Int := (T.filter p).map (·.key)
theorem keyL_step (p : HoldD → Bool) (T : List HoldD) (k : Nat) (r : HoldD) (hr : T[k]? = some r) : keyL p (T.take (k + 1)) = keyL p (T.take k) ++ (if p r = true then [r.key] else []) := by
  unfold keyL
  rw [List.take_add_one, hr, Option.toList_some, List.filter_append, List.map_append]
  congr 1
  rw [List.filter_cons]
  split <;> simp
theorem keyL_len (p : HoldD → Bool) (T : List HoldD) : (keyL p T).length ≤ T.length := by
  unfold keyL
  rw [List.length_map]
  exact List.length_filter_le _ _
/-- the keys of holds, rising, each once -/
def keysT (p : HoldD → Bool) (T : List HoldD) : List Int := Lib.compact (sortL (keyL p T))

set_option maxRecDepth 20000 in
set_option maxHeartbeats 4000000 in
theorem tabKeysK {w : World} {X : Nat} {v : Value} {T : List HoldD} (h : Tb w X v T) (p3 : Addr) (p : HoldD → Bool)
    (hF : ∀ (r : HoldD) (w1 : World), Below w.heap.size w w1 → Calls Try.prog 83 #[holdV r, .pointer (some p3)] w1 fun e w' => e = .returned (.bool (p r)) ∧ Below w1.heap.size w1 w') :
    Calls Try.prog 82 #[.pointer (some ⟨X, 0, none⟩), .func (.func 83) #[] #[.pointer (some p3)]] w fun e w' => (∃ o, e = .returned (.slice o (keysT p T).length (keysT p T).length) ∧ Ns .i64 w' (.slice o (keysT p T).length (keysT p T).length) (keysT p T)) ∧ Below w.heap.size w w' := by
  obtain ⟨c0, _⟩ := h.cell
  obtain ⟨o, cap, rfl, h1, h2, _, _⟩ := h.own.form
  have HT := Lib.hid h
  have hlen := h.len
  unfold maxLen at h2
  obtain ⟨n, hn⟩ : ∃ n, n = T.length := ⟨_, rfl⟩
  rw [← hn] at h1 hlen c0 HT
  have HN := Lib.hid hn
  have HF := Lib.hid hF
  clear h hn hF
  go_enter Try.func82, Try.ntmps82
  go_wp2_with fail
  go_loopw [5, 13] (fun s9 i wr => ∃ k : Nat, i = .int .i64 k ∧ k ≤ n ∧ ∃ o m c, s9 = .slice o m c ∧ m ≤ k ∧ Hid (m = (keyL p (T.take k)).length) ∧ Hid (Below w.heap.size w wr) ∧ Hid (Oi w.heap.size wr (.slice o m c) (keyL p (T.take k)))) (fun _ i _ => n - (intOf i).toNat)
  case atStart => exact ⟨0, rfl, by omega, none, 0, 0, rfl, by omega, Lib.hid rfl, Lib.hid (Below.refl _ _), Lib.hid Oi.nil⟩
  case round =>
    obtain ⟨k, rfl, hk, o2, m2, ca2, rfl, hmk, HM, HB, HO⟩ := hrel
    by_cases hkn : (k : Int) < n
    · obtain ⟨g, r, rfl, _, _, hr, hrw, q0, q1, q2⟩ := (HT.out.own.below HB.out).at_ (k := k) (by rw [← HN.out]; omega)
      have hstep := keyL_step p T k r hr
      obtain ⟨tst, htst⟩ : ∃ b, b = p r := ⟨_, rfl⟩
      rw [← htst] at hstep
      have HST := Lib.hid hstep
      have HWS := Lib.hid hrw.key
      have HTT := Lib.hid htst
      obtain ⟨rs, rk, rm⟩ := r
      dsimp only at q0 q1 q2 HST HTT HWS
      obtain ⟨W1, hW1⟩ : ∃ W, W = wr.alloc (.cells #[.int .i64 rs, .int .i64 rk, .int .i64 rm] 91) := ⟨_, rfl⟩
      have hb1 : Below wr.heap.size wr W1 := by rw [hW1]; exact (Below.refl _ _).alloc (Nat.le_refl _) _
      have HB1 := Lib.hid (HB.out.trans (hb1.mono HB.out.size))
      have HO1 := Lib.hid (HO.out.below hb1)
      have hcl := HF.out ⟨rs, rk, rm⟩ W1 HB1.out
      rw [← HTT.out] at hcl
      have HCL := Lib.hid hcl
      have f0 : W1.cell? ⟨wr.heap.size, 0, none⟩ = some (.int .i64 rs) := by rw [hW1]; exact cell_of_row _ _ 0 _ _ (0, 0) (heap_alloc_new wr _)
      have f1 : W1.cell? ⟨wr.heap.size, 1, none⟩ = some (.int .i64 rk) := by rw [hW1]; exact cell_of_row _ _ 1 _ _ (0, 0) (heap_alloc_new wr _)
      have f2 : W1.cell? ⟨wr.heap.size, 2, none⟩ = some (.int .i64 rm) := by rw [hW1]; exact cell_of_row _ _ 2 _ _ (0, 0) (heap_alloc_new wr _)
      have HW1 := Lib.hid hW1
      clear hr hrw hstep htst hb1 hW1 HO HB hcl
      go_upto_region 5 with fail
      rw [← HW1.out]
      generalize wr.heap.size = A at f0 f1 f2 ⊢
      clear HW1 q0 q1 q2
      go_wp2_with fail
      refine HCL.out.mono ?_
      clear HCL
      rintro e w2 ⟨rfl, hb2⟩
      have HB2 := Lib.hid (HB1.out.trans (hb2.mono HB1.out.size))
      have HO2 := Lib.hid (HO1.out.below hb2)
      have e0 := (hb2.cell (Below.lt f0)).trans f0
      have e1 := (hb2.cell (Below.lt f1)).trans f1
      have e2 := (hb2.cell (Below.lt f2)).trans f2
      clear hb2 f0 f1 f2 HB1 HO1 HTT
      cases tst with
      | false =>
        have hst := HST.out
        rw [if_neg (by simp), List.append_nil] at hst
        have HSX := Lib.hid hst
        clear hst e0 e1 e2
        go_wp2_with fail
        go_roundw
        case rel => exact ⟨k + 1, by go_num, by omega, _, _, _, rfl, by omega, Lib.hid (by rw [HSX.out]; exact HM.out), HB2, Lib.hid (by rw [HSX.out]; exact HO2.out)⟩
        case measure => simp [intOf]; omega
      | true =>
        have hst := HST.out
        rw [if_pos rfl] at hst
        have hwf : (Lit.int .i64 rk).wf = true := by
          have := HWS.out
          unfold I64L at this
          simp [Lit.wf, IntKind.min, IntKind.max, IntKind.signed, IntKind.bits]
          exact this
        obtain ⟨gb, cap3, w3, hrun, ho3, hg3, _, _, hca3, hcb3⟩ := HO2.out.append1 rk hwf HB2.out.size (by rw [← HM.out]; omega) 3 34
        have hb2 : Below w2.heap.size w2 (w2.alloc (.cells #[.int .i64 rk] 3)) := (Below.refl _ _).alloc (Nat.le_refl _) _
        have hbb := HB2.out.trans (hb2.mono HB2.out.size)
        have HB3 := Lib.hid ((HO2.out.below hb2).grown hg3 hbb (Nat.le_refl _) hbb.size)
        rw [← hst] at ho3
        rw [← HM.out] at hrun ho3 hca3
        have HO3 := Lib.hid ho3
        have HM3 : Hid (m2 + 1 = (keyL p (T.take (k + 1))).length) := Lib.hid (by rw [hst, List.length_append, ← HM.out]; rfl)
        unfold maxLen at hcb3
        clear hst hwf ho3 hg3 hb2 hbb
        go_wp2_with (at_builtin; refine Lib.wpList_append_run _ rfl _ _ _ _ rfl _ _ rfl rfl _ _ hrun ?_)
        clear hrun e0 e1 e2
        go_roundw
        case rel => exact ⟨k + 1, by go_num, by omega, _, _, _, rfl, by omega, HM3, HB3, HO3⟩
        case measure => simp [intOf]; omega
    · have hT : T.take k = T := List.take_of_length_le (by rw [← HN.out]; omega)
      rw [hT] at HM HO
      have hso := sortOi HO.out (by rw [← HM.out]; omega)
      have HSO := Lib.hid hso
      have hle : (sortL (keyL p T)).length = m2 := by unfold sortL; rw [List.length_mergeSort]; exact HM.out.symm
      have HLE := Lib.hid hle
      clear hT hso hle
      go_wp2_with fail
      refine HSO.out.mono ?_
      clear HSO
      rintro e w5 ⟨rfl, ho5, hg5⟩
      have HB5 := Lib.hid (HO.out.grown hg5 HB.out (Nat.le_refl _) HB.out.size)
      have hco := compactOi ho5 (by have := HLE.out; unfold sortL at this; rw [this]; omega)
      have HCO := Lib.hid hco
      have HO5 := Lib.hid ho5
      clear ho5 hg5 hco
      go_wp2_with fail
      refine HCO.out.mono ?_
      clear HCO
      rintro e w6 ⟨⟨o6, c6, rfl, ho6⟩, hg6⟩
      have HB6 := Lib.hid (HO5.out.grown hg6 HB5.out (Nat.le_refl _) HB5.out.size)
      have hcl := clipOi ho6
      have HCL := Lib.hid hcl
      clear ho6 hg6 hcl HB5 HO5
      go_wp2_with fail
      refine HCL.out.mono ?_
      clear HCL
      rintro e w7 ⟨⟨o7, rfl, hn7⟩, rfl⟩
      have HN7 := Lib.hid hn7
      clear hn7
      go_wp2_with fail
      go_ret
      exact ⟨⟨o7, rfl, HN7.out⟩, HB6.out⟩

set_option maxRecDepth 20000 in
set_option maxHeartbeats 4000000 in
theorem tabKeysH {w : World} {X : Nat} {v : Value} {T : List HoldD} (h : Tb w X v T) (p : HoldD → Bool)
    (hF : ∀ (r : HoldD) (w1 : World), Below w.heap.size w w1 → Calls Try.prog 84 #[holdV r] w1 fun e w' => e = .returned (.bool (p r)) ∧ Below w1.heap.size w1 w') :
    Calls Try.prog 82 #[.pointer (some ⟨X, 0, none⟩), .func (.func 84) #[] #[]] w fun e w' => (∃ o, e = .returned (.slice o (keysT p T).length (keysT p T).length) ∧ Ns .i64 w' (.slice o (keysT p T).length (keysT p T).length) (keysT p T)) ∧ Below w.heap.size w w' := by
  obtain ⟨c0, _⟩ := h.cell
  obtain ⟨o, cap, rfl, h1, h2, _, _⟩ := h.own.form
  have HT := Lib.hid h
  have hlen := h.len
  unfold maxLen at h2
  obtain ⟨n, hn⟩ : ∃ n, n = T.length := ⟨_, rfl⟩
  rw [← hn] at h1 hlen c0 HT
  have HN := Lib.hid hn
  have HF := Lib.hid hF
  clear h hn hF
  go_enter Try.func82, Try.ntmps82
  go_wp2_with fail
  go_loopw [5, 13] (fun s9 i wr => ∃ k : Nat, i = .int .i64 k ∧ k ≤ n ∧ ∃ o m c, s9 = .slice o m c ∧ m ≤ k ∧ Hid (m = (keyL p (T.take k)).length) ∧ Hid (Below w.heap.size w wr) ∧ Hid (Oi w.heap.size wr (.slice o m c) (keyL p (T.take k)))) (fun _ i _ => n - (intOf i).toNat)
  case atStart => exact ⟨0, rfl, by omega, none, 0, 0, rfl, by omega, Lib.hid rfl, Lib.hid (Below.refl _ _), Lib.hid Oi.nil⟩
  case round =>
    obtain ⟨k, rfl, hk, o2, m2, ca2, rfl, hmk, HM, HB, HO⟩ := hrel
    by_cases hkn : (k : Int) < n
    · obtain ⟨g, r, rfl, _, _, hr, hrw, q0, q1, q2⟩ := (HT.out.own.below HB.out).at_ (k := k) (by rw [← HN.out]; omega)
      have hstep := keyL_step p T k r hr
      obtain ⟨tst, htst⟩ : ∃ b, b = p r := ⟨_, rfl⟩
      rw [← htst] at hstep
      have HST := Lib.hid hstep
      have HWS := Lib.hid hrw.key
      have HTT := Lib.hid htst
      obtain ⟨rs, rk, rm⟩ := r
      dsimp only at q0 q1 q2 HST HTT HWS
      obtain ⟨W1, hW1⟩ : ∃ W, W = wr.alloc (.cells #[.int .i64 rs, .int .i64 rk, .int .i64 rm] 91) := ⟨_, rfl⟩
      have hb1 : Below wr.heap.size wr W1 := by rw [hW1]; exact (Below.refl _ _).alloc (Nat.le_refl _) _
      have HB1 := Lib.hid (HB.out.trans (hb1.mono HB.out.size))
      have HO1 := Lib.hid (HO.out.below hb1)
      have hcl := HF.out ⟨rs, rk, rm⟩ W1 HB1.out
      rw [← HTT.out] at hcl
      have HCL := Lib.hid hcl
      have f0 : W1.cell? ⟨wr.heap.size, 0, none⟩ = some (.int .i64 rs) := by rw [hW1]; exact cell_of_row _ _ 0 _ _ (0, 0) (heap_alloc_new wr _)
      have f1 : W1.cell? ⟨wr.heap.size, 1, none⟩ = some (.int .i64 rk) := by rw [hW1]; exact cell_of_row _ _ 1 _ _ (0, 0) (heap_alloc_new wr _)
      have f2 : W1.cell? ⟨wr.heap.size, 2, none⟩ = some (.int .i64 rm) := by rw [hW1]; exact cell_of_row _ _ 2 _ _ (0, 0) (heap_alloc_new wr _)
      have HW1 := Lib.hid hW1
      clear hr hrw hstep htst hb1 hW1 HO HB hcl
      go_upto_region 5 with fail
      rw [← HW1.out]
      generalize wr.heap.size = A at f0 f1 f2 ⊢
      clear HW1 q0 q1 q2
      go_wp2_with fail
      refine HCL.out.mono ?_
      clear HCL
      rintro e w2 ⟨rfl, hb2⟩
      have HB2 := Lib.hid (HB1.out.trans (hb2.mono HB1.out.size))
      have HO2 := Lib.hid (HO1.out.below hb2)
      have e0 := (hb2.cell (Below.lt f0)).trans f0
      have e1 := (hb2.cell (Below.lt f1)).trans f1
      have e2 := (hb2.cell (Below.lt f2)).trans f2
      clear hb2 f0 f1 f2 HB1 HO1 HTT
      cases tst with
      | false =>
        have hst := HST.out
        rw [if_neg (by simp), List.append_nil] at hst
        have HSX := Lib.hid hst
        clear hst e0 e1 e2
        go_wp2_with fail
        go_roundw
        case rel => exact ⟨k + 1, by go_num, by omega, _, _, _, rfl, by omega, Lib.hid (by rw [HSX.out]; exact HM.out), HB2, Lib.hid (by rw [HSX.out]; exact HO2.out)⟩
        case measure => simp [intOf]; omega
      | true =>
        have hst := HST.out
        rw [if_pos rfl] at hst
        have hwf : (Lit.int .i64 rk).wf = true := by
          have := HWS.out
          unfold I64L at this
          simp [Lit.wf, IntKind.min, IntKind.max, IntKind.signed, IntKind.bits]
          exact this
        obtain ⟨gb, cap3, w3, hrun, ho3, hg3, _, _, hca3, hcb3⟩ := HO2.out.append1 rk hwf HB2.out.size (by rw [← HM.out]; omega) 3 34
        have hb2 : Below w2.heap.size w2 (w2.alloc (.cells #[.int .i64 rk] 3)) := (Below.refl _ _).alloc (Nat.le_refl _) _
        have hbb := HB2.out.trans (hb2.mono HB2.out.size)
        have HB3 := Lib.hid ((HO2.out.below hb2).grown hg3 hbb (Nat.le_refl _) hbb.size)
        rw [← hst] at ho3
        rw [← HM.out] at hrun ho3 hca3
        have HO3 := Lib.hid ho3
        have HM3 : Hid (m2 + 1 = (keyL p (T.take (k + 1))).length) := Lib.hid (by rw [hst, List.length_append, ← HM.out]; rfl)
        unfold maxLen at hcb3
        clear hst hwf ho3 hg3 hb2 hbb
        go_wp2_with (at_builtin; refine Lib.wpList_append_run _ rfl _ _ _ _ rfl _ _ rfl rfl _ _ hrun ?_)
        clear hrun e0 e1 e2
        go_roundw
        case rel => exact ⟨k + 1, by go_num, by omega, _, _, _, rfl, by omega, HM3, HB3, HO3⟩
        case measure => simp [intOf]; omega
    · have hT : T.take k = T := List.take_of_length_le (by rw [← HN.out]; omega)
      rw [hT] at HM HO
      have hso := sortOi HO.out (by rw [← HM.out]; omega)
      have HSO := Lib.hid hso
      have hle : (sortL (keyL p T)).length = m2 := by unfold sortL; rw [List.length_mergeSort]; exact HM.out.symm
      have HLE := Lib.hid hle
      clear hT hso hle
      go_wp2_with fail
      refine HSO.out.mono ?_
      clear HSO
      rintro e w5 ⟨rfl, ho5, hg5⟩
      have HB5 := Lib.hid (HO.out.grown hg5 HB.out (Nat.le_refl _) HB.out.size)
      have hco := compactOi ho5 (by have := HLE.out; unfold sortL at this; rw [this]; omega)
      have HCO := Lib.hid hco
      have HO5 := Lib.hid ho5
      clear ho5 hg5 hco
      go_wp2_with fail
      refine HCO.out.mono ?_
      clear HCO
      rintro e w6 ⟨⟨o6, c6, rfl, ho6⟩, hg6⟩
      have HB6 := Lib.hid (HO5.out.grown hg6 HB5.out (Nat.le_refl _) HB5.out.size)
      have hcl := clipOi ho6
      have HCL := Lib.hid hcl
      clear ho6 hg6 hcl HB5 HO5
      go_wp2_with fail
      refine HCL.out.mono ?_
      clear HCL
      rintro e w7 ⟨⟨o7, rfl, hn7⟩, rfl⟩
      have HN7 := Lib.hid hn7
      clear hn7
      go_wp2_with fail
      go_ret
      exact ⟨⟨o7, rfl, HN7.out⟩, HB6.out⟩

end Go.Proofs.Ytpgelebmhhcodaa
