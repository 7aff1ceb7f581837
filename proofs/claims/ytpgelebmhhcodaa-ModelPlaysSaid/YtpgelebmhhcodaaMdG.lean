/- Contract of the model: Back. -/
import Derived.Test.YtpgelebmhhcodaaMdF
namespace Go.Proofs.Ytpgelebmhhcodaa
open Go.RowKit
set_option linter.unusedVariables false

theorem ownsRow_pre {w : World} {T : TypeId} {gr n cap m : Nat} {xs : List Value} (h : w.ownsRow 0 T 1 (.slice (some ⟨gr, 0, none⟩) n cap) n xs) (hm : m ≤ n) : w.ownsRow 0 T 1 (.slice (some ⟨gr, 0, none⟩) m cap) m (xs.take m) := by
  obtain ⟨h1, h2⟩ := h
  refine ⟨by rw [List.length_take]; omega, ?_⟩
  rcases h2 with ⟨e, _⟩ | ⟨g, cap', cur, e, q1, q2, q3, q4, q5, q6⟩
  · simp at e
  · simp only [Value.slice.injEq, Option.some.injEq, Addr.mk.injEq, and_true, true_and] at e
    obtain ⟨rfl, rfl⟩ := e
    refine .inr ⟨gr, cap, cur, rfl, q1, q2, by omega, q4, q5, ?_⟩
    rw [← q6, List.take_take]
    congr 1
    omega
theorem ownsRow_at {w : World} {T : TypeId} {n : Nat} {u : Value} {xs : List Value} (h : w.ownsRow 0 T 1 u n xs) {t : Nat} (ht : t < n) : ∃ gr cap, u = .slice (some ⟨gr, 0, none⟩) n cap ∧ n ≤ cap ∧ cap ≤ maxLen ∧ w.cell? ⟨gr, t, none⟩ = xs[t]? := by
  obtain ⟨h1, h2⟩ := h
  rcases h2 with ⟨_, e⟩ | ⟨g, cap, cur, e, q1, q2, q3, q4, q5, q6⟩
  · omega
  · refine ⟨g, cap, e, q3, q4, ?_⟩
    rw [cell_of_row w g _ _ _ _ q2, ← q6, List.getElem?_take, if_pos (by omega)]
    simp
theorem World.ext_heap {a b : World} (h1 : a.os = b.os) (h2 : a.tape = b.tape) (h3 : a.output = b.output) (h5 : a.drawn = b.drawn) (h4 : a.heap = b.heap) : a = b := by
  cases a; cases b
  simp_all
theorem Md.back {w : World} {X bl bo nl n no : Nat} {fo : Int → Option Value} {ρ : Nat → Rl} {many : Int} {l : FM} {op : Int → Option Ses} (h : Md w X bl bo nl n no fo ρ many l op) {s : Int} {z : Ses} {p b gr capU : Nat} {G : List Nat}
    (k1 : fo s = some (.pointer (some ⟨p, 0, none⟩))) (k2 : Sm w p b n (.slice (some ⟨gr, 0, none⟩) G.length capU) G z) (k3 : ρ p = .ses s) (k4 : ρ b = .own s) (k5 : ρ gr = .row s) (k6 : ∀ g ∈ G, ρ g = .sv) {t : Nat} (ht : t < G.length) {m : FM} (hz : z.saves[t]? = some m)
    {w1 : World} (hb : Below w.heap.size w w1) (hm : Mv w1 w.heap.size n m) {w3 : World} (h3 : ∀ c, c ≠ p → w3.heap[c]? = w1.heap[c]?) (h3p : w3.heap[p]? = some (.cells #[.map (some w.heap.size), .slice (some ⟨gr, 0, none⟩) (t + 1) capU] 105 (0, 0))) (hsz : w3.heap.size = w1.heap.size) (hos : w3.os = w1.os) (htp : w3.tape = w1.tape) (hou : w3.output = w1.output) :
    ∃ ρ', Md w3 X bl bo nl n no fo ρ' many l (updM op s (some ⟨m, z.saves.take (t + 1)⟩)) ∧ Ext (Fr ρ) w (Fr ρ') w3 := by
  have hlt := hm.lt
  have hs1 := hb.size
  have fp : Fr ρ p := by unfold Fr; rw [k3]; simp
  have fr : Fr ρ gr := by unfold Fr; rw [k5]; simp
  have fG : ∀ g ∈ G, Fr ρ g := fun g e => by unfold Fr; rw [k6 g e]; simp
  have hρ : ∀ c, Fr ρ c → rlS ρ w.heap.size (.own s) c = ρ c := fun c hf => rlS_other _ _ (by have := h.low c hf; omega)
  have nep : ∀ c, ρ c ≠ .ses s → c ≠ p := fun c hc e => hc (by rw [e]; exact k3)
  have hw : ∀ c, c < w.heap.size → c ≠ p → w3.heap[c]? = w.heap[c]? := fun c h1 h2 => (h3 c h2).trans (hb.block c h1)
  refine ⟨rlS ρ w.heap.size (.own s), h.put hρ (fun c hf q1 q2 q3 q4 => hw c (h.low c hf) (nep c q1)) (h.o.same (hw bo (h.low _ h.fX.2.2) (nep bo (by rw [h.ro]; simp)))) (fun _ _ => rfl) (Nat.le_refl n) ⟨p, w.heap.size, _, G.take (t + 1), k1, ⟨h3p, hm.same (h3 _ (by have := h.low p fp; omega)), ?_, ?_, ?_⟩, (hρ p fp).trans k3, rlS_same _ _ _, fun g e => ?_, fun g e => ?_⟩ (fun c hf => ?_), ?_⟩
  · have e1 : (G.take (t + 1)).length = t + 1 := by rw [List.length_take]; omega
    rw [e1, List.map_take]
    exact ownsRow_sameL (ownsRow_pre k2.row (m := t + 1) (by omega)) fun c e => by
      simp only [Value.ownBlock, Option.some.injEq] at e
      subst e
      exact hw gr (h.low gr fr) (nep gr (by rw [k5]; simp))
  · rw [List.length_take, List.length_take, k2.len]
  · intro i g m2 e1 e2
    rw [List.getElem?_take] at e1 e2
    by_cases hi : i < t + 1
    · rw [if_pos hi] at e1 e2
      have hgG := List.mem_of_getElem? e1
      exact (k2.sav i g m2 e1 e2).same (hw g (h.low g (fG g hgG)) (nep g (by rw [k6 g hgG]; simp)))
    · rw [if_neg hi] at e1
      simp at e1
  · simp only [Value.ownBlock, Option.some.injEq] at e
    subst e
    exact (hρ gr fr).trans k5
  · have hgG := List.mem_of_mem_take e
    exact (hρ g (fG g hgG)).trans (k6 g hgG)
  · by_cases e : c = w.heap.size
    · omega
    · unfold Fr at hf
      rw [rlS_other _ _ e] at hf
      have := h.low c hf
      omega
  · refine ⟨hos.trans hb.os, htp.trans hb.tape, hou.trans hb.output, by omega, fun c hc hnf => hw c hc (fun e => hnf (e ▸ fp)), fun c hf => ?_⟩
    by_cases e : c = w.heap.size
    · right; omega
    · unfold Fr at hf
      rw [rlS_other _ _ e] at hf
      exact .inl hf
theorem modelBackNo {w : World} {X bl bo nl n no : Nat} {fo : Int → Option Value} {ρ : Nat → Rl} {many : Int} {l : FM} {op : Int → Option Ses} (h : Md w X bl bo nl n no fo ρ many l op) {s t : Int} (hs : I64L s) (ho : ∀ z, op s = some z → t < 0 ∨ (z.saves.length : Int) ≤ t) :
    Calls Try.prog 50 #[.pointer (some ⟨X, 0, none⟩), .int .i64 s, .int .i64 t] w fun e w' => e = .returned (.bool false) ∧ Below w.heap.size w w' := by
  obtain ⟨_, c1, _⟩ := h.cells
  have hlk := h.look2 hs
  cases hop : op s with
  | none =>
    rw [hop] at hlk
    simp only [Option.isSome_none] at hlk
    generalize (fo s).getD (.pointer none) = V at hlk
    clear h hs
    go_enter Try.func50, Try.ntmps50
    go_wp2_with fail
    go_ret
    exact ⟨rfl, Below.refl _ _⟩
  | some z =>
    obtain ⟨p, b, u, G, k1, k2, _⟩ := h.ses s z hop
    rw [hop, k1] at hlk
    simp only [Option.isSome_some, Option.getD_some] at hlk
    obtain ⟨d0, d1, _⟩ := k2.cells
    have hlen : ∃ o c, u = .slice o G.length c := by
      rcases k2.row.2 with ⟨e, e2⟩ | ⟨g, cap', cur, e, _⟩
      · exact ⟨none, 0, by rw [e, e2]⟩
      · exact ⟨_, _, e⟩
    obtain ⟨o, c, rfl⟩ := hlen
    have hd := ho z hop
    rw [← k2.len] at hd
    clear h hs k2 ho k1
    by_cases h0 : t < 0
    · go_enter Try.func50, Try.ntmps50
      go_wp2_with fail
      go_ret
      exact ⟨rfl, Below.refl _ _⟩
    · have h1 : t ≥ (G.length : Int) := by omega
      generalize G.length = N at *
      go_enter Try.func50, Try.ntmps50
      go_wp2_with fail
      go_ret
      exact ⟨rfl, Below.refl _ _⟩
set_option maxRecDepth 20000 in
set_option maxHeartbeats 4000000 in
theorem modelBack {w : World} {X bl bo nl n no : Nat} {fo : Int → Option Value} {ρ : Nat → Rl} {many : Int} {l : FM} {op : Int → Option Ses} (h : Md w X bl bo nl n no fo ρ many l op) {s : Int} (hs : I64L s) {z : Ses} (ho : op s = some z) {t : Nat} {m : FM} (hm : z.saves[t]? = some m) (hl : z.saves.length ≤ 100000) :
    Calls Try.prog 50 #[.pointer (some ⟨X, 0, none⟩), .int .i64 s, .int .i64 t] w fun e w' => e = .returned (.bool true) ∧ ∃ ρ', Md w' X bl bo nl n no fo ρ' many l (updM op s (some ⟨m, z.saves.take (t + 1)⟩)) ∧ Ext (Fr ρ) w (Fr ρ') w' := by
  obtain ⟨_, c1, _⟩ := h.cells
  have hlk := h.look2 hs
  obtain ⟨p, b, u, G, k1, k2, k3, k4, k5, k6⟩ := h.ses s z ho
  rw [ho, k1] at hlk
  simp only [Option.isSome_some, Option.getD_some] at hlk
  obtain ⟨d0, d1, _⟩ := k2.cells
  have ht : t < G.length := by rw [k2.len]; exact (List.getElem?_eq_some_iff.1 hm).1
  have hN : G.length ≤ 100000 := by rw [k2.len]; exact hl
  obtain ⟨gr, cap, rfl, hc1, hc2, hcell⟩ := ownsRow_at k2.row ht
  have hg : G[t]? = some (G[t]'ht) := List.getElem?_eq_getElem ht
  rw [List.getElem?_map, hg] at hcell
  simp only [Option.map_some] at hcell
  generalize (G[t]'ht) = g at hg hcell
  have hd := h.below ((Below.refl w.heap.size w).drew)
  have k2d : Sm w.drew p b n (.slice (some ⟨gr, 0, none⟩) G.length cap) G z := k2.same rfl rfl (fun _ _ => rfl) (fun _ _ => rfl)
  have hgm := k2d.sav t g m hg hm
  have hcl : Calls Try.prog 86 #[.map (some g)] w.drew fun e w1 => ∃ q, e = .returned (.map (some q)) ∧ w1.cell? ⟨p, 0, none⟩ = some (.map (some b)) ∧ w1.cell? ⟨p, 1, none⟩ = some (.slice (some ⟨gr, 0, none⟩) G.length cap) ∧ w1.frozen? ⟨p, 0, none⟩ = false ∧ w1.frozen? ⟨p, 1, none⟩ = false ∧
      ∃ ρ', (Md ((w1.setCell ⟨p, 0, none⟩ (.map (some q))).setCell ⟨p, 1, none⟩ (.slice (some ⟨gr, 0, none⟩) (t + 1) cap)) X bl bo nl n no fo ρ' many l (updM op s (some ⟨m, z.saves.take (t + 1)⟩)) ∧ Ext (Fr ρ) w (Fr ρ') ((w1.setCell ⟨p, 0, none⟩ (.map (some q))).setCell ⟨p, 1, none⟩ (.slice (some ⟨gr, 0, none⟩) (t + 1) cap))) ∧
        (Md ((w1.setCell ⟨p, 1, none⟩ (.slice (some ⟨gr, 0, none⟩) (t + 1) cap)).setCell ⟨p, 0, none⟩ (.map (some q))) X bl bo nl n no fo ρ' many l (updM op s (some ⟨m, z.saves.take (t + 1)⟩)) ∧ Ext (Fr ρ) w (Fr ρ') ((w1.setCell ⟨p, 1, none⟩ (.slice (some ⟨gr, 0, none⟩) (t + 1) cap)).setCell ⟨p, 0, none⟩ (.map (some q)))) :=
    (cloneMv hgm).mono fun e w1 ⟨q1, q2, q3⟩ => by
      have hp1 : w1.heap[p]? = some (.cells #[.map (some b), .slice (some ⟨gr, 0, none⟩) G.length cap] 105 (0, 0)) := (q3.block p (hd.low p (by unfold Fr; rw [k3]; simp))).trans k2d.head
      have hsz : ∀ (W : World) (i : Nat) (v : Value), (W.setCell ⟨p, i, none⟩ v).heap.size = W.heap.size := fun W i v => by show (W.heap.modify p _).size = _; simp
      have hbd := Ext.of_below (F := Fr ρ) ((Below.refl w.heap.size w).drew)
      obtain ⟨ρ1, r1, r2⟩ := hd.back k1 k2d k3 k4 (k5 gr rfl) k6 ht hm q3 q2 (w3 := (w1.setCell ⟨p, 0, none⟩ (.map (some w.drew.heap.size))).setCell ⟨p, 1, none⟩ (.slice (some ⟨gr, 0, none⟩) (t + 1) cap)) (fun c hc => (setCell_otherL _ _ _ hc).trans (setCell_otherL _ _ _ hc)) (by rw [setCell_rowL (setCell_rowL hp1 0 _)]; rfl) (by rw [hsz, hsz]) rfl rfl rfl
      refine ⟨_, q1, by rw [cell_of_row w1 p _ _ _ (0, 0) hp1]; rfl, by rw [cell_of_row w1 p _ _ _ (0, 0) hp1]; rfl, rowFrozen hp1 0, rowFrozen hp1 1, ρ1, ⟨r1, hbd.trans r2⟩, ?_⟩
      have hc : (w1.setCell ⟨p, 1, none⟩ (.slice (some ⟨gr, 0, none⟩) (t + 1) cap)).setCell ⟨p, 0, none⟩ (.map (some w.drew.heap.size)) = (w1.setCell ⟨p, 0, none⟩ (.map (some w.drew.heap.size))).setCell ⟨p, 1, none⟩ (.slice (some ⟨gr, 0, none⟩) (t + 1) cap) := by
        refine World.ext_heap rfl rfl rfl rfl ?_
        refine Array.ext_getElem? fun c => ?_
        by_cases e : c = p
        · subst e
          rw [setCell_rowL (setCell_rowL hp1 1 _), setCell_rowL (setCell_rowL hp1 0 _)]
          rfl
        · rw [setCell_otherL _ _ _ e, setCell_otherL _ _ _ e, setCell_otherL _ _ _ e, setCell_otherL _ _ _ e]
      rw [hc]
      exact ⟨r1, hbd.trans r2⟩
  have HCL := Lib.hid hcl
  have e1 : IntKind.i64.wrap ((t : Int) + 1) = (t : Int) + 1 := IntWalk.i64_in _ (by omega)
  have e2 : ((t : Int) + 1).toNat = t + 1 := by omega
  have e3 : (0 : Int) ≤ (t : Int) + 1 := by omega
  have e4 : (t : Int) + 1 ≤ (cap : Int) := by omega
  generalize G.length = N at *
  unfold maxLen at hc2
  clear h hs k1 k2 k3 k4 k5 k6 hd k2d hcl hgm hg hm hl
  go_enter Try.func50, Try.ntmps50
  go_wp2_with fail
  go_region_law ((first
    | (go_simp; go_at_call 86; with_reducible refine HCL.out.mono ?_; rintro e w1 ⟨q, rfl, q0, q1, q2, q3, ρ', hm1, hm2⟩)))
  all_goals
    go_wp2_with fail
    go_ret
    first | exact ⟨rfl, ρ', hm1⟩ | exact ⟨rfl, ρ', hm2⟩
end Go.Proofs.Ytpgelebmhhcodaa
