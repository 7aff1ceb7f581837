/- Contracts of the model: maps.Clone; Save. -/
import Derived.Test.YtpgelebmhhcodaaMdD
import Derived.Test.YtpgelebmhhcodaaShelfK
import Derived.Test.YtpgelebmhhcodaaLkD
import Derived.Deep.RegionLaw
namespace Go.Proofs.Ytpgelebmhhcodaa
open Go.RowKit
set_option linter.unusedVariables false

theorem cloneMv {w : World} {b n : Nat} {m : FM} (h : Mv w b n m) :
    Calls Try.prog 86 #[.map (some b)] w fun e w' => e = .returned (.map (some w.heap.size)) ∧ Mv w' w.heap.size n m ∧ Below w.heap.size w w' := by
  obtain ⟨⟨⟨D, h1, h2⟩, h3⟩, h4⟩ := h
  exact (AnyW.maps_Clone_owns Try.cloneM 3 hv b n D w h1).mono fun e w' ⟨k1, k2, k3, k4⟩ => ⟨k1, ⟨⟨⟨D, k2, h2⟩, h3⟩, h4⟩, k4⟩
theorem mapInfo : (Try.prog.info? 98).map (fun i => (i.zero, i.size, i.bytes)) = some (some (.map none), 1, 8) := by kernel_rfl
theorem appendMap {w : World} {u : Value} {G : List Nat} (h : w.ownsRow 0 98 1 u G.length (G.map fun g => Value.map (some g))) (g : Nat) (hn : G.length ≤ 100000) :
    ∃ gb cap w', (Builtin.append_ #[103, 103] 103 #[u, .slice (some ⟨w.heap.size, 0, none⟩) 1 1]).run Try.prog (w.alloc (.cells #[.map (some g)] 98)) = .ok (.slice (some ⟨gb, 0, none⟩) (G.length + 1) cap) w' ∧
      w'.ownsRow 0 98 1 (.slice (some ⟨gb, 0, none⟩) (G.length + 1) cap) (G.length + 1) ((G ++ [g]).map fun g => Value.map (some g)) ∧ (w.alloc (.cells #[.map (some g)] 98)).grownBy w' u.ownBlock ∧ (u.ownBlock = some gb ∨ gb = w.heap.size + 1) := by
  obtain ⟨i0, hi0, hz0, hz1, hz2⟩ := info_parts mapInfo
  have hb1 : Below w.heap.size w (w.alloc (.cells #[.map (some g)] 98)) := (Below.refl _ _).alloc (Nat.le_refl _) _
  obtain ⟨gb, cap, w', hrun, hown, hgrow, hat, hlt⟩ := run_append_lies (P := Try.prog) (w.alloc (.cells #[.map (some g)] 98)) 103 103 0 98 i0 _ 1 8 Try.underlying103 hi0 hz0 hz1 hz2 rfl (by omega)
    u G.length _ (ownsRow_sameL h fun b e => hb1.block b (h.lt b e).2) ⟨w.heap.size, 0, none⟩ 1 1 [.map (some g)] rfl (World.news_of_block (cs := #[Value.map (some g)]) (t := 98) (fr := (0, 0)) (heap_alloc_new w _)) (fun v hv => by
      simp only [List.mem_cons, List.not_mem_nil, or_false] at hv
      rcases hv with rfl
      rfl) (by omega) (by simp [maxLen]; omega) (by omega) (by simp) _ rfl
  exact ⟨gb, cap, w', hrun, by rw [List.map_append]; simpa using hown, hgrow, by simpa using hat⟩
/-- a savepoint more, in memory -/
theorem Md.save {w : World} {X bl bo nl n no : Nat} {fo : Int → Option Value} {ρ : Nat → Rl} {many : Int} {l : FM} {op : Int → Option Ses} (h : Md w X bl bo nl n no fo ρ many l op) {s : Int} {z : Ses} {p b : Nat} {u : Value} {G : List Nat}
    (k1 : fo s = some (.pointer (some ⟨p, 0, none⟩))) (k2 : Sm w p b n u G z) (k3 : ρ p = .ses s) (k4 : ρ b = .own s) (k5 : ∀ g, u.ownBlock = some g → ρ g = .row s) (k6 : ∀ g ∈ G, ρ g = .sv) {w1 : World} (hb : Below w.heap.size w w1) (hm : Mv w1 w.heap.size n z.own) (hn : G.length ≤ 100000) :
    ∃ gb cap w2, (Builtin.append_ #[103, 103] 103 #[u, .slice (some ⟨w1.heap.size, 0, none⟩) 1 1]).run Try.prog (w1.alloc (.cells #[.map (some w.heap.size)] 98)) = .ok (.slice (some ⟨gb, 0, none⟩) (G.length + 1) cap) w2 ∧
      w1.cell? ⟨p, 1, none⟩ = some u ∧ (w1.alloc (.cells #[.map (some w.heap.size)] 98)).cell? ⟨p, 1, none⟩ = some u ∧ (w2.cell? ⟨p, 1, none⟩ = some u ∧ w2.frozen? ⟨p, 1, none⟩ = false) ∧
      (w2.setCell ⟨p, 1, none⟩ (.slice (some ⟨gb, 0, none⟩) (G.length + 1) cap)).cell? ⟨p, 1, none⟩ = some (.slice (some ⟨gb, 0, none⟩) (G.length + 1) cap) ∧
      ∃ ρ', Md (w2.setCell ⟨p, 1, none⟩ (.slice (some ⟨gb, 0, none⟩) (G.length + 1) cap)) X bl bo nl n no fo ρ' many l (updM op s (some ⟨z.own, z.saves ++ [z.own]⟩)) ∧ Ext (Fr ρ) w (Fr ρ') (w2.setCell ⟨p, 1, none⟩ (.slice (some ⟨gb, 0, none⟩) (G.length + 1) cap)) := by
  have hlt := hm.lt
  have fp : Fr ρ p := by unfold Fr; rw [k3]; simp
  have fb : Fr ρ b := by unfold Fr; rw [k4]; simp
  have fu : ∀ g, u.ownBlock = some g → Fr ρ g := fun g e => by unfold Fr; rw [k5 g e]; simp
  have fG : ∀ g ∈ G, Fr ρ g := fun g e => by unfold Fr; rw [k6 g e]; simp
  have hrow1 : w1.ownsRow 0 98 1 u G.length (G.map fun g => Value.map (some g)) := ownsRow_sameL k2.row fun c e => hb.block c (k2.row.lt c e).2
  obtain ⟨gb, cap, w2, hrun, hrow2, hg2, hat⟩ := appendMap hrow1 w.heap.size hn
  have hb1 : Below w.heap.size w (w1.alloc (.cells #[.map (some w.heap.size)] 98)) := hb.alloc hb.size _
  have hs1 : (w1.alloc (.cells #[.map (some w.heap.size)] 98)).heap.size = w1.heap.size + 1 := by simp
  have hsz := hb.size
  have hup : u.ownBlock ≠ some p := fun e => by have := k5 p e; rw [k3] at this; simp at this
  have h2 : ∀ c, c < w.heap.size → u.ownBlock ≠ some c → w2.heap[c]? = w.heap[c]? := fun c hc hu => (hg2.block c (by omega) (fun e => hu e.symm)).trans (hb1.block c hc)
  have hplt := h.low p fp
  have hp2 : w2.heap[p]? = some (.cells #[.map (some b), u] 105 (0, 0)) := (h2 p hplt hup).trans k2.head
  have hgbr : (ρ gb = .row s ∧ gb < w.heap.size) ∨ gb = w1.heap.size + 1 := by
    rcases hat with e | e
    · exact .inl ⟨k5 gb e, h.low gb (fu gb e)⟩
    · exact .inr e
  have hgp : gb ≠ p := fun e => by
    rcases hgbr with ⟨e1, _⟩ | e1
    · rw [e, k3] at e1; simp at e1
    · omega
  have hg0 : gb ≠ w.heap.size := fun e => by
    rcases hgbr with ⟨_, e1⟩ | e1 <;> omega
  have hset : ∀ (V : Value) (c : Nat), c ≠ p → (w2.setCell ⟨p, 1, none⟩ V).heap[c]? = w2.heap[c]? := fun V c hc => setCell_otherL w2 _ _ hc
  have hw : ∀ (V : Value) (c : Nat), c < w.heap.size → c ≠ p → u.ownBlock ≠ some c → (w2.setCell ⟨p, 1, none⟩ V).heap[c]? = w.heap[c]? := fun V c h1 h3 h4 => (hset V c h3).trans (h2 c h1 h4)
  have hpp : ∀ V : Value, (w2.setCell ⟨p, 1, none⟩ V).heap[p]? = some (.cells #[.map (some b), V] 105 (0, 0)) := fun V => by rw [setCell_rowL hp2]; rfl
  have e1 := k2.cells.2.1
  have hρ : ∀ c, Fr ρ c → rlS (rlS ρ w.heap.size .sv) gb (.row s) c = ρ c := fun c hf => by
    have hc := h.low c hf
    by_cases e : c = gb
    · subst e
      rw [rlS_same]
      rcases hgbr with ⟨e1, _⟩ | e1
      · exact e1.symm
      · omega
    · rw [rlS_other _ _ e, rlS_other _ _ (by omega)]
  have nep : ∀ c, ρ c ≠ .ses s → c ≠ p := fun c hc e => hc (by rw [e]; exact k3)
  have neu : ∀ c, ρ c ≠ .row s → u.ownBlock ≠ some c := fun c hc e => hc (k5 c e)
  have hss : ∀ V : Value, (w2.setCell ⟨p, 1, none⟩ V).heap.size = w2.heap.size := fun V => by show (w2.heap.modify p _).size = _; simp
  have hs2 := hg2.size
  refine ⟨gb, cap, w2, hrun, (hb.cell (Below.lt e1)).trans e1, (hb1.cell (Below.lt e1)).trans e1, ⟨by rw [cell_of_row w2 p _ _ _ (0, 0) hp2]; rfl, rowFrozen hp2 1⟩, by rw [cell_of_row _ p _ _ _ (0, 0) (hpp _)]; rfl, rlS (rlS ρ w.heap.size .sv) gb (.row s), ?_, ?_⟩
  · refine h.put hρ (fun c hf q1 q2 q3 q4 => hw _ c (h.low c hf) (nep c q1) (neu c q3)) (h.o.same (hw _ bo (h.low _ h.fX.2.2) (nep bo (by rw [h.ro]; simp)) (neu bo (by rw [h.ro]; simp)))) (fun _ _ => rfl) (Nat.le_refl n) ⟨p, b, _, G ++ [w.heap.size], k1, ⟨hpp _, ?_, ?_, ?_, ?_⟩, (hρ p fp).trans k3, (hρ b fb).trans k4, fun g e => ?_, fun g e => ?_⟩ (fun c hf => ?_)
    · exact k2.own.same (hw _ b (h.low b fb) (nep b (by rw [k4]; simp)) (neu b (by rw [k4]; simp)))
    · rw [List.length_append]
      exact ownsRow_sameL hrow2 fun c e => hset _ c (by
        simp only [Value.ownBlock, Option.some.injEq] at e
        omega)
    · simp [k2.len]
    · intro i g m q1 q2
      by_cases hi : i < G.length
      · rw [List.getElem?_append_left hi] at q1
        rw [List.getElem?_append_left (by rw [← k2.len]; exact hi)] at q2
        have hgG := List.mem_of_getElem? q1
        exact (k2.sav i g m q1 q2).same (hw _ g (h.low g (fG g hgG)) (nep g (by rw [k6 g hgG]; simp)) (neu g (by rw [k6 g hgG]; simp)))
      · rw [List.getElem?_append_right (by omega)] at q1
        rw [List.getElem?_append_right (by rw [← k2.len]; omega)] at q2
        have hi0 : i - G.length = 0 := by
          have := (List.getElem?_eq_some_iff.1 q1).1
          simp at this
          omega
        rw [hi0] at q1
        rw [← k2.len, hi0] at q2
        simp only [List.getElem?_cons_zero, Option.some.injEq] at q1 q2
        subst q1 q2
        refine hm.same ((hset _ _ (by omega)).trans ((hg2.block _ (by omega) (fun e => ?_)).trans (Below.heap_alloc w1 _ _ hlt)))
        have := (k2.row.lt _ e.symm).2
        omega
    · simp only [Value.ownBlock, Option.some.injEq] at e
      subst e
      exact rlS_same _ _ _
    · rcases List.mem_append.1 e with e | e
      · rw [hρ g (fG g e)]; exact k6 g e
      · rw [List.mem_singleton.1 e, rlS_other _ _ (Ne.symm hg0), rlS_same]
    · rw [hss]
      by_cases q1 : c = gb
      · subst q1
        have := (hrow2.lt c rfl).2
        exact this
      · by_cases q2 : c = w.heap.size
        · omega
        · unfold Fr at hf
          rw [rlS_other _ _ q1, rlS_other _ _ q2] at hf
          have := h.low c hf
          omega
  · refine ⟨hg2.os.trans hb1.os, hg2.tape.trans hb1.tape, hg2.output.trans hb1.output, by rw [hss]; exact Nat.le_trans hb1.size hg2.size, fun c hc hnf => hw _ c hc (fun e => hnf (e ▸ fp)) (fun e => hnf (fu c e)), fun c hf => ?_⟩
    by_cases q1 : c = gb
    · rcases hgbr with ⟨e1, _⟩ | e1
      · left; unfold Fr; rw [q1, e1]; simp
      · right; omega
    · by_cases q2 : c = w.heap.size
      · right; omega
      · unfold Fr at hf
        rw [rlS_other _ _ q1, rlS_other _ _ q2] at hf
        exact .inl hf
end Go.Proofs.Ytpgelebmhhcodaa
