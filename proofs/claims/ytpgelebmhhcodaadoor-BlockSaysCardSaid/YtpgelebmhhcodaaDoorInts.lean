/- Slices of ints that the call made. -/
import Derived.Test.YtpgelebmhhcodaaDoorProg
import Derived.Test.YtpgelebmhhcodaaDoorBase
import Derived.Test.YtpgelebmhhcodaaDoorDskW
namespace Go.Proofs.YtpgelebmhhcodaaDoor
open Go.RowKit
set_option linter.unusedVariables false

theorem wf_of_i64 {n : Int} (h1 : -9223372036854775808 ≤ n) (h2 : n ≤ 9223372036854775807) : (Lit.int .i64 n).wf = true := by
  simp [Lit.wf, IntKind.min, IntKind.max, IntKind.signed, IntKind.bits]; omega
theorem Ns.same {ik : IntKind} {w w' : World} {v : Value} {l : List Int} (h : Ns ik w v l) (hb : ∀ b, v.ownBlock = some b → w'.heap[b]? = w.heap[b]?) : Ns ik w' v l := by
  obtain ⟨h1, o, c, rfl, h3, h4, h5, h6⟩ := h
  refine ⟨h1, o, c, rfl, h3, h4, h5, fun hne => ?_⟩
  obtain ⟨a, ha, hc⟩ := h6 hne
  refine ⟨a, ha, fun i hi => ?_⟩
  rw [← hc i hi]
  refine World.cell?_of_block ?_
  have e : (a.add i).block = a.block := by unfold Addr.add; split <;> rfl
  rw [e]
  exact hb a.block (by rw [ha]; rfl)

/-- ints in a row of the call's own -/
def Oi (base : Nat) (w : World) (v : Value) (l : List Int) : Prop := (∀ x ∈ l, (Lit.int .i64 x).wf = true) ∧ w.ownsRow base 3 1 v l.length (l.map (Value.int .i64))
theorem Oi.nil {base : Nat} {w : World} : Oi base w (.slice none 0 0) [] := ⟨fun _ h => by simp at h, World.ownsRow_nil _ _ _ _⟩
theorem Oi.same {base : Nat} {w w' : World} {v : Value} {l : List Int} (h : Oi base w v l) (hb : ∀ b, v.ownBlock = some b → w'.heap[b]? = w.heap[b]?) : Oi base w' v l := ⟨h.1, ownsRow_same h.2 hb⟩
theorem Oi.lt {base : Nat} {w : World} {v : Value} {l : List Int} (h : Oi base w v l) {b : Nat} (hb : v.ownBlock = some b) : base ≤ b ∧ b < w.heap.size := h.2.lt b hb
theorem Oi.below {base : Nat} {w w' : World} {v : Value} {l : List Int} (h : Oi base w v l) (hb : Below w.heap.size w w') : Oi base w' v l := h.same fun b e => hb.block b (h.lt e).2
theorem Oi.mono {base base' : Nat} {w : World} {v : Value} {l : List Int} (h : Oi base w v l) (hb : base' ≤ base) : Oi base' w v l := by
  refine ⟨h.1, h.2.1, ?_⟩
  rcases h.2.2 with hn | ⟨g, cap, cur, hv, hbg, hg, r⟩
  · exact .inl hn
  · exact .inr ⟨g, cap, cur, hv, by omega, hg, r⟩
theorem Oi.form {base : Nat} {w : World} {v : Value} {l : List Int} (h : Oi base w v l) :
    ∃ o cap, v = .slice o l.length cap ∧ l.length ≤ cap ∧ cap ≤ maxLen ∧ (o = none → cap = 0 ∧ l = []) ∧ (∀ a, o = some a → ∃ g, a = ⟨g, 0, none⟩ ∧ base ≤ g ∧ g < w.heap.size ∧ (∀ i, i < l.length → w.cell? ⟨g, i, none⟩ = some (.int .i64 (l.getD i 0)))) := by
  rcases h.2.2 with ⟨rfl, hn⟩ | ⟨g, cap, cur, rfl, hbg, hg, hn, hcm, hcs, ht⟩
  · have : l = [] := List.eq_nil_of_length_eq_zero hn
    subst this
    exact ⟨none, 0, rfl, by simp, by simp [maxLen], fun _ => ⟨rfl, rfl⟩, fun a e => by simp at e⟩
  · refine ⟨some ⟨g, 0, none⟩, cap, rfl, hn, hcm, by simp, fun a e => ⟨g, by simpa using e.symm, hbg, (Array.getElem?_eq_some_iff.1 hg).1, fun i hi => ?_⟩⟩
    have := h.2.cells (g := g) rfl i (.int .i64 (l.getD i 0)) (by rw [List.getElem?_map, List.getElem?_eq_getElem hi, getD_lt hi]; rfl)
    rw [← this]; congr 1
    unfold Addr.add; split <;> simp_all
theorem Oi.ns {base : Nat} {w : World} {v : Value} {l : List Int} (h : Oi base w v l) : Ns .i64 w v l := by
  obtain ⟨o, cap, rfl, h1, h2, h3, h4⟩ := h.form
  refine ⟨h.1, o, cap, rfl, h1, h2, fun e => (h3 e).1, fun hne => ?_⟩
  cases o with
  | none => exact absurd (h3 rfl).2 hne
  | some a =>
    obtain ⟨g, rfl, _, _, hc⟩ := h4 a rfl
    refine ⟨⟨g, 0, none⟩, rfl, fun i hi => ?_⟩
    rw [← hc i hi]; congr 1
    unfold Addr.add; split <;> simp_all

theorem intInfo : (Tryd.prog.info? 3).map (fun i => (i.zero, i.size, i.bytes)) = some (some (.int .i64 0), 1, 8) := by kernel_rfl
/-- append of ints that can be read -/
theorem Oi.append {base : Nat} {w : World} {v : Value} {l : List Int} (h : Oi base w v l) (u : Value) (m : List Int) (hu : Ns .i64 w u m) (hbase : base ≤ w.heap.size) (hn : l.length + m.length ≤ 1000000) (hm0 : m ≠ []) (ty : TypeId) :
    ∃ gb cap w', (Builtin.append_ #[22, 22] ty #[v, u]).run Tryd.prog w = .ok (.slice (some ⟨gb, 0, none⟩) (l.length + m.length) cap) w' ∧
      Oi base w' (.slice (some ⟨gb, 0, none⟩) (l.length + m.length) cap) (l ++ m) ∧ w.grownBy w' v.ownBlock ∧ (v.ownBlock = some gb ∨ gb = w.heap.size) ∧ gb < w'.heap.size ∧ l.length + m.length ≤ cap ∧ cap ≤ maxLen := by
  obtain ⟨hm1, o, c, rfl, hlc, hcm, hon, hcell⟩ := hu
  obtain ⟨a, rfl, hc⟩ := hcell hm0
  obtain ⟨i0, hi0, hz0, hz1, hz2⟩ := info_parts intInfo
  have hnews : ∀ j u, (m.map (Value.int .i64))[j]? = some u → w.cell? (a.add j) = some u := by
    intro j u hu
    rw [List.getElem?_map] at hu
    by_cases hj : j < m.length
    · rw [hc j hj, getD_lt hj]
      rw [List.getElem?_eq_getElem hj] at hu
      simpa using hu
    · rw [List.getElem?_eq_none (by omega)] at hu; simp at hu
  obtain ⟨gb, cap, w', hrun, hown, hgrow, hat, hlt⟩ := run_append_lies (P := Tryd.prog) w 22 ty base 3 i0 _ 1 8 Tryd.underlying22 hi0 hz0 hz1 hz2 rfl (by omega)
    v l.length _ h.2 a m.length c (m.map (Value.int .i64)) (by simp) hnews (fun x hx => by obtain ⟨_, _, rfl⟩ := List.mem_map.1 hx; rfl) (by have := List.length_pos_iff.2 hm0; omega) (by simp [maxLen]; omega) (by omega) hbase _ rfl
  have ho : Oi base w' (.slice (some ⟨gb, 0, none⟩) (l.length + m.length) cap) (l ++ m) := ⟨fun x hx => by
      rcases List.mem_append.1 hx with hx | hx
      · exact h.1 x hx
      · exact hm1 x hx, by rw [List.length_append, List.map_append]; exact hown⟩
  refine ⟨gb, cap, w', hrun, ho, hgrow, hat, hlt, ?_⟩
  obtain ⟨o, cap', he, h1, h2, _⟩ := ho.form
  simp only [Value.slice.injEq] at he
  obtain ⟨_, _, rfl⟩ := he
  rw [List.length_append] at h1
  exact ⟨h1, h2⟩
/-- one int, in a new block -/
theorem Ns.one {w : World} {e : TypeId} {x : Int} (h : (Lit.int .i64 x).wf = true) : Ns .i64 (w.alloc (.cells #[.int .i64 x] e)) (.slice (some ⟨w.heap.size, 0, none⟩) 1 1) [x] := by
  refine ⟨fun y hy => by rw [List.mem_singleton.1 hy]; exact h, _, 1, rfl, by simp, by simp [maxLen], by simp, fun _ => ⟨_, rfl, fun i hi => ?_⟩⟩
  have : i = 0 := by simpa using hi
  subst this
  simp [go_sem, Addr.add]
theorem Oi.append1 {base : Nat} {w : World} {v : Value} {l : List Int} (h : Oi base w v l) (x : Int) (hx : (Lit.int .i64 x).wf = true) (hbase : base ≤ w.heap.size) (hn : l.length ≤ 100000) (e ty : TypeId) :
    ∃ gb cap w', (Builtin.append_ #[22, 22] ty #[v, .slice (some ⟨w.heap.size, 0, none⟩) 1 1]).run Tryd.prog (w.alloc (.cells #[.int .i64 x] e)) = .ok (.slice (some ⟨gb, 0, none⟩) (l.length + 1) cap) w' ∧
      Oi base w' (.slice (some ⟨gb, 0, none⟩) (l.length + 1) cap) (l ++ [x]) ∧ (w.alloc (.cells #[.int .i64 x] e)).grownBy w' v.ownBlock ∧ (v.ownBlock = some gb ∨ gb = w.heap.size + 1) ∧ gb < w'.heap.size ∧ l.length + 1 ≤ cap ∧ cap ≤ maxLen := by
  have hb : Below w.heap.size w (w.alloc (.cells #[.int .i64 x] e)) := (Below.refl _ _).alloc (Nat.le_refl _) _
  obtain ⟨gb, cap, w', h1, h2, h3, h4, h5⟩ := (h.below hb).append _ [x] (Ns.one (e := e) hx) (by simp; omega) (by simp; omega) (by simp) ty
  exact ⟨gb, cap, w', h1, h2, h3, by simpa using h4, h5⟩
theorem Oi.grown {base B : Nat} {w0 w w' : World} {v : Value} {l : List Int} (h : Oi base w v l) (hg : w.grownBy w' v.ownBlock) (hb : Below B w0 w) (h1 : B ≤ base) (h2 : B ≤ w.heap.size) : Below B w0 w' :=
  hb.grown hg h2 fun k hk => Nat.le_trans h1 (h.lt hk).1
end Go.Proofs.YtpgelebmhhcodaaDoor
