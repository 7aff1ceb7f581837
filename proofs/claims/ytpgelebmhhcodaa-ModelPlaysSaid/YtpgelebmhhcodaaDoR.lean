/- An argument that is a slice of structs of four ints. -/
import Derived.Test.YtpgelebmhhcodaaLkA
import Derived.Test.YtpgelebmhhcodaaBase
import Derived.Deep.Slices
import Derived.Deep.Fields
import Derived.ChangeSame
import Derived.ProofKit
namespace Go.Proofs.Ytpgelebmhhcodaa
open Go.ChangeShapes Go.WideShapes Go.Deep Go.RowKit
set_option linter.unusedVariables false

section
variable {H : Type} {enc : TypeId × Value → H} {P : Program} {w : World} {base : Nat} {spare : Nat → Bool} {held : Bool}
theorem open_slice_fields {t e : TypeId} {fs : Array Field} {fuel : Nat} {cs : List Value} {x : DataW H × List MemPlace} (ht : P.underlying t = some (.slice e)) (he : P.underlying e = some (.struct fs))
    (hone : oneCellFields P fs = true) (hC : P.cellsOf e = fs.size) (h : DataW.trod enc P w base spare held fuel t cs = some x) :
    (cs = [.slice none 0 0] ∧ x = (.nil, [])) ∨
    ∃ (a : Addr) (len cap m : Nat) (D : Nat → DataW H) (Pl : Nat → List MemPlace), cs = [.slice (some a) len cap] ∧ base ≤ a.block ∧ len ≤ cap ∧ cap ≤ maxLen ∧ m = (if spare a.block then cap else len) ∧
      x = (.slice ((List.range len).map D) ((List.range (m - len)).map fun j => D (len + j)), MemPlace.row a (m * fs.size) ++ (List.range m).flatMap Pl) ∧
      ∀ i, i < m → ∃ (ys : List (DataW H × List MemPlace)) (n : Nat), D i = .agg (ys.map (·.1)) ∧ Pl i = ys.flatMap (·.2) ∧ ys.length = fs.size ∧
        ∀ (j : Nat) (f : Field), fs[j]? = some f → ∃ (v : Value) (y : DataW H × List MemPlace), w.cell? (a.add (i * fs.size + j)) = some v ∧ ys[j]? = some y ∧ DataW.trod enc P w base spare held n f.type [v] = some y := by
  rcases open_slice ht h with h0 | ⟨a, len, cap, m, n, D, Pl, hcs, hb, hl, hm, hmm, hx, hi⟩
  · exact .inl h0
  · refine .inr ⟨a, len, cap, m, D, Pl, hcs, hb, hl, hm, hmm, by rw [hC] at hx; exact hx, fun i him => ?_⟩
    obtain ⟨cs', hc, ht'⟩ := hi i him
    rw [hC] at hc
    obtain ⟨ys, n', hn', hy, hlen, hyl, hf⟩ := DataW.trod_struct he ht'
    obtain ⟨_, hcl, hat⟩ := World.cells?_some hc
    simp only [Prod.mk.injEq] at hy
    refine ⟨ys, n', hy.1, hy.2, hyl, fun j f hj => ?_⟩
    obtain ⟨ho, hk⟩ := hone_of hone j f hj
    have hjl : j < fs.size := (Array.getElem?_eq_some_iff.1 hj).1
    have hcell := hat j hjl
    have hv : cs'[j]? = some (cs'[j]'(by omega)) := List.getElem?_eq_getElem (by omega)
    have h1 := hf j f hj
    rw [ho, hk] at h1
    have hone' : (cs'.drop j).take 1 = [cs'[j]'(by omega)] := by
      rw [List.drop_eq_getElem_cons (by omega)]
      rfl
    rw [hone'] at h1
    have hys : ys[j]? = some (ys[j]'(by omega)) := List.getElem?_eq_getElem (by omega)
    refine ⟨_, _, ?_, hys, h1.trans hys⟩
    rw [← Go.Deep.add_add, hcell, hv]

/-- a slice of structs of four ints that can be read -/
def Do4 (w : World) (a : Option Addr) (len cap : Nat) : Prop :=
  len ≤ cap ∧ cap ≤ maxLen ∧ ∀ i, i < len → ∃ g off n0 n1 n2 n3, a = some ⟨g, off, none⟩ ∧ I64L n0 ∧ I64L n1 ∧ I64L n2 ∧ I64L n3 ∧
    w.cell? ⟨g, off + i * 4, none⟩ = some (.int .i64 n0) ∧ w.cell? ⟨g, off + i * 4 + 1, none⟩ = some (.int .i64 n1) ∧ w.cell? ⟨g, off + i * 4 + 2, none⟩ = some (.int .i64 n2) ∧ w.cell? ⟨g, off + i * 4 + 3, none⟩ = some (.int .i64 n3)
theorem addr_add {w : World} {a : Addr} {v : Value} {k : Nat} (h : w.cell? (a.add k) = some v) (hs : a.spot = none) : w.cell? ⟨a.block, a.off + k, none⟩ = some v := by
  obtain ⟨b, o, s⟩ := a
  dsimp only at hs
  subst hs
  unfold Addr.add at h
  split at h
  · rename_i e; subst e; exact h
  · exact h
theorem spot_none {w : World} {a : Addr} {v : Value} (h : w.cell? (a.add 0) = some v) : a.spot = none := by
  obtain ⟨b, o, s⟩ := a
  cases s with
  | none => rfl
  | some x =>
    unfold Addr.add World.cell? at h
    rw [if_pos rfl] at h
    split at h <;> simp at h
theorem wf_L {n : Int} (h : (Lit.int .i64 n).wf = true) : I64L n := wf_i64 h
theorem do4_of_trod {t e : TypeId} {f0 f1 f2 f3 : Field} {a : Option Addr} {len cap : Nat} {d : DataW H} {p : List MemPlace} (ht : P.underlying t = some (.slice e)) (he : P.underlying e = some (.struct #[f0, f1, f2, f3]))
    (hone : oneCellFields P #[f0, f1, f2, f3] = true) (hC : P.cellsOf e = 4) (h0 : P.underlying f0.type = some (.int .i64)) (h1 : P.underlying f1.type = some (.int .i64)) (h2 : P.underlying f2.type = some (.int .i64)) (h3 : P.underlying f3.type = some (.int .i64))
    (h : DataW.Trod enc P w base spare held t (.slice a len cap) d p) : Do4 w a len cap := by
  obtain ⟨fuel, hf⟩ := h
  rcases open_slice_fields ht he hone hC hf with ⟨hcs, _⟩ | ⟨x, l, c, m, D, Pl, hcs, _, hl, hm, hmm, _, hc⟩
  · simp [Value.cells] at hcs
    obtain ⟨rfl, rfl, rfl⟩ := hcs
    exact ⟨by omega, by simp [maxLen], fun i hi => by omega⟩
  · simp [Value.cells] at hcs
    obtain ⟨rfl, rfl, rfl⟩ := hcs
    refine ⟨hl, hm, fun i hi => ?_⟩
    have hlm : len ≤ m := by rw [hmm]; split <;> omega
    have hx : x.spot = none := by
      obtain ⟨ys, n, _, _, _, hg⟩ := hc 0 (by omega)
      obtain ⟨v, y, hcell, _, _⟩ := hg 0 f0 rfl
      rw [Nat.zero_mul] at hcell
      exact spot_none hcell
    obtain ⟨ys, n, _, _, _, hg⟩ := hc i (by omega)
    obtain ⟨v0, y0, c0, _, t0⟩ := hg 0 f0 rfl
    obtain ⟨v1, y1, c1, _, t1⟩ := hg 1 f1 rfl
    obtain ⟨v2, y2, c2, _, t2⟩ := hg 2 f2 rfl
    obtain ⟨v3, y3, c3, _, t3⟩ := hg 3 f3 rfl
    obtain ⟨n0, e0, _, w0⟩ := DataW.trod_int h0 t0
    obtain ⟨n1, e1, _, w1⟩ := DataW.trod_int h1 t1
    obtain ⟨n2, e2, _, w2⟩ := DataW.trod_int h2 t2
    obtain ⟨n3, e3, _, w3⟩ := DataW.trod_int h3 t3
    simp only [List.cons.injEq, and_true] at e0 e1 e2 e3
    subst e0 e1 e2 e3
    have k0 := addr_add c0 hx
    have k1 := addr_add c1 hx
    have k2 := addr_add c2 hx
    have k3 := addr_add c3 hx
    obtain ⟨g, off, s⟩ := x
    dsimp only at hx k0 k1 k2 k3
    subst hx
    exact ⟨g, off, n0, n1, n2, n3, rfl, wf_L w0, wf_L w1, wf_L w2, wf_L w3, k0, k1, k2, k3⟩
end
end Go.Proofs.Ytpgelebmhhcodaa
