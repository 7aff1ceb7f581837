/- Structs of numbers and truths that came in by value, opened. -/
import Derived.Test.YtpgelebmhhcodaaDoorProg
import Derived.Test.YtpgelebmhhcodaaDoorPlain
import Derived.Test.YtpgelebmhhcodaaDoorLaid
import Derived.Lib.SmallJoins
import Derived.WalkKit
import Derived.ProofKit
import Derived.OpenShut
namespace Go.Proofs.YtpgelebmhhcodaaDoor
open Go.ChangeShapes Go.WideShapes Go.ChangeAt Go.RowKit Go.Joins Go.Deep
set_option linter.unusedVariables false

/-- each cell of such a struct, with its reading -/
theorem open_cells {P : Program} {H : Type} {enc : TypeId × Value → H} {w : World} {base : Nat} {spare : TypeId → Bool} {held : Bool} {r : Reach} {b0 : Nat} {t : TypeId} {fs : Array Field} {v : Value} {d : DataW H} {p : List MemPlace}
    (hs : P.underlying t = some (.struct fs)) (hone : oneCellFields P fs = true) (hC : P.cellsOf t = fs.size) (hv : Value.okWide P w r b0 t v) (h : DataW.Trod enc P w base spare held t v d p) :
    ∃ cs : Array Value, v = .agg cs ∧ cs.size = fs.size ∧ ∀ (i : Nat) (f : Field), fs[i]? = some f → ∃ x y n, cs[i]? = some x ∧ DataW.trod enc P w base spare held n f.type [x] = some y := by
  obtain ⟨cs, rfl, hsz⟩ := okWide_struct hs hv
  obtain ⟨fuel, hf⟩ := h
  obtain ⟨xs, n, _, _, _, hlen, hff⟩ := DataW.trod_struct hs hf
  refine ⟨cs, rfl, hsz.trans hC, fun i f hi => ?_⟩
  obtain ⟨o, k⟩ := hone_of hone i f hi
  have hlt : i < fs.size := (Array.getElem?_eq_some_iff.1 hi).1
  have hlt2 : i < cs.size := by omega
  have h2 := hff i f hi
  rw [List.getElem?_eq_getElem (show i < xs.length by omega)] at h2
  refine ⟨cs[i], xs[i], n, Array.getElem?_eq_getElem hlt2, ?_⟩
  rw [← h2, o, k]
  congr 1
  simp only [Value.cells]
  rw [List.drop_eq_getElem_cons (by simpa using hlt2)]
  simp

theorem array7 {α : Type} {cs : Array α} (h : cs.size = 7) : ∃ c0 c1 c2 c3 c4 c5 c6, cs = #[c0, c1, c2, c3, c4, c5, c6] := by
  obtain ⟨l⟩ := cs
  match l, h with
  | [c0, c1, c2, c3, c4, c5, c6], _ => exact ⟨c0, c1, c2, c3, c4, c5, c6, rfl⟩

/-- a master that came in -/
theorem open_mas_any {P : Program} {H : Type} {enc : TypeId × Value → H} {w : World} {base : Nat} {spare : TypeId → Bool} {held : Bool} {r : Reach} {b0 : Nat} {t ti : TypeId} {fs : Array Field} {v : Value} {d : DataW H} {p : List MemPlace}
    (hs : P.underlying t = some (.struct fs)) (hone : oneCellFields P fs = true) (hC : P.cellsOf t = fs.size) (hn : fs.size = 7) (ht : ∀ f ∈ fs.toList, f.type = ti) (hi : P.underlying ti = some (.int .i64)) (hv : Value.okWide P w r b0 t v) (h : DataW.Trod enc P w base spare held t v d p) :
    ∃ m : MasD, v = masV m ∧ m.W := by
  obtain ⟨cs, rfl, hsz, hc⟩ := open_cells hs hone hC hv h
  have hx : ∀ i, i < 7 → ∃ n, cs[i]? = some (.int .i64 n) ∧ J64 n := fun i hi7 => by
    have hlt : i < fs.size := by omega
    obtain ⟨x, y, n, h1, h2⟩ := hc i fs[i] (Array.getElem?_eq_getElem hlt)
    rw [ht fs[i] (by simp)] at h2
    obtain ⟨n, h3, _, h4⟩ := DataW.trod_int hi h2
    have h3' : x = .int .i64 n := by simpa using h3
    exact ⟨n, by rw [h1, h3'], wf_i64 h4⟩
  obtain ⟨n0, e0, w0⟩ := hx 0 (by omega)
  obtain ⟨n1, e1, w1⟩ := hx 1 (by omega)
  obtain ⟨n2, e2, w2⟩ := hx 2 (by omega)
  obtain ⟨n3, e3, w3⟩ := hx 3 (by omega)
  obtain ⟨n4, e4, w4⟩ := hx 4 (by omega)
  obtain ⟨n5, e5, w5⟩ := hx 5 (by omega)
  obtain ⟨n6, e6, w6⟩ := hx 6 (by omega)
  obtain ⟨c0, c1, c2, c3, c4, c5, c6, rfl⟩ := array7 (hsz.trans hn)
  simp at e0 e1 e2 e3 e4 e5 e6
  subst e0 e1 e2 e3 e4 e5 e6
  exact ⟨⟨n0, n1, n2, n3, n4, n5, n6⟩, rfl, ⟨w0, w1, w2, w3, w4, w5, w6⟩⟩

end Go.Proofs.YtpgelebmhhcodaaDoor
