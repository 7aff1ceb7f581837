/- Records that came in by value, opened. -/
import Derived.Test.YtpgelebmhhcodaaDoorOpen
import Derived.Test.YtpgelebmhhcodaaDoorPlain
namespace Go.Proofs.YtpgelebmhhcodaaDoor
open Go.ChangeShapes Go.WideShapes Go.ChangeAt Go.RowKit Go.Joins Go.Deep
set_option linter.unusedVariables false

theorem array10 {α : Type} {cs : Array α} (h : cs.size = 10) : ∃ c0 c1 c2 c3 c4 c5 c6 c7 c8 c9, cs = #[c0, c1, c2, c3, c4, c5, c6, c7, c8, c9] := by
  obtain ⟨l⟩ := cs
  match l, h with
  | [c0, c1, c2, c3, c4, c5, c6, c7, c8, c9], _ => exact ⟨c0, c1, c2, c3, c4, c5, c6, c7, c8, c9, rfl⟩

/-- a record that came in -/
theorem open_rec_any {P : Program} {H : Type} {enc : TypeId × Value → H} {w : World} {base : Nat} {spare : TypeId → Bool} {held : Bool} {r : Reach} {b0 : Nat} {t ti tj tb : TypeId} {fs : Array Field} {v : Value} {d : DataW H} {p : List MemPlace}
    (hs : P.underlying t = some (.struct fs)) (hone : oneCellFields P fs = true) (hC : P.cellsOf t = fs.size) (hn : fs.toList.map (·.type) = [ti, ti, ti, ti, ti, ti, tb, tb, tj, tj]) (hi : P.underlying ti = some (.int .i64)) (hj : P.underlying tj = some (.int .i64)) (hb : P.underlying tb = some .bool) (hv : Value.okWide P w r b0 t v) (h : DataW.Trod enc P w base spare held t v d p) :
    ∃ m : RecD, v = recV m ∧ m.W := by
  obtain ⟨cs, rfl, hsz, hc⟩ := open_cells hs hone hC hv h
  have hfs : fs.size = 10 := by have := congrArg List.length hn; simpa using this
  have ht : ∀ i (hi : i < fs.size), some fs[i].type = [ti, ti, ti, ti, ti, ti, tb, tb, tj, tj][i]? := fun i hi => by
    rw [← hn]; simp [hi]
  have hI : ∀ i tt, [ti, ti, ti, ti, ti, ti, tb, tb, tj, tj][i]? = some tt → P.underlying tt = some (.int .i64) → ∃ n, cs[i]? = some (Value.int .i64 n) ∧ I64 n := fun i tt hit hu => by
    have hlt : i < fs.size := by
      have := (List.getElem?_eq_some_iff.1 hit).1
      simpa [hfs] using this
    obtain ⟨x, y, n, h1, h2⟩ := hc i fs[i] (Array.getElem?_eq_getElem hlt)
    have e : fs[i].type = tt := Option.some.inj ((ht i hlt).trans hit)
    rw [e] at h2
    obtain ⟨n, h3, _, h4⟩ := DataW.trod_int hu h2
    have h3' : x = .int .i64 n := by simpa using h3
    exact ⟨n, by rw [h1, h3'], wf_i64 h4⟩
  have hB : ∀ i, [ti, ti, ti, ti, ti, ti, tb, tb, tj, tj][i]? = some tb → ∃ b, cs[i]? = some (Value.bool b) := fun i hit => by
    have hlt : i < fs.size := by
      have := (List.getElem?_eq_some_iff.1 hit).1
      simpa [hfs] using this
    obtain ⟨x, y, n, h1, h2⟩ := hc i fs[i] (Array.getElem?_eq_getElem hlt)
    have e : fs[i].type = tb := Option.some.inj ((ht i hlt).trans hit)
    rw [e] at h2
    obtain ⟨n, h3, _⟩ := DataW.trod_bool hb h2
    have h3' : x = .bool n := by simpa using h3
    exact ⟨n, by rw [h1, h3']⟩
  obtain ⟨n0, e0, w0⟩ := hI 0 ti rfl hi
  obtain ⟨n1, e1, w1⟩ := hI 1 ti rfl hi
  obtain ⟨n2, e2, w2⟩ := hI 2 ti rfl hi
  obtain ⟨n3, e3, w3⟩ := hI 3 ti rfl hi
  obtain ⟨n4, e4, w4⟩ := hI 4 ti rfl hi
  obtain ⟨n5, e5, w5⟩ := hI 5 ti rfl hi
  obtain ⟨n6, e6⟩ := hB 6 rfl
  obtain ⟨n7, e7⟩ := hB 7 rfl
  obtain ⟨n8, e8, w8⟩ := hI 8 tj rfl hj
  obtain ⟨n9, e9, w9⟩ := hI 9 tj rfl hj
  obtain ⟨c0, c1, c2, c3, c4, c5, c6, c7, c8, c9, rfl⟩ := array10 (hsz.trans hfs)
  simp at e0 e1 e2 e3 e4 e5 e6 e7 e8 e9
  subst e0 e1 e2 e3 e4 e5 e6 e7 e8 e9
  exact ⟨⟨n0, n1, n2, n3, n4, n5, n6, n7, n8, n9⟩, rfl, ⟨w0, w1, w2, w3, w4, w5, w8, w9⟩⟩

theorem recOne : oneCellFields Tryd.prog (Tryd.prog.fieldsOf 24) = true := by kernel_rfl
theorem recCells : Tryd.prog.cellsOf 24 = (Tryd.prog.fieldsOf 24).size := by kernel_rfl
theorem recTypes : (Tryd.prog.fieldsOf 24).toList.map (·.type) = [3, 3, 3, 3, 3, 3, 4, 4, 2, 2] := by kernel_rfl
theorem recUnder : Tryd.prog.underlying 24 = some (.struct (Tryd.prog.fieldsOf 24)) := by kernel_rfl
theorem open_rec {H : Type} {enc : TypeId × Value → H} {w : World} {base : Nat} {spare : TypeId → Bool} {held : Bool} {r : Reach} {b0 : Nat} {v : Value} {d : DataW H} {p : List MemPlace}
    (hv : Value.okWide Tryd.prog w r b0 24 v) (h : DataW.Trod enc Tryd.prog w base spare held 24 v d p) : ∃ m : RecD, v = recV m ∧ m.W :=
  open_rec_any recUnder recOne recCells recTypes Tryd.underlying3 Tryd.underlying2 Tryd.underlying4 hv h
end Go.Proofs.YtpgelebmhhcodaaDoor
