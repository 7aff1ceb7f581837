/- What a row's list of laid errors gives: each variable's cell, each pointer's frozen row, no two alike. -/
import Derived.Test.YtpgelebmhhcodaaDoorErr
import Derived.Test.YtpgelebmhhcodaaDoorRows
import Derived.LaidLaws
import Derived.RowKit
import Derived.LaidMore
namespace Go.Proofs.YtpgelebmhhcodaaDoor
open Go.RowKit Go.ChangeShapes
set_option linter.unusedVariables false

/-- what is listed of one such variable -/
def errD (text : List UInt8) : DataW Unit := .iface "*errors.errorString" (.ptr (.agg [.lit (.string text)]))

theorem errRow (u : TypeId) (h : Tryd.prog.typeName? 3 u = some "*errors.errorString") : u = 91 :=
  typeName_ptr_named (nm := "errors.errorString") (by rw [show "*" ++ "errors.errorString" = "*errors.errorString" by decide]; kernel_rfl) (by kernel_rfl) (by decide) u (by rw [show "*" ++ "errors.errorString" = "*errors.errorString" by decide]; exact h)
theorem cellsES : Tryd.prog.cellsOf 109 = 1 := by kernel_rfl
theorem cellsS : Tryd.prog.cellsOf 9 = 1 := by kernel_rfl

/-- a list of them, out of the places that it was read at -/
theorem laid_list {P : Program} {W : World} {ti tp te ts : TypeId} {ms : Array (String × TypeId)} {f : Field} (hi : P.underlying ti = some (.interface ms)) (hrow : ∀ u, P.typeName? 3 u = some "*errors.errorString" → u = tp)
    (hp : P.underlying tp = some (.pointer te)) (he : P.underlying te = some (.struct #[f])) (hft : f.type = ts) (hfo : f.offset = 0) (hs : P.underlying ts = some .string) (hc : P.cellsOf te = 1) (hcs : P.cellsOf ts = 1) : ∀ (L : List (String × Nat × DataW Unit)) (ps : List MemPlace),
    DataW.LaidVars P W (L.map fun x => (x.1, x.2.2)) ps →
    (∀ x ∈ L, P.globalNamed x.1 = some x.2.1 ∧ (P.globals[x.2.1]?).map (·.type) = some ti ∧ ∃ text, x.2.2 = errD text) →
    ps.Nodup → (∀ b off, MemPlace.cell b off ∈ ps → (∃ c t, W.heap[b]? = some (.cells c t (0, 0))) ∧ ∀ u v, W.cell? ⟨b, off, none⟩ = some (.iface u v) → Value.okWide P W .any 0 u v) →
    ∃ A : List Addr, A.length = L.length ∧ A.Nodup ∧ (∀ a ∈ A, MemPlace.cell a.block a.off ∈ ps) ∧
      ∀ i, i < L.length → W.cell? ⟨(L.getD i ("", 0, .nil)).2.1, 0, none⟩ = some (.iface tp (.pointer (some (A.getD i ⟨0, 0, none⟩))))
  | [], ps, h, _, _, _ => ⟨[], rfl, List.nodup_nil, by simp, by simp⟩
  | (n, g, d) :: r, ps, h, hg, hnd, hrows => by
    obtain ⟨g0, t0, cs0, f0, p0, q0, hg0, ht0, hv0, hd0, hq, e0⟩ := h
    have hh := hg (n, g, d) (by simp)
    have hgr := fun (x : String × Nat × DataW Unit) (hx : x ∈ r) => hg x (List.mem_cons_of_mem _ hx)
    have hh1 : P.globalNamed n = some g := hh.1
    have hh2 : (P.globals[g]?).map (·.type) = some ti := hh.2.1
    obtain ⟨text, rfl⟩ : ∃ text, d = errD text := hh.2.2
    clear hh hg
    obtain rfl : g = g0 := Option.some.inj (hh1.symm.trans hg0)
    obtain rfl : ti = t0 := Option.some.inj (hh2.symm.trans ht0)
    subst e0
    obtain ⟨l0⟩ := cs0
    have ok0 : ∀ u v, l0 = [.iface u v] → Value.okWide P W .any 0 u v := fun u v e => by
      subst e
      have hm0 : MemPlace.cell g 0 ∈ MemPlace.row ⟨g, 0, none⟩ (Array.mk [Value.iface u v]).size ++ p0 ++ q0 := by simp [MemPlace.row]
      have hc0 : W.cell? ⟨g, 0, none⟩ = some (.iface u v) := by simpa using World.var?_cell hg0 hv0 0
      have hx := hrows g 0 hm0
      exact And.right hx u v hc0
    obtain ⟨a0, s0, rfl, hc0, hs0, hz0, rfl⟩ := errorString_of_trod hi hrow hp he hft hfo hs hc hcs hd0 ok0
    obtain ⟨A, hl, hn, hm, hcc⟩ := laid_list hi hrow hp he hft hfo hs hc hcs r q0 hq hgr (List.Nodup.sublist (List.sublist_append_right _ _) hnd) (fun b off hb => hrows b off (List.mem_append_right _ hb))
    refine ⟨a0 :: A, by simp [hl], List.nodup_cons.2 ⟨fun hin => ?_, hn⟩, fun a ha => ?_, fun i hii => ?_⟩
    · have h1 := hm a0 hin
      have h2 : MemPlace.cell a0.block a0.off ∈ (MemPlace.row ⟨g, 0, none⟩ (Array.mk [Value.iface tp (.pointer (some a0))]).size ++ MemPlace.row a0 1) := by simp [MemPlace.row]
      exact (List.nodup_append.1 hnd).2.2 _ h2 _ h1 rfl
    · rcases List.mem_cons.1 ha with rfl | ha
      · simp [MemPlace.row]
      · exact List.mem_append_right _ (hm a ha)
    · match i with
      | 0 => simpa using World.var?_cell hg0 hv0 0
      | i + 1 => simpa using hcc i (by simpa using hii)

/-- the same, off the row's cell 'laid' -/
theorem laid_rows {W : World} (L : List (String × Nat × DataW Unit)) (h : laidMetH Tryd.prog (L.map fun x => (x.1, x.2.2)) W)
    (hg : ∀ x ∈ L, Tryd.prog.globalNamed x.1 = some x.2.1 ∧ (Tryd.prog.globals[x.2.1]?).map (·.type) = some 34 ∧ ∃ text, x.2.2 = errD text) :
    ∃ A : List Addr, A.length = L.length ∧ A.Nodup ∧ (∀ a ∈ A, ∃ c t, W.heap[a.block]? = some (.cells c t (0, 0))) ∧
      ∀ i, i < L.length → W.cell? ⟨(L.getD i ("", 0, .nil)).2.1, 0, none⟩ = some (.iface 91 (.pointer (some (A.getD i ⟨0, 0, none⟩)))) := by
  rw [MakeChecks.laidMetH_plain _ _ _ (by rw [List.all_eq_true]; intro x hx; obtain ⟨y, hy, rfl⟩ := List.mem_map.1 hx; obtain ⟨text, ht⟩ := (hg y hy).2.2; show (y.2.2.handleName?).isNone = true; rw [ht]; rfl)] at h
  obtain ⟨ps, hv, hnd, hrows⟩ := h
  obtain ⟨A, hl, hn, hm, hc⟩ := laid_list Tryd.underlying34 errRow Tryd.underlying91 Tryd.underlying109 rfl rfl Tryd.underlying9 cellsES cellsS L ps hv hg hnd hrows
  exact ⟨A, hl, hn, fun a ha => (hrows _ _ (hm a ha)).1, hc⟩

/-- all of package api's -/
def errL : List (String × Nat × DataW Unit) := [("phoenix/api.ErrOff", 4, Rows.laid_phoenix_api_ErrOff), ("phoenix/api.ErrRange", 0, Rows.laid_phoenix_api_ErrRange), ("phoenix/api.ErrShort", 1, Rows.laid_phoenix_api_ErrShort), ("phoenix/api.ErrRec", 3, Rows.laid_phoenix_api_ErrRec), ("phoenix/api.ErrBlock", 2, Rows.laid_phoenix_api_ErrBlock), ("phoenix/api.ErrMaster", 5, Rows.laid_phoenix_api_ErrMaster), ("phoenix/api.ErrPage", 6, Rows.laid_phoenix_api_ErrPage), ("phoenix/api.ErrLog", 7, Rows.laid_phoenix_api_ErrLog), ("phoenix/api.ErrLogFull", 8, Rows.laid_phoenix_api_ErrLogFull), ("phoenix/api.ErrFull", 9, Rows.laid_phoenix_api_ErrFull), ("phoenix/api.ErrLocked", 10, Rows.laid_phoenix_api_ErrLocked), ("phoenix/api.ErrDeadlock", 11, Rows.laid_phoenix_api_ErrDeadlock), ("phoenix/api.ErrNoTxn", 12, Rows.laid_phoenix_api_ErrNoTxn), ("phoenix/api.ErrOpen", 13, Rows.laid_phoenix_api_ErrOpen), ("phoenix/api.ErrSave", 14, Rows.laid_phoenix_api_ErrSave), ("phoenix/api.ErrBusy", 15, Rows.laid_phoenix_api_ErrBusy), ("phoenix/api.ErrLimit", 16, Rows.laid_phoenix_api_ErrLimit), ("phoenix/api.ErrClosed", 17, Rows.laid_phoenix_api_ErrClosed)]
theorem errL_ok : ∀ x ∈ errL, Tryd.prog.globalNamed x.1 = some x.2.1 ∧ (Tryd.prog.globals[x.2.1]?).map (·.type) = some 34 ∧ ∃ text, x.2.2 = errD text := by
  have hone : ∀ (n : String) (g : Nat) (d : DataW Unit), Tryd.prog.globalNamed n = some g → (Tryd.prog.globals[g]?).map (·.type) = some 34 → (∃ text, d = errD text) →
      Tryd.prog.globalNamed (n, g, d).1 = some (n, g, d).2.1 ∧ (Tryd.prog.globals[(n, g, d).2.1]?).map (·.type) = some 34 ∧ ∃ text, (n, g, d).2.2 = errD text := fun n g d h1 h2 h3 => ⟨h1, h2, h3⟩
  unfold errL
  repeat' rw [List.forall_mem_cons]
  refine ⟨?_, ?_, ?_, ?_, ?_, ?_, ?_, ?_, ?_, ?_, ?_, ?_, ?_, ?_, ?_, ?_, ?_, ?_, List.forall_mem_nil _⟩
  all_goals exact hone _ _ _ (by kernel_rfl) (by kernel_rfl) ⟨_, rfl⟩

/-- what a row that lists them all gives -/
theorem sen_of_laid {W : World} (h : laidMetH Tryd.prog (errL.map fun x => (x.1, x.2.2)) W) : ∃ ea, Sen ea W := by
  obtain ⟨A, hl, hn, hr, hc⟩ := laid_rows errL h errL_ok
  have h18 : A.length = 18 := hl
  refine ⟨fun i => A.getD i ⟨0, 0, none⟩, fun i hi => ?_, fun i hi => ?_, fun i j hi hj e => ?_⟩
  · have := hc i hi
    have e : (errL.getD i ("", 0, .nil)).2.1 = gE.getD i 0 := by
      match i, hi with
      | 0, _ | 1, _ | 2, _ | 3, _ | 4, _ | 5, _ | 6, _ | 7, _ | 8, _ | 9, _ | 10, _ | 11, _ | 12, _ | 13, _ | 14, _ | 15, _ | 16, _ | 17, _ => rfl
      | i + 18, h => omega
    rw [e] at this
    exact this
  · have hi' : i < A.length := by omega
    refine hr _ ?_
    simp only [List.getD_eq_getElem?_getD, List.getElem?_eq_getElem hi', Option.getD_some]
    exact List.getElem_mem hi'
  · have hi' : i < A.length := by omega
    have hj' : j < A.length := by omega
    simp only [List.getD_eq_getElem?_getD, List.getElem?_eq_getElem hi', List.getElem?_eq_getElem hj', Option.getD_some] at e
    rcases Nat.lt_trichotomy i j with hlt | heq | hgt
    · exact absurd e (List.pairwise_iff_getElem.1 hn i j hi' hj' hlt)
    · exact heq
    · exact absurd e.symm (List.pairwise_iff_getElem.1 hn j i hj' hi' hgt)
end Go.Proofs.YtpgelebmhhcodaaDoor
