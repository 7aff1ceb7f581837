/- The law 'CellJoins' of the given program answers true at every input that the row speaks of, and every argument reads behind the call as before; no condition. The frame is written by the guide's proof-skeleton.mjs; the walk's own text is ours. -/
import Derived.Test.YtebpgghhjaoonaaRows
import Derived.WalkKit
import Derived.ProofKit
import Derived.OpenShut
import Derived.ShutString
import Derived.ChangeOld
import Derived.Below
import Derived.Test.YtebpgghhjaoonaaCellK
import Derived.Deep.Matrix
namespace Go.Proofs.Ytebpgghhjaoonaa.cellJoins
open Go.Deep Go.ChangeShapes Go.WideShapes Go.ChangeAt Go.RowKit
open Go.ChangeMaps (open_string shut_string)
set_option linter.unusedVariables false

theorem own : ownKnob Try.prog.godebug = none := by kernel_rfl
theorem laidOut : laidOutB Try.prog = true := by kernel_rfl

/-- rows that came in, read off the opening, read as a list of lists of bytes -/
theorem rs_of_rows {w : World} {a : Addr} {len cap : Nat} {A : Nat → Option Addr} {L C : Nat → Nat} {Z : Nat → List Int} (hl : len ≤ cap) (hm : cap ≤ maxLen)
    (h : ∀ r, r < cap → w.cell? (a.add r) = some (.slice (A r) (L r) (C r)) ∧ L r ≤ C r ∧ C r ≤ maxLen ∧ (Z r).length = C r ∧ (∀ n ∈ Z r, (Lit.int .u8 n).wf = true) ∧ (A r = none → C r = 0) ∧
        ∀ a', A r = some a' → 0 ≤ a'.block ∧ ∀ c, c < C r → w.cell? (a'.add c) = some (.int .u8 ((Z r).getD c 0))) :
    Rs w (.slice (some a) len cap) ((List.range len).map fun r => (Z r).take (L r)) := by
  have hlen : ((List.range len).map fun r => (Z r).take (L r)).length = len := by simp
  refine ⟨some a, cap, by rw [hlen], by omega, hm, by simp, fun _ => ⟨a, rfl, fun i hi => ?_⟩⟩
  rw [hlen] at hi
  obtain ⟨h1, h2, h3, h4, h5, h6, h7⟩ := h i (by omega)
  refine ⟨_, h1, ?_⟩
  have e : ((List.range len).map fun r => (Z r).take (L r)).getD i [] = (Z i).take (L i) := by
    simp [List.getD, List.getElem?_map, List.getElem?_range hi]
  rw [e]
  have hll : ((Z i).take (L i)).length = L i := by rw [List.length_take]; omega
  refine ⟨fun x hx => ?_, A i, C i, by rw [hll], by omega, h3, h6, fun hne => ?_⟩
  · exact wf_u8 (h5 x (List.mem_of_mem_take hx))
  · have hpos : 0 < L i := by
      rcases Nat.eq_zero_or_pos (L i) with h0 | h0
      · exact absurd (List.eq_nil_of_length_eq_zero (by omega)) hne
      · exact h0
    cases hA : A i with
    | none => have := h6 hA; omega
    | some x =>
      refine ⟨x, rfl, fun j hj => ?_⟩
      rw [hll] at hj
      rw [(h7 x hA).2 j (by omega), getD_lt (show j < (Z i).length by omega), getD_lt (show j < ((Z i).take (L i)).length by omega), List.getElem_take]

/-! ### THE WALK: the Go text returns true, and writes nothing that was there. -/
theorem walk (v0 : Value) (L : List (List Int)) (a1 : Int) (w : World) (w0 : Rs w v0 L) (w1 : (Lit.int .i64 a1).wf = true) :
    Calls Try.prog 7 #[v0, .int .i64 a1] w fun e w' => e = .returned (.bool true) ∧ Below w.heap.size w w' :=
  cellJoins_walk v0 L a1 w w0 (wf_i64 w1).1 (wf_i64 w1).2

/-! ### THE ROW's STEP: WRITTEN OUT: LEAVE IT -/
set_option maxRecDepth 100000 in
theorem lifted (os : Os) (started : os.Started) (H : Type) (enc : TypeId × Value → H) :
    ReturnsInHanded {} Try.checked os 7 .any (Rows.cellJoinsSpec.pre6 enc Try.prog Try.f7 Rows.cellJoinsRow.domain false) (Rows.cellJoinsSpec.post enc Try.prog Try.f7 false true false false) := by
  refine returnsInHanded_of_change (C := Try.checked) own started (by kernel_rfl) Try.func7
    (ChangeSpec.witness6 (enc := enc) (C := Try.checked) false ⟨#[], #[.slice none 0 0, .int .i64 0], []⟩ 8 (by kernel_rfl) (by kernel_rfl) (by kernel_rfl) (by kernel_rfl)) ?_
  intro W base args ds gs before hval0 hW hcnd _
  have hval : ∀ (j : Nat) t v, Try.f7.params[j]? = some t → args[j]? = some v → Value.okWide Try.prog W .any base t v := hval0
  have hW' := hW
  obtain ⟨p, q, hA0, hV, rfl, hfz, hnd⟩ := hW
  have hA : DataW.TrodAll enc Try.prog W 0 (fun _ => true) true Try.f7.params.toList args.toList ds p := hA0
  rw [Try.params7] at hA hval
  obtain ⟨v0, vs0, d0, ds0, p0, q0, hargs, rfl, rfl, h0, r0⟩ := trodAll_cons hA
  obtain ⟨v1, vs1, d1, ds1, p1, q1, rfl, rfl, rfl, h1, r1⟩ := trodAll_cons r0
  obtain ⟨rfl, rfl, rfl⟩ := trodAll_nil r1
  obtain rfl : args = #[v0, v1] := by cases args; simp_all
  obtain ⟨rfl, rfl⟩ := trodVars_none hV
  have hs0 : ∃ a0 len0 cap0, v0 = .slice a0 len0 cap0 := okWide_slice Try.underlying40 (hval 0 40 v0 rfl rfl)
  have k0 := h0
  have lt0 : ∀ x ∈ p0, x.block < W.heap.size := by obtain ⟨m, hm⟩ := k0; exact DataW.trod_lt m _ _ _ hm
  obtain ⟨z0, w0⟩ : ∃ L, Rs W v0 L := by
    obtain ⟨a0, len0, cap0, rfl⟩ := hs0
    obtain ⟨fuel, hf⟩ := h0
    rcases open_int_rows Try.underlying40 Try.underlying22 Try.underlying5 (by kernel_rfl) (by kernel_rfl) hf with ⟨hcs, _⟩ | ⟨x, l, c, A, L, C, Z, hcs, _, hl, hm, _, hz⟩
    · simp [Value.cells] at hcs
      obtain ⟨rfl, rfl, rfl⟩ := hcs
      exact ⟨[], Rs.nil W⟩
    · simp [Value.cells] at hcs
      obtain ⟨rfl, rfl, rfl⟩ := hcs
      exact ⟨_, rs_of_rows hl hm hz⟩
  obtain ⟨a1, rfl, rfl, rfl, w1⟩ := open_int Try.underlying3 (hval 1 3 v1 rfl rfl) h1
  clear hA0 hval0
  refine (walk v0 z0 a1 W w0 w1).mono fun e W' ⟨he, bel⟩ => ?_
  subst he
  exact ⟨_, rfl, _, _, _, [], _, [], hW', trodAll_mk1 (shut_bool Try.underlying4 _), (trodAll_cons_mk (Below.trod laidOut (by kernel_rfl) (of_decide_eq_true (by kernel_rfl)) k0 bel lt0) (trodAll_cons_mk (shut_int Try.underlying3 w1) trodAll_mk0)), rfl, bel.frame _, fun h => by cases h⟩

theorem over : Rows.cellJoinsRow.holds Try.pinned (OpenSpec.ofChange Rows.cellJoinsSpec) :=
  OpenClaim.holds_of_wide 7 Try.f7 rfl rfl rfl rfl rfl rfl rfl ⟨rfl, rfl, rfl, rfl, rfl⟩ rfl rfl rfl rfl rfl (by kernel_rfl) Try.func7 (by kernel_rfl)
    (of_decide_eq_true (by kernel_rfl)) (by unfold Func.isWrapper; first | (rw [if_pos (by decide +kernel)]; kernel_rfl) | (rw [if_neg (by decide +kernel)]; exact ⟨rfl, rfl⟩))
    (fun os started H enc _ => lifted os started H enc)

/-- ████ THE STATEMENT ████ -/
theorem proved : Rows.CellJoinsSaid := over
#print axioms proved
end Go.Proofs.Ytebpgghhjaoonaa.cellJoins
