/- Contracts: chapter 16's first; Norm and All where it is known what they come to. -/
import Derived.Test.YtccfiohcblecoaaDoorChL
import Derived.Test.YtccfiohcblecoaaDoorChA
import Derived.Test.YtccfiohcblecoaaDoorIsAt
namespace Go.Proofs.YtccfiohcblecoaaDoor
open Go.RowKit
set_option linter.unusedVariables false

theorem normFine {ea : Nat → Addr} {w : World} {X : Nat} {c : LogC} {v : Value} {L : List RecD} (h : Lg 102 w X c v L) (hs : Sen ea w) (lsn k : Int) (hl1 : -9223372036854775808 ≤ lsn) (hl2 : lsn ≤ 9223372036854775807) (hn : norm c.base L lsn = (k, none)) :
    Calls Tryd.prog 38 #[.pointer (some ⟨X, 0, none⟩), .int .i64 lsn] w fun e w' => e = .returned (.tuple #[.int .i64 k, .nilIface]) ∧ Below w.heap.size w w' := by
  refine (chainNorm h hs lsn hl1 hl2).mono ?_
  rintro e w' ⟨hb, h⟩
  rw [hn] at h
  rcases h with ⟨_, rfl⟩ | ⟨p, a, hp, _⟩
  · exact ⟨rfl, hb⟩
  · simp at hp
theorem normBad {ea : Nat → Addr} {w : World} {X : Nat} {c : LogC} {v : Value} {L : List RecD} (h : Lg 102 w X c v L) (hs : Sen ea w) (lsn p : Int) (hl1 : -9223372036854775808 ≤ lsn) (hl2 : lsn ≤ 9223372036854775807) (hn : (norm c.base L lsn).2 = some p) :
    Calls Tryd.prog 38 #[.pointer (some ⟨X, 0, none⟩), .int .i64 lsn] w fun e w' => ∃ a, e = .returned (.tuple #[.int .i64 0, .iface 138 (.pointer (some ⟨a, 0, none⟩))]) ∧ Below w.heap.size w w' ∧ ErV ea w' (.iface 138 (.pointer (some ⟨a, 0, none⟩))) (.at_ p 7) := by
  refine (chainNorm h hs lsn hl1 hl2).mono ?_
  rintro e w' ⟨hb, h⟩
  rcases h with ⟨hp, _⟩ | ⟨q, a, hp, rfl, hev⟩
  · rw [hn] at hp; simp at hp
  · rw [hn] at hp
    obtain rfl : p = q := by simpa using hp
    exact ⟨a, rfl, hb, hev⟩
theorem allFine {ea : Nat → Addr} {w : World} {X : Nat} {c : LogC} {v : Value} {L : List RecD} (h : Lg 102 w X c v L) (hs : Sen ea w) (lsn : Int) (l : List Int) (hl1 : -9223372036854775808 ≤ lsn) (hl2 : lsn ≤ 9223372036854775807) (hn : chain c.base L [] lsn = (l, none)) :
    Calls Tryd.prog 39 #[.pointer (some ⟨X, 0, none⟩), .int .i64 lsn] w fun e w' => ∃ o cap, e = .returned (.tuple #[.slice o l.length cap, .nilIface]) ∧ Below w.heap.size w w' ∧ Ns .i64 w' (.slice o l.length cap) l := by
  refine (chainAll h hs lsn hl1 hl2).mono ?_
  rintro e w' ⟨hb, h⟩
  rw [hn] at h
  rcases h with ⟨_, o, cap, rfl, hv⟩ | ⟨p, a, hp, _⟩
  · exact ⟨o, cap, rfl, hb, hv⟩
  · simp at hp
theorem allBad {ea : Nat → Addr} {w : World} {X : Nat} {c : LogC} {v : Value} {L : List RecD} (h : Lg 102 w X c v L) (hs : Sen ea w) (lsn p : Int) (hl1 : -9223372036854775808 ≤ lsn) (hl2 : lsn ≤ 9223372036854775807) (hn : (chain c.base L [] lsn).2 = some p) :
    Calls Tryd.prog 39 #[.pointer (some ⟨X, 0, none⟩), .int .i64 lsn] w fun e w' => ∃ a, e = .returned (.tuple #[.slice none 0 0, .iface 138 (.pointer (some ⟨a, 0, none⟩))]) ∧ Below w.heap.size w w' ∧ ErV ea w' (.iface 138 (.pointer (some ⟨a, 0, none⟩))) (.at_ p 7) := by
  refine (chainAll h hs lsn hl1 hl2).mono ?_
  rintro e w' ⟨hb, h⟩
  rcases h with ⟨hp, _⟩ | ⟨q, a, hp, rfl, hev⟩
  · rw [hn] at hp; simp at hp
  · rw [hn] at hp
    obtain rfl : p = q := by simpa using hp
    exact ⟨a, rfl, hb, hev⟩
/-- an error around this record -/
theorem sameAt {ea : Nat → Addr} (w : World) (h : Sen ea w) (v : Value) (p : Int) (hv : ErV ea w v (.at_ p 7)) :
    Calls Tryd.prog 40 #[v, .agg #[.int .i64 108, .bool true, .int .i64 p]] w fun e w' => e = .returned (.bool true) ∧ Below w.heap.size w w' := by
  refine (sameAny w h v (.at_ p 7) hv 108 p true).mono ?_
  rintro e w' ⟨rfl, hb⟩
  refine ⟨?_, hb⟩
  simp [Er.code, Er.placed, Er.pos]

set_option maxHeartbeats 1000000 in
theorem chainFirst {ea : Nat → Addr} (w : World) (hs : Sen ea w) :
    Calls Tryd.prog 36 #[] w fun e w' => e = .returned (.bool true) ∧ Below w.heap.size w w' := by
  have HL := Lib.hid (chainLogs (ea := ea) (.slice none 0 0) [] 0 w hs (Gs.nil w) (fun r h => by simp at h) (by simp) (by omega) (by omega))
  have HS := Lib.hid hs
  clear hs
  go_enter Tryd.func36, Tryd.ntmps36
  go_wp2_with fail
  refine HL.out.mono ?_
  rintro e w1 ⟨X, Y, dx, dy, vx, vy, rfl, ht⟩
  have HB1 := Lib.hid ht.bel
  have HA := Lib.hid (allFine ht.x (HS.out.below ht.bel) 0 [] (by omega) (by omega) (chain_end (norm_zero _ _)))
  clear ht HL
  go_wp2_with fail
  refine HA.out.mono ?_
  rintro e w2 ⟨o, cap, rfl, hb2, _⟩
  have HB2 := Lib.hid (HB1.out.trans (hb2.mono HB1.out.size))
  clear hb2 HA
  dsimp only [List.length_nil]
  go_wp2_with fail
  go_ret
  exact ⟨rfl, HB2.out⟩

/-- two records written out -/
theorem recs2_laid (a0 a1 a2 a3 a4 a5 a8 a9 b0 b1 b2 b3 b4 b5 b8 b9 : Int) (a6 a7 b6 b7 : Bool) (w : World) : (Instr.buildSlice 60 2 #[(0, .agg #[.int .i64 a0, .int .i64 a1, .int .i64 a2, .int .i64 a3, .int .i64 a4, .int .i64 a5, .bool a6, .bool a7, .int .i64 a8, .int .i64 a9]), (1, .agg #[.int .i64 b0, .int .i64 b1, .int .i64 b2, .int .i64 b3, .int .i64 b4, .int .i64 b5, .bool b6, .bool b7, .int .i64 b8, .int .i64 b9])]).run Tryd.prog w = .ok (.slice (some ⟨w.heap.size, 0, none⟩) 2 2) (w.alloc (.cells #[.int .i64 a0, .int .i64 a1, .int .i64 a2, .int .i64 a3, .int .i64 a4, .int .i64 a5, .bool a6, .bool a7, .int .i64 a8, .int .i64 a9, .int .i64 b0, .int .i64 b1, .int .i64 b2, .int .i64 b3, .int .i64 b4, .int .i64 b5, .bool b6, .bool b7, .int .i64 b8, .int .i64 b9] 33)) := by kernel_rfl
theorem wpList_buildSlice_run {P : Program} (w : World) {ops : Array Oper} {rest : List Oper} {o : Oper} {a : Act} {Q : Exit → Act → World → Prop} (hgd : o.guard = none) (t : TypeId) (n : Nat) (ps : Array (Nat × Operand)) (ho : o.op = .buildSlice t n ps) (vs : Array (Nat × Value)) (hv : (ps.map fun (i, x) => (i, a.eval x)) = vs) (v' : Value) (w' : World)
    (hr : (Instr.buildSlice t n vs).run P w = .ok v' w') (h : wpList P ops Q rest (a.put o.dst v') w') : wpList P ops Q (o :: rest) a w :=
  wpList_step fun K hK => step_buildSlice_run w hgd t n ps ho vs hv v' w' hr (hK _ _ h)
/-- a row of records is a slice of them -/
theorem Gs.lit {w : World} {g : Nat} {L : List RecD} (h : w.heap[g]? = some (.cells (L.flatMap recCl).toArray 33 (0, 0))) (hW : ∀ r ∈ L, r.W) (n : Nat) (hn : n = L.length) (hm : n ≤ 1000) : Gs w (.slice (some ⟨g, 0, none⟩) n n) L := by
  subst hn
  refine ⟨hW, _, _, rfl, Nat.le_refl _, by simp [maxLen]; omega, by simp, fun _ => ⟨g, 0, rfl, fun i r hr j hj => ?_⟩⟩
  rw [cell_of_row w g _ _ _ _ h, Nat.zero_add]
  simpa using flatR L i j r hr hj
end Go.Proofs.YtccfiohcblecoaaDoor
