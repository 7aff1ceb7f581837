/- Contracts: block.Read of a block, and of what is none. -/
import Derived.Test.YtoikdhfihkbcbaaDoorBlL
import Derived.Test.YtoikdhfihkbcbaaDoorBlT
namespace Go.Proofs.YtoikdhfihkbcbaaDoor
open Go.RowKit
set_option linter.unusedVariables false

/-- a block is read as it was -/
theorem blkReadBack {ea : Nat → Addr} (v : Value) (e : Int) (L : List RecD) (w : World) (hv : Bs w v (blkB e L)) (hs : E3 ea w) (p : Option Addr) (T : TypeId) (hE : w.cell? ⟨2, 0, none⟩ = some (.iface T (.pointer p))) (h1 : 1 ≤ L.length) (hl : L.length ≤ 6) (e1 : 1 ≤ e) (e2 : e ≤ 1073741824) (hok : ∀ r ∈ L, okR r = true ∧ r.W) :
    Calls Tryd.prog 15 #[v] w fun en w' => (∃ o cap, en = .returned (.tuple #[.int .i64 e, .slice o L.length cap, .nilIface]) ∧ Og w.heap.size w' (.slice o L.length cap) L) ∧ Below w.heap.size w w' := by
  refine (blkReadLong v _ w hv hs p T hE (blkB_len e L hl) (blkB_allZ e L hl)).mono ?_
  rintro en w' ⟨hb, h⟩
  rw [readBlk_back e L h1 hl e1 e2 hok] at h
  rcases h with ⟨o, cap, _, he, ho⟩ | ⟨h, _⟩
  · exact ⟨⟨o, cap, he, ho⟩, hb⟩
  · simp at h
/-- what is none -/
theorem blkReadNone {ea : Nat → Addr} (v : Value) (b : List Int) (w : World) (hv : Bs w v b) (hs : E3 ea w) (p : Option Addr) (T : TypeId) (hE : w.cell? ⟨2, 0, none⟩ = some (.iface T (.pointer p))) (hl : b.length = 256) (hz : allZ b = false) (hr : readBlk b = (0, [], 105)) :
    Calls Tryd.prog 15 #[v] w fun en w' => en = .returned (.tuple #[.int .i64 0, .slice none 0 0, .iface T (.pointer p)]) ∧ Below w.heap.size w w' := by
  refine (blkReadLong v _ w hv hs p T hE hl hz).mono ?_
  rintro en w' ⟨hb, h⟩
  rw [hr] at h
  rcases h with ⟨o, cap, h, _⟩ | ⟨_, he⟩
  · simp at h
  · exact ⟨he, hb⟩
/-- whatever it is -/
theorem blkReadAny {ea : Nat → Addr} (v : Value) (b : List Int) (w : World) (hv : Bs w v b) (hs : E3 ea w) (p : Option Addr) (T : TypeId) (hE : w.cell? ⟨2, 0, none⟩ = some (.iface T (.pointer p))) (hl : b.length = 256) (hz : allZ b = false) :
    Calls Tryd.prog 15 #[v] w fun en w' => ((en = .returned (.tuple #[.int .i64 0, .slice none 0 0, .iface T (.pointer p)])) ∨ ∃ n m o cap, en = .returned (.tuple #[.int .i64 n, .slice o m.length cap, .nilIface]) ∧ Og w.heap.size w' (.slice o m.length cap) m ∧ blkB n m = b ∧ 1 ≤ n ∧ n ≤ 1073741824 ∧ 1 ≤ m.length ∧ m.length ≤ 6 ∧ ∀ r ∈ m, okR r = true ∧ r.W) ∧ Below w.heap.size w w' := by
  rcases readBlk_or hv.1 hl hz with hr | ⟨n, m, hr, h1, h2, h3, h4, h5, h6⟩
  · refine (blkReadNone v b w hv hs p T hE hl hz hr).mono ?_
    rintro en w' ⟨he, hb⟩
    exact ⟨.inl he, hb⟩
  · refine (blkReadLong v _ w hv hs p T hE hl hz).mono ?_
    rintro en w' ⟨hb, h⟩
    rw [hr] at h
    rcases h with ⟨o, cap, _, he, ho⟩ | ⟨h, _⟩
    · exact ⟨.inr ⟨n, m, o, cap, he, ho, h1, h2, h3, h4, h5, h6⟩, hb⟩
    · simp at h
end Go.Proofs.YtoikdhfihkbcbaaDoor
