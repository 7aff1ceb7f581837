/- Contracts of block.Bytes, block.Read whatever they are given; the errors by their numbers. -/
import Derived.Test.YtpgelebmhhcodaaDoorBrR
import Derived.Test.YtpgelebmhhcodaaDoorErr
namespace Go.Proofs.YtpgelebmhhcodaaDoor
open Go.RowKit
set_option linter.unusedVariables false

theorem Sen.rng {ea : Nat → Addr} {w : World} (h : Sen ea w) : w.cell? ⟨0, 0, none⟩ = some (.iface 91 (.pointer (some (ea 1)))) := h.cell 1 (by decide)
theorem Sen.shr {ea : Nat → Addr} {w : World} (h : Sen ea w) : w.cell? ⟨1, 0, none⟩ = some (.iface 91 (.pointer (some (ea 2)))) := h.cell 2 (by decide)
theorem Sen.blk {ea : Nat → Addr} {w : World} (h : Sen ea w) : w.cell? ⟨2, 0, none⟩ = some (.iface 91 (.pointer (some (ea 4)))) := h.cell 4 (by decide)
theorem blkBytesAll {ea : Nat → Addr} (e : Int) (v : Value) (L : List RecD) (w : World) (he1 : -9223372036854775808 ≤ e) (he2 : e ≤ 9223372036854775807) (hs : Sen ea w) (hv : Gs w v L) :
    Calls Tryd.prog 7 #[.int .i64 e, v] w fun en w' => Below w.heap.size w w' ∧ ((bbOk e L = true ∧ ∃ o cap, en = .returned (.tuple #[.slice o 256 cap, eC ea 0]) ∧ Ob 5 w.heap.size w' (.slice o 256 cap) (blkB e L)) ∨ (bbOk e L = false ∧ en = .returned (.tuple #[.slice none 0 0, eC ea 102]))) := by
  by_cases hr : 1 ≤ e ∧ e ≤ 1073741824 ∧ 1 ≤ L.length ∧ L.length ≤ 6
  · obtain ⟨h1, h2, h3, h4⟩ := hr
    have hok : bbOk e L = L.all okR := by
      unfold bbOk inB
      have k1 : decide (1 ≤ e) = true := decide_eq_true h1
      have k2 : decide (e ≤ 1073741824) = true := decide_eq_true h2
      have k3 : decide ((1 : Int) ≤ L.length) = true := decide_eq_true (by omega)
      have k4 : decide ((L.length : Int) ≤ 6) = true := decide_eq_true (by omega)
      rw [k1, k2, k3, k4]; rfl
    rw [hok]
    refine (blkBytes e v L w h1 h2 hv h3 h4 _ _ hs.rng).mono ?_
    rintro en w' ⟨hb, h | h⟩
    · exact ⟨hb, .inl h⟩
    · exact ⟨hb, .inr h⟩
  · have hok : bbOk e L = false := by
      unfold bbOk inB
      by_cases h1 : 1 ≤ e <;> by_cases h2 : e ≤ 1073741824 <;> by_cases h3 : (1 : Int) ≤ L.length <;> by_cases h4 : (L.length : Int) ≤ 6 <;> simp [h1, h2, h3, h4] <;> omega
    refine (blkRange e v L w he1 he2 hv (by omega) _ _ hs.rng).mono ?_
    rintro en w' ⟨rfl, hb⟩
    exact ⟨hb, .inr ⟨hok, rfl⟩⟩
theorem readBlk_code (b : List Int) : OkC (readBlk b).2.2 := by
  unfold readBlk OkC
  split
  · exact .inr ⟨by simp, by simp⟩
  · split
    · exact .inl rfl
    · split
      · exact .inl rfl
      · exact .inr ⟨by simp, by simp⟩
theorem blkReadAll {ea : Nat → Addr} (v : Value) (b : List Int) (w : World) (hv : Bs w v b) (hs : Sen ea w) :
    Calls Tryd.prog 13 #[v] w fun en w' => Below w.heap.size w w' ∧ ∃ u, en = .returned (.tuple #[.int .i64 (readBlk b).1, u, eC ea (readBlk b).2.2]) ∧ Gs w' u (readBlk b).2.1 := by
  by_cases hl : b.length = 256
  · cases hz : allZ b with
    | true =>
      have hr : readBlk b = (0, [], 0) := by unfold readBlk; rw [if_neg (by simp [hl]), hz]; rfl
      rw [hr]
      refine (blkReadZero v b w hv hl hz).mono ?_
      rintro en w' ⟨rfl, rfl⟩
      exact ⟨Below.refl _ _, _, rfl, Gs.nil _⟩
    | false =>
      refine (blkReadLong v b w hv hs.e3 _ _ hs.blk hl hz).mono ?_
      rintro en w' ⟨hb, ⟨o, cap, h0, rfl, ho⟩ | ⟨hr, rfl⟩⟩
      · refine ⟨hb, _, ?_, ho.gs⟩
        rw [h0]; rfl
      · refine ⟨hb, .slice none 0 0, ?_, ?_⟩ <;> rw [hr]
        · rfl
        · exact Gs.nil _
  · have hr : readBlk b = (0, [], 103) := by unfold readBlk; rw [if_pos hl]
    refine (blkReadShort v b w hv hl _ _ hs.shr).mono ?_
    rintro en w' ⟨rfl, hb⟩
    refine ⟨hb, .slice none 0 0, ?_, ?_⟩ <;> rw [hr]
    · rfl
    · exact Gs.nil _
end Go.Proofs.YtpgelebmhhcodaaDoor
