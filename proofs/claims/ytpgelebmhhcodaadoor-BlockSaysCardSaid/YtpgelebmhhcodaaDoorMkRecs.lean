/- Contract: phoenixmake.Recs: some records that may be. -/
import Derived.Test.YtpgelebmhhcodaaDoorMkx
import Derived.Test.YtpgelebmhhcodaaDoorGs
namespace Go.Proofs.YtpgelebmhhcodaaDoor
open Go.RowKit
set_option linter.unusedVariables false

theorem Ext.grown {F F' : Nat → Prop} {w0 w w' : World} {row : Option Nat} (h : Ext F w0 F' w) (hg : w.grownBy w' row) (hr : ∀ k, row = some k → w0.heap.size ≤ k) : Ext F w0 F' w' :=
  ⟨hg.os.trans h.os, hg.tape.trans h.tape, hg.output.trans h.output, Nat.le_trans h.size hg.size, fun k hk hn => by
    rw [hg.block k (Nat.lt_of_lt_of_le hk h.size) (fun e => absurd hk (Nat.not_lt.2 (hr k e.symm)))]
    exact h.block k hk hn, h.grow⟩

/-- what Recs leaves -/
def MkRecsPost (q : Nat) (v : Value) (w : World) (p m : Int) (e : Ending) (w' : World) : Prop :=
  ∃ (L : List RecD) (o : Option Addr) (cap : Nat) (p' : Int), e = .returned (.slice o L.length cap) ∧ Og w.heap.size w' (.slice o L.length cap) L ∧ (∀ r ∈ L, okR r = true) ∧ (L.length : Int) ≤ m ∧ p ≤ p' ∧ p' ≤ p + 1 + 10 * L.length ∧ SeqAt w' q v p' ∧ Ext (fun b => b = q) w (fun b => b = q) w'

set_option maxRecDepth 20000 in
set_option maxHeartbeats 2000000 in
theorem mkRecs (q : Nat) (v : Value) (l : List Int) (w : World) (p m : Int) (hs : SeqAt w q v p) (hn : Ns .i64 w v l) (hvq : l ≠ [] → v.ownBlock ≠ some q) (hl : l.length ≤ 1000) (hp0 : 0 ≤ p) (hm0 : 0 ≤ m) (hm1 : m ≤ 60) (hp1 : p + 1 + 10 * m ≤ 900) :
    Calls Tryd.prog 5 #[.pointer (some ⟨q, 0, none⟩), .int .i64 m] w (MkRecsPost q v w p m) := by
  have hqs : q < w.heap.size := (Array.getElem?_eq_some_iff.1 hs).1
  have HN := Lib.hid hn
  have HVQ := Lib.hid hvq
  have HNX := Lib.hid (seqNextX q l v p (m + 1) w w hs (Ext.refl _ _) hn hvq hp0 (by omega) hl (by omega) (by omega))
  clear hn hs hvq
  go_enter Tryd.func5, Tryd.ntmps5
  go_wp2_with fail
  refine HNX.out.mono ?_
  clear HNX
  rintro e w1 ⟨⟨x, rfl, hx0, hx1⟩, hs1, _, _, he1⟩
  obtain ⟨n, rfl⟩ := Int.eq_ofNat_of_zero_le hx0
  have HS1 := Lib.hid hs1
  have HE1 := Lib.hid he1
  clear hs1 he1
  go_wp2_with fail
  go_loopw [5, 6] (fun u i wr => ∃ k : Nat, i = .int .i64 ((n : Int) - k) ∧ k ≤ n ∧ ∃ o cap p1 L, u = .slice o k cap ∧ Hid (L.length = k) ∧ p ≤ p1 ∧ p1 ≤ p + 1 + 10 * k ∧ Hid (Og w.heap.size wr (.slice o k cap) L) ∧ Hid (∀ r ∈ L, okR r = true) ∧ Hid (SeqAt wr q v p1) ∧ Hid (Ext (fun b => b = q) w (fun b => b = q) wr)) (fun _ i _ => (intOf i).toNat)
  case atStart => exact ⟨0, by simp, by omega, none, 0, p + 1, [], rfl, Lib.hid rfl, by omega, by omega, Lib.hid Og.nil, Lib.hid (fun r h => by simp at h), HS1, HE1⟩
  case round =>
    obtain ⟨k, rfl, hk, o, cap, p1, L, rfl, HLL, hq0, hq1, HO, HOK, HSR, HER⟩ := hrel
    clear HS1 HE1
    by_cases hkn : k < n
    · have hkn' : (k : Int) < n := by omega
      have HMX := Lib.hid (makeX q v l wr p1 HSR.out (HN.out.ext HER.out fun hne b e h => HVQ.out hne (by rw [← h]; exact e)) HVQ.out hl (by omega) (by omega))
      go_wp2_with fail
      refine HMX.out.mono ?_
      clear HMX
      rintro e w2 ⟨r, p2, rfl, hrw, hrok, hp2a, hp2b, hs2, he2⟩
      have HE2 := Lib.hid (HER.out.trans he2)
      have HO2 : Hid (Og w.heap.size w2 (.slice o k cap) L) := Lib.hid (HO.out.same fun b e => he2.block b (HO.out.lt e).2 (by have := (HO.out.lt e).1; omega))
      have hal : Below w2.heap.size w2 (w2.alloc (.cells (recCs r) 24)) := (Below.refl _ _).alloc (Nat.le_refl _) _
      have hoa := HO2.out.below hal
      have hsz2 := HE2.out.size
      obtain ⟨gb, cap2, w3, hrun, ho3, hg3, _, _, hc1, hc2⟩ := hoa.append1 r hrw (by simp; omega) (by rw [HLL.out]; omega) w2.heap.size (RW.new w2 (recCs r)) 1 30
      rw [HLL.out] at hrun ho3 hc1
      have HE3 := Lib.hid ((HE2.out.alloc (.cells (recCs r) 24)).grown hg3 (fun b e => (hoa.lt e).1))
      have HS3 : Hid (SeqAt w3 q v p2) := Lib.hid (by
        have h1 : (w2.alloc (.cells (recCs r) 24)).heap[q]? = w2.heap[q]? := Below.heap_alloc w2 _ q (by omega)
        have h2 := hg3.block q (by simp; omega) (fun e => by have := (hoa.lt e.symm).1; omega)
        exact h2.trans (h1.trans hs2))
      have HO3 := Lib.hid ho3
      have HLL3 : Hid ((L ++ [r]).length = k + 1) := Lib.hid (by rw [List.length_append, HLL.out]; rfl)
      have HOK3 : Hid (∀ x ∈ L ++ [r], okR x = true) := Lib.hid (fun x hx => by
        rcases List.mem_append.1 hx with hx | hx
        · exact HOK.out x hx
        · rw [List.mem_singleton.1 hx]; exact hrok)
      unfold maxLen at hc2
      clear he2 hs2 hal hoa ho3 hg3 hrw hrok HE2 HO2 HO HER HSR HOK
      obtain ⟨a0, a1, a2, a3, a4, a5, a6, a7, a8, a9⟩ := r
      dsimp only [recV, recCs] at hrun ⊢
      go_wp2_with (at_builtin; refine Lib.wpList_append_run _ rfl _ _ _ _ rfl _ _ rfl rfl _ _ hrun ?_)
      go_roundw
      case rel => exact ⟨k + 1, by congr 1; omega, by omega, _, _, p2, _, rfl, HLL3, by omega, by omega, HO3, HOK3, HS3, HE3⟩
      case measure => simp [intOf]; omega
    · obtain rfl : k = n := by omega
      have e0 : ((k : Int) - k) = 0 := by omega
      rw [e0]
      go_wp2_with fail
      go_ret
      have hf := HLL.out
      subst hf
      exact ⟨L, o, cap, p1, rfl, HO.out, HOK.out, by omega, hq0, hq1, HSR.out, HER.out⟩
end Go.Proofs.YtpgelebmhhcodaaDoor
