/- Contract: chapter 5's first (its examples). -/
import Derived.Test.YtabpmpaeakebmaaDoorMasR
namespace Go.Proofs.YtabpmpaeakebmaaDoor
open Go.RowKit
set_option linter.unusedVariables false

theorem getTo_zeros (n : Nat) (at_ : Int) (m : Nat) : getTo (List.replicate n 0) at_ m = 0 := by
  induction m with
  | zero => rfl
  | succ m ih =>
    have h : (List.replicate n (0 : Int)).getD (at_ + m).toNat 0 = 0 := by
      rw [List.getD_eq_getElem?_getD, List.getElem?_replicate]; split <;> rfl
    rw [getTo, ih, h]; split <;> omega
theorem readM_zeros (n : Nat) (hn : n = 256) : readM (List.replicate n 0) = (mas0, 106) := by
  unfold readM
  have h0 : ∀ at_, getL (List.replicate n 0) at_ 4 = 0 := fun at_ => getTo_zeros n at_ _
  have h : okM (masOf (List.replicate n 0)) = false := by
    unfold masOf
    rw [h0, h0, h0, h0, h0, h0, h0]; decide
  rw [if_neg (by rw [List.length_replicate, hn]; simp), h]
  rfl

set_option maxHeartbeats 800000 in
theorem masFirst {ea : Nat → Addr} (w : World) (hs : Sen ea w) :
    Calls Tryd.prog 13 #[] w fun e w' => e = .returned (.bool true) ∧ Below w.heap.size w w' := by
  obtain ⟨cur, hmk, hob⟩ := byteT.make w w.heap.size .i64 .i64 256 256 (by omega) (by omega) (by omega) (Nat.le_refl _)
  have hb1 : Below w.heap.size w (w.alloc (.cells cur 5)) := (Below.refl _ _).alloc (Nat.le_refl _) _
  have hs1 := hs.below hb1
  have hrd := masRead _ _ _ hob.bs hs1
  rw [readM_zeros (Int.toNat 256) rfl] at hrd
  dsimp only [masV, mas0] at hrd
  have hc : ∀ W, Below w.heap.size w W → Calls Tryd.prog 17 #[.agg #[.int .i64 1, .int .i64 0, .int .i64 1, .int .i64 0, .int .i64 1, .int .i64 1, .int .i64 1]] W fun e w' => e = .returned .nilIface ∧ Below W.heap.size W w' :=
    fun W hb => masCheck ⟨1, 0, 1, 0, 1, 1, 1⟩ W _ ((hs.below hb).cell 1 (by decide))
  have hi : ∀ W, Below w.heap.size w W → Calls Tryd.prog 16 #[eV ea 5, .int .i64 106] W fun e w' => e = .returned (.bool true) ∧ Below W.heap.size W w' :=
    fun W hb => isC W (hs.below hb) 106 (by unfold OkC; omega) 106
  unfold eV at hi
  have HRD := Lib.hid hrd
  have HC := Lib.hid hc
  have HI := Lib.hid hi
  have HB1 := Lib.hid hb1
  clear hrd hc hi hs hs1 hob
  go_enter Tryd.func13, Tryd.ntmps13
  go_wp2_with fail
  refine HRD.out.mono ?_
  rintro e w1 ⟨rfl, hb2⟩
  have hb3 := HB1.out.trans (hb2.mono HB1.out.size)
  have hb4 : Below w.heap.size w (w1.alloc (.cells #[.int .i64 0, .int .i64 0, .int .i64 0, .int .i64 0, .int .i64 0, .int .i64 0, .int .i64 0] 23)) := hb3.alloc hb3.size _
  have HB3 := Lib.hid hb4
  clear hb2 hb3 hb4
  change Hid _ at HB3
  have he : eC ea 106 = .iface 98 (.pointer (some (ea 5))) := rfl
  rw [he]
  clear he
  go_wp2_with fail
  refine (HI.out _ HB3.out).mono ?_
  rintro e w2 ⟨rfl, hb5⟩
  have hb6 := HB3.out.trans (hb5.mono HB3.out.size)
  have HB6 := Lib.hid hb6
  clear hb5 hb6
  go_wp2_with fail
  refine (HC.out _ HB6.out).mono ?_
  rintro e w3 ⟨rfl, hb7⟩
  have hb8 := HB6.out.trans (hb7.mono HB6.out.size)
  clear hb7
  go_wp2_with fail
  go_ret
  exact ⟨rfl, hb8⟩
end Go.Proofs.YtabpmpaeakebmaaDoor
