/- The walk of the law LockModes; phoenixlaw12.first. -/
import Derived.Test.YtpgelebmhhcodaaLkF
namespace Go.Proofs.Ytpgelebmhhcodaa
open Go.RowKit
set_option linter.unusedVariables false

theorem I64L_small {n : Int} (h1 : -1000 ≤ n) (h2 : n ≤ 1000) : I64L n := ⟨by omega, by omega⟩
theorem take1 : takeT [] 0 5 1 = (true, [⟨0, 5, 1⟩]) := takeT_new rfl rfl rfl
theorem take2 : takeT [⟨0, 5, 1⟩] 1 5 1 = (true, [⟨0, 5, 1⟩, ⟨1, 5, 1⟩]) := takeT_new rfl rfl rfl
theorem take3 : takeT [⟨0, 5, 1⟩, ⟨1, 5, 1⟩] 1 5 2 = (false, [⟨0, 5, 1⟩, ⟨1, 5, 1⟩]) := takeT_no (.inr (by decide))
theorem who1 : (whoT [⟨0, 5, 1⟩, ⟨1, 5, 1⟩] 1 5 2).length = 1 := by rw [whoT_len]; rfl

set_option maxRecDepth 20000 in
theorem lockFirst (w : World) : Calls Try.prog 13 #[] w fun e w' => e = .returned (.bool true) ∧ Below w.heap.size w w' := by
  have HT0 : Hid (TW w (w.alloc (.cells #[.slice none 0 0] 26)) w.heap.size (.slice none 0 0) []) := Lib.hid (TW.new (Below.refl _ _))
  obtain ⟨X, hX⟩ : ∃ X, X = w.heap.size := ⟨_, rfl⟩
  rw [← hX] at HT0
  have HXX := Lib.hid hX
  have hm0 := tabMode HT0.out.tb 0 5
  rw [modeT_nil] at hm0
  have HM0 := Lib.hid hm0
  clear hX hm0
  go_enter Try.func13, Try.ntmps13
  go_upto_region 2 with fail
  rw [← HXX.out]
  generalize w.alloc (.cells #[.slice none 0 0] 26) = w1 at HT0 HM0 ⊢
  clear HXX
  go_wp2_with fail
  refine HM0.out.mono ?_
  clear HM0
  rintro e w2 ⟨rfl, hb2⟩
  have HT2 := Lib.hid (HT0.out.below hb2)
  have ht := tabTake HT2.out.tb 0 5 1 (I64L_small (by omega) (by omega)) (I64L_small (by omega) (by omega)) (by simp)
  rw [take1] at ht
  have HTK := Lib.hid ht
  clear ht hb2 HT0
  go_wp2_with fail
  refine HTK.out.mono ?_
  clear HTK
  rintro e w3 ⟨rfl, v3, ht3, hx3⟩
  have HT3 := Lib.hid (HT2.out.turn ht3 hx3)
  have ht := tabTake HT3.out.tb 1 5 1 (I64L_small (by omega) (by omega)) (I64L_small (by omega) (by omega)) (by simp)
  rw [take2] at ht
  have HTK := Lib.hid ht
  clear ht ht3 hx3 HT2
  go_wp2_with fail
  refine HTK.out.mono ?_
  clear HTK
  rintro e w4 ⟨rfl, v4, ht4, hx4⟩
  have HT4 := Lib.hid (HT3.out.turn ht4 hx4)
  have ht := tabTake HT4.out.tb 1 5 2 (I64L_small (by omega) (by omega)) (I64L_small (by omega) (by omega)) (by simp)
  rw [take3] at ht
  have HTK := Lib.hid ht
  clear ht ht4 hx4 HT3
  go_wp2_with fail
  refine HTK.out.mono ?_
  clear HTK
  rintro e w5 ⟨rfl, v5, ht5, hx5⟩
  have HT5 := Lib.hid (HT4.out.turn ht5 hx5)
  have hw := tabWho HT5.out.tb 1 5 2
  rw [who1] at hw
  have HW := Lib.hid hw
  clear hw ht5 hx5 HT4
  go_wp2_with fail
  refine HW.out.mono ?_
  clear HW
  rintro e w6 ⟨⟨o, c, rfl, _⟩, hb6⟩
  have HB6 := Lib.hid (HT5.out.bel.trans (hb6.mono HT5.out.bel.size))
  clear hb6
  go_wp2_with fail
  go_ret
  exact ⟨rfl, HB6.out⟩

theorem who_own (s key mode m2 : Int) : whoL [⟨s, key, mode⟩] s key m2 = [] := by
  unfold whoL
  rw [List.filter_cons, if_neg (by unfold wayT; simp)]
  rfl
theorem idx_own (s key mode : Int) : idxG s key [⟨s, key, mode⟩] 0 = 0 := by
  rw [idxG, if_pos (by unfold hereT; simp)]; rfl
theorem mode_own (s key mode : Int) : modeT [⟨s, key, mode⟩] s key = mode := by
  unfold modeT
  rw [List.find?_cons]
  simp
theorem take_own (s key mode : Int) (hm : mode = 1 ∨ mode = 2) : takeT [⟨s, key, mode⟩] s key 1 = (true, [⟨s, key, mode⟩]) := by
  unfold takeT
  rw [if_pos ⟨rfl, whoT_nil (who_own s key mode 1)⟩, idx_own, if_neg (by omega)]
  have : max mode 1 = mode := by omega
  simp [setM, this]

end Go.Proofs.Ytpgelebmhhcodaa
