/- The walk of the law LockShares. -/
import Derived.Test.YtoikdhfihkbcbaaLLockModes
import Derived.Test.YtoikdhfihkbcbaaLkM
import Derived.Test.YtoikdhfihkbcbaaNum
namespace Go.Proofs.Ytoikdhfihkbcbaa
open Go.RowKit
set_option linter.unusedVariables false

/-- so many hold a key shared, from one on -/
def sh (key : Int) : Nat → Nat → List HoldD
  | _, 0 => []
  | a, n + 1 => ⟨(a : Int), key, 1⟩ :: sh key (a + 1) n
theorem sh_len (key : Int) : ∀ (n a : Nat), (sh key a n).length = n
  | 0, _ => rfl
  | n + 1, a => by rw [sh, List.length_cons, sh_len]
theorem sh_mem (key : Int) : ∀ (n a : Nat) (h : HoldD), h ∈ sh key a n → h.key = key ∧ h.mode = 1 ∧ (a : Int) ≤ h.s ∧ h.s < a + n
  | 0, _, h, hm => by simp [sh] at hm
  | n + 1, a, h, hm => by
    rw [sh, List.mem_cons] at hm
    rcases hm with rfl | hm
    · exact ⟨rfl, rfl, by simp, by simp; omega⟩
    · obtain ⟨h1, h2, h3, h4⟩ := sh_mem key n (a + 1) h hm
      exact ⟨h1, h2, by omega, by omega⟩
theorem sh_last (key : Int) : ∀ (n a : Nat), sh key a (n + 1) = sh key a n ++ [⟨((a + n : Nat) : Int), key, 1⟩]
  | 0, a => rfl
  | n + 1, a => by
    rw [sh, sh_last key n (a + 1), sh, List.cons_append]
    congr 4
    omega
theorem sh_who1 (key : Int) (n a : Nat) (s : Int) : whoL (sh key a n) s key 1 = [] := by
  unfold whoL
  rw [List.map_eq_nil_iff, List.filter_eq_nil_iff]
  intro h hm
  obtain ⟨h1, h2, _, _⟩ := sh_mem key n a h hm
  unfold wayT
  rw [h2]
  simp
theorem idxG_none (s key : Int) : ∀ (T : List HoldD) (k : Nat), (∀ h ∈ T, h.s ≠ s) → idxG s key T k = -1
  | [], _, _ => rfl
  | h :: T, k, hT => by
    rw [idxG, if_neg (by unfold hereT; simp [hT h (by simp)])]
    exact idxG_none s key T (k + 1) fun x hx => hT x (by simp [hx])
theorem sh_take1 (key : Int) (k : Nat) : takeT (sh key 0 k) k key 1 = (true, sh key 0 (k + 1)) := by
  rw [takeT_new rfl (sh_who1 key k 0 k) (idxG_none _ _ _ _ fun h hm => by
    obtain ⟨_, _, _, h4⟩ := sh_mem key k 0 h hm
    omega), sh_last, Nat.zero_add]
theorem sh_who2 (key : Int) (n a : Nat) (s : Int) (hs : s < a) : (whoL (sh key a n) s key 2).length = n := by
  unfold whoL
  rw [List.length_map, List.filter_eq_self.2, sh_len]
  intro h hm
  obtain ⟨h1, h2, h3, _⟩ := sh_mem key n a h hm
  unfold wayT
  have : (h.s != s) = true := by simp; omega
  rw [this, h1]
  simp [isM]
theorem sh_who2s (key : Int) (n a : Nat) : (whoL (sh key a (n + 1)) a key 2).length = n := by
  have := sh_who2 key n (a + 1) a (by omega)
  unfold whoL at this ⊢
  rw [sh, List.filter_cons, if_neg (by unfold wayT; simp)]
  exact this
theorem sh_take2 (key : Int) (n a : Nat) (hn : n ≠ 0) : takeT (sh key a (n + 1)) a key 2 = (false, sh key a (n + 1)) :=
  takeT_no (.inr fun e => hn (by rw [← sh_who2s key n a, e]; rfl))
theorem sh_take3 (key : Int) (a : Nat) : takeT (sh key a 1) a key 2 = (true, [⟨(a : Int), key, 2⟩]) := by
  have hw : whoL (sh key a 1) a key 2 = [] := List.eq_nil_of_length_eq_zero (sh_who2s key 0 a)
  have h1 : sh key a 1 = [⟨(a : Int), key, 1⟩] := rfl
  rw [h1] at hw ⊢
  unfold takeT
  rw [if_pos ⟨rfl, whoT_nil hw⟩, idx_own, if_neg (by omega)]
  rfl
theorem sh_free (key : Int) (n a : Nat) : freeT (sh key a (n + 1)) a = sh key (a + 1) n := by
  unfold freeT
  rw [sh, List.filter_cons, if_neg (by simp), List.filter_eq_self]
  intro h hm
  obtain ⟨_, _, h3, _⟩ := sh_mem key n (a + 1) h hm
  simp
  omega
theorem x_take (key : Int) (a n : Nat) (h : a ≠ n) : takeT [⟨(a : Int), key, 2⟩] n key 1 = (false, [⟨(a : Int), key, 2⟩]) :=
  takeT_no (.inr (by
    unfold whoL
    rw [List.filter_cons, if_pos (by unfold wayT; simp [isM]; omega)]
    simp))
theorem x_who (key : Int) (a n : Nat) (h : a ≠ n) : (whoT [⟨(a : Int), key, 2⟩] n key 1).length = 1 := by
  rw [whoT_len]
  unfold whoL
  rw [List.filter_cons, if_pos (by unfold wayT; simp [isM]; omega)]
  rfl
theorem x_keys (key : Int) (a : Nat) : keysT (fun h => h.mode == 2) [⟨(a : Int), key, 2⟩] = [key] := by
  unfold keysT
  have : sortL (keyL (fun h => h.mode == 2) [⟨(a : Int), key, 2⟩]) = [key] := by
    show List.mergeSort [key] _ = _
    rw [List.mergeSort_singleton]
  rw [this]
  rfl

set_option maxRecDepth 20000 in
set_option maxHeartbeats 4000000 in
theorem lockShares_walk (n key : Int) (s1 : I64L n) (k1 : I64L key) (w : World) :
    Calls Try.prog 5 #[.int .i64 n, .int .i64 key] w fun e w' => e = .returned (.bool true) ∧ Below w.heap.size w w' := by
  have HF := Lib.hid (lockFirst w)
  have HK := Lib.hid k1
  obtain ⟨m, hm⟩ : ∃ m : Nat, n % 8 = m := ⟨(n % 8).toNat, by omega⟩
  have hm8 : m < 8 := by omega
  have hnum := fun W => number n 8 W (by omega) (by omega) s1.1 s1.2
  rw [hm] at hnum
  have HNUM := Lib.hid hnum
  clear s1 k1 hm hnum
  go_enter Try.func5, Try.ntmps5
  go_wp2_with fail
  refine HF.out.mono ?_
  clear HF
  rintro e w1 ⟨rfl, hb1⟩
  have HT0 : Hid (TW w (w1.alloc (.cells #[.slice none 0 0] 26)) w1.heap.size (.slice none 0 0) []) := Lib.hid (TW.new hb1)
  clear hb1
  go_wp2_with fail
  refine (HNUM.out _).mono ?_
  clear HNUM
  rintro e w2 ⟨rfl, rfl⟩
  go_upto_region 6 with fail
  generalize w1.alloc (.cells #[.slice none 0 0] 26) = w2 at HT0 ⊢
  generalize w1.heap.size = X at HT0 ⊢
  go_wp2_with fail
  go_loopw [7] (fun s7 wr => ∃ (k : Nat) (v : Value), s7 = .int .i64 k ∧ k ≤ m + 1 ∧ Hid (TW w wr X v (sh key 0 k))) (fun s7 _ => m + 1 - (intOf s7).toNat)
  case atStart => exact ⟨0, _, rfl, by omega, HT0⟩
  case round =>
    obtain ⟨k, v, rfl, hk, HT⟩ := hrel
    clear HT0
    by_cases hkn : (k : Int) < m + 1
    · have ht := tabTake HT.out.tb k key 1 (I64L_small (by omega) (by omega)) HK.out (by rw [sh_len]; omega)
      rw [sh_take1] at ht
      have HTK := Lib.hid ht
      clear ht
      go_wp2_with fail
      refine HTK.out.mono ?_
      clear HTK
      rintro e w3 ⟨rfl, v3, ht3, hx3⟩
      have HT3 := Lib.hid (HT.out.turn ht3 hx3)
      clear ht3 hx3 HT
      go_wp2_with fail
      go_roundw
      case rel => exact ⟨k + 1, v3, by go_num, by omega, HT3⟩
      case measure => simp [intOf]; omega
    · obtain rfl : k = m + 1 := by omega
      go_wp2_with fail
      go_loopw [8] (fun s8 wr => ∃ (a : Nat) (v : Value) (T : List HoldD), s8 = .int .i64 a ∧ a ≤ m + 1 ∧ Hid (TW w wr X v T) ∧ Hid ((a ≤ m → T = sh key a (m - a + 1)) ∧ (a = m + 1 → T = [⟨(m : Int), key, 2⟩]))) (fun s8 _ => m + 1 - (intOf s8).toNat)
      case atStart => exact ⟨0, v, _, rfl, by omega, HT, Lib.hid ⟨fun _ => rfl, fun h => by omega⟩⟩
      case round =>
        obtain ⟨a, v, T, rfl, ha, HT, HR⟩ := hrel
        by_cases han : (a : Int) < m + 1
        · by_cases hlast : a = m
          · subst hlast
            have hT := HR.out.1 (Nat.le_refl _)
            rw [Nat.sub_self] at hT
            subst hT
            have ht := tabTake HT.out.tb a key 2 (I64L_small (by omega) (by omega)) HK.out (by rw [sh_len]; omega)
            rw [Nat.zero_add, sh_take3] at ht
            have HTK := Lib.hid ht
            clear ht HR
            go_wp2_with fail
            refine HTK.out.mono ?_
            clear HTK
            rintro e w3 ⟨rfl, v3, ht3, hx3⟩
            have HT3 := Lib.hid (HT.out.turn ht3 hx3)
            have hw := tabWho HT3.out.tb a key 2
            rw [show (whoT [⟨(a : Int), key, 2⟩] a key 2).length = 0 from by rw [whoT_len, who_own]; rfl] at hw
            have HW := Lib.hid hw
            clear ht3 hx3 HT hw
            go_wp2_with fail
            refine HW.out.mono ?_
            clear HW
            rintro e w4 ⟨⟨o4, c4, rfl, _⟩, hb4⟩
            have HT4 := Lib.hid (HT3.out.below hb4)
            have hw := tabWho HT4.out.tb a key 1
            rw [show (whoT [⟨(a : Int), key, 2⟩] a key 1).length = 0 from by rw [whoT_len, who_own]; rfl] at hw
            have HW := Lib.hid hw
            clear hb4 HT3 hw
            go_wp2_with fail
            refine HW.out.mono ?_
            clear HW
            rintro e w5 ⟨⟨o5, c5, rfl, _⟩, hb5⟩
            have HT5 := Lib.hid (HT4.out.below hb5)
            clear hb5 HT4
            go_wp2_with fail
            go_roundw
            case rel => exact ⟨a + 1, _, _, by go_num, by omega, HT5, Lib.hid ⟨fun h => by omega, fun _ => rfl⟩⟩
            case measure => (simp [intOf]) <;> omega
          · have hT := HR.out.1 (by omega)
            obtain ⟨j, hj⟩ : ∃ j, m = a + j + 1 := ⟨m - a - 1, by omega⟩
            rw [show m - a + 1 = j + 1 + 1 from by omega] at hT
            subst hT
            have ht := tabTake HT.out.tb a key 2 (I64L_small (by omega) (by omega)) HK.out (by rw [sh_len]; omega)
            rw [sh_take2 key (j + 1) a (by omega)] at ht
            have HTK := Lib.hid ht
            have hne : ¬ ((a : Int) = m) := by omega
            have hneb : ((a : Int) == m) = false := by simp only [beq_eq_false_iff_ne, ne_eq]; exact hne
            have HJ := Lib.hid hj
            clear ht HR hj
            go_wp2_with fail
            refine HTK.out.mono ?_
            clear HTK
            rintro e w3 ⟨rfl, v3, ht3, hx3⟩
            have HT3 := Lib.hid (HT.out.turn ht3 hx3)
            have hw := tabWho HT3.out.tb a key 2
            rw [show (whoT (sh key a (j + 1 + 1)) a key 2).length = j + 1 from by rw [whoT_len, sh_who2s]] at hw
            have HW := Lib.hid hw
            clear ht3 hx3 HT hw
            go_wp2_with fail
            refine HW.out.mono ?_
            clear HW
            rintro e w4 ⟨⟨o4, c4, rfl, _⟩, hb4⟩
            have HT4 := Lib.hid (HT3.out.below hb4)
            have hw := tabWho HT4.out.tb a key 1
            rw [show (whoT (sh key a (j + 1 + 1)) a key 1).length = 0 from by rw [whoT_len, sh_who1]; rfl] at hw
            have HW := Lib.hid hw
            have hd : (m : Int) - a = (j : Int) + 1 := by have := HJ.out; omega
            clear hb4 HT3 hw
            go_wp2_with fail
            refine HW.out.mono ?_
            clear HW
            rintro e w5 ⟨⟨o5, c5, rfl, _⟩, hb5⟩
            have HT5 := Lib.hid (HT4.out.below hb5)
            have hfr := tabFree HT5.out.tb a
            rw [sh_free] at hfr
            have HFR := Lib.hid hfr
            clear hb5 HT4 hfr
            go_wp2_with fail
            refine HFR.out.mono ?_
            clear HFR
            rintro e w6 ⟨rfl, v6, ht6, hx6⟩
            have HT6 := Lib.hid (HT5.out.turn ht6 hx6)
            clear ht6 hx6 HT5 hd hne hneb
            go_wp2_with fail
            go_roundw
            case rel =>
              exact ⟨a + 1, _, _, by go_num, by omega, HT6, Lib.hid ⟨fun h => by have := HJ.out; rw [show m - (a + 1) + 1 = j + 1 from by omega], fun _ => by have := HJ.out; omega⟩⟩
            case measure => simp [intOf]; omega
        · obtain rfl : a = m + 1 := by omega
          have hT := HR.out.2 rfl
          subst hT
          have hh := tabHeld HT.out.tb
          rw [x_keys] at hh
          have HH := Lib.hid hh
          clear hh HR
          go_wp2_with fail
          refine HH.out.mono ?_
          clear HH
          rintro e w3 ⟨⟨o3, rfl, hn3⟩, hb3⟩
          have HT3 := Lib.hid (HT.out.below hb3)
          obtain ⟨_, o', c', e', _, _, _, hcl⟩ := hn3
          simp only [List.length_cons, List.length_nil, Value.slice.injEq] at e'
          obtain ⟨rfl, _, _⟩ := e'
          obtain ⟨ad, rfl, hc0⟩ := hcl (by simp)
          have hc1 := hc0 0 (by simp)
          have had : ad.add 0 = ad := by unfold Addr.add; split <;> simp_all
          rw [had] at hc1
          have hc2 : w3.cell? ad = some (.int .i64 key) := hc1
          have hmo := tabMode HT3.out.tb m key
          rw [mode_own] at hmo
          have HMO := Lib.hid hmo
          clear hb3 HT hmo hc0 hc1
          go_wp2_with fail
          refine HMO.out.mono ?_
          clear HMO
          rintro e w4 ⟨rfl, hb4⟩
          have HT4 := Lib.hid (HT3.out.below hb4)
          have ht := tabTake HT4.out.tb ((m : Int) + 1) key 1 (I64L_small (by omega) (by omega)) HK.out (by simp)
          rw [show (m : Int) + 1 = ((m + 1 : Nat) : Int) from by omega, x_take key m (m + 1) (by omega), ← show (m : Int) + 1 = ((m + 1 : Nat) : Int) from by omega] at ht
          have HTK := Lib.hid ht
          clear hb4 HT3 ht
          go_wp2_with fail
          refine HTK.out.mono ?_
          clear HTK
          rintro e w5 ⟨rfl, v5, ht5, hx5⟩
          have HT5 := Lib.hid (HT4.out.turn ht5 hx5)
          have hw := tabWho HT5.out.tb ((m : Int) + 1) key 1
          rw [show (m : Int) + 1 = ((m + 1 : Nat) : Int) from by omega, x_who key m (m + 1) (by omega), ← show (m : Int) + 1 = ((m + 1 : Nat) : Int) from by omega] at hw
          have HW := Lib.hid hw
          clear ht5 hx5 HT4 hw
          go_wp2_with fail
          refine HW.out.mono ?_
          clear HW
          rintro e w6 ⟨⟨o6, c6, rfl, _⟩, hb6⟩
          have HB6 := Lib.hid (HT5.out.bel.trans (hb6.mono HT5.out.bel.size))
          clear hb6
          go_wp2_with fail
          go_ret
          exact ⟨by simp, HB6.out⟩
end Go.Proofs.Ytoikdhfihkbcbaa
