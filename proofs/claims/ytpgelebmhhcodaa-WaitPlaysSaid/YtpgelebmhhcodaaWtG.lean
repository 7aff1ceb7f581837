/- IndexFunc, DeleteFunc over ints with the closure of Gone (printed by mkwtg.py out of WtA, WtB). -/
import Derived.Test.YtpgelebmhhcodaaWtB
namespace Go.Proofs.Ytpgelebmhhcodaa
open Go.RowKit
set_option linter.unusedVariables false

theorem goneHere (x s : Int) (p : Addr) (w : World) (c : w.cell? p = some (.int .i64 s)) :
    Calls Try.prog 85 #[.int .i64 x, .pointer (some p)] w fun e w' => e = .returned (.bool (x == s)) ∧ w = w' := by
  go_enter Try.func85, Try.ntmps85
  go_wp2_with fail
  go_ret
  exact ⟨rfl, rfl⟩

set_option maxRecDepth 20000 in
theorem indexGone {v : Value} {l : List Int} {w : World} (hv : Ns .i64 w v l) (s : Int) (p : Addr) (c3 : w.cell? p = some (.int .i64 s)) :
    Calls Try.prog 94 #[v, .func (.func 85) #[] #[.pointer (some p)]] w fun e w' => e = .returned (.int .i64 (idxI s l 0)) ∧ w = w' := by
  obtain ⟨hwf, o, cap, rfl, h1, h2, h3, h4⟩ := hv
  have hcl := fun k hk => Ns.at_ hwf h4 (k := k) hk
  have HCL := Lib.hid hcl
  have HC3 := Lib.hid c3
  unfold maxLen at h2
  obtain ⟨n, hn⟩ : ∃ n, n = l.length := ⟨_, rfl⟩
  rw [← hn] at h1
  rw [← hn]
  have HN := Lib.hid hn
  obtain ⟨R, hR⟩ : ∃ R, R = idxI s l 0 := ⟨_, rfl⟩
  rw [← hR]
  have HR : Hid (R = idxI s (l.drop 0) 0) := Lib.hid (by rw [List.drop_zero]; exact hR)
  clear hwf h3 h4 hcl hn hR c3
  go_enter Try.func94, Try.ntmps94
  go_wp2_with fail
  go_loopw [8] (fun i wr => ∃ k : Nat, i = .int .i64 k ∧ k ≤ n ∧ w = wr ∧ Hid (R = idxI s (l.drop k) k)) (fun i _ => n - (intOf i).toNat)
  case atStart => exact ⟨0, rfl, by omega, rfl, HR⟩
  case round =>
    obtain ⟨k, rfl, hk, rfl, HRR⟩ := hrel
    clear HR
    by_cases hkn : (k : Int) < n
    · obtain ⟨a, y, rfl, hc, hy, _⟩ := HCL.out k (by have := HN.out; omega)
      have hkl : k < l.length := by have := HN.out; omega
      have hdrop : l.drop k = y :: l.drop (k + 1) := by
        rw [List.drop_eq_getElem_cons hkl, ← getD_lt (d := 0) hkl, hy.out]
      rw [hdrop] at HRR
      have HW := Lib.hid (goneHere y s p w HC3.out)
      clear hdrop hy
      by_cases e : s = y
      · have HX : Hid (R = (k : Int)) := Lib.hid (by rw [HRR.out, idxI, if_pos e])
        rw [show (y == s) = true from by simp [e]] at HW
        clear HRR e
        go_wp2_with fail
        refine HW.out.mono ?_
        rintro e w2 ⟨rfl, rfl⟩
        go_wp2_with fail
        go_ret
        exact ⟨by rw [HX.out]; rfl, rfl⟩
      · have HX : Hid (R = idxI s (l.drop (k + 1)) (k + 1)) := Lib.hid (by rw [HRR.out, idxI, if_neg e])
        rw [show (y == s) = false from by simpa using Ne.symm e] at HW
        clear HRR e
        go_wp2_with fail
        refine HW.out.mono ?_
        rintro e w2 ⟨rfl, rfl⟩
        go_wp2_with fail
        go_roundw
        case rel => exact ⟨k + 1, by go_num, by omega, trivial, HX⟩
        case measure => simp [intOf]; omega
    · have HX : Hid (R = -1) := Lib.hid (by rw [HRR.out, List.drop_eq_nil_of_le (by have := HN.out; omega)]; rfl)
      go_wp2_with fail
      go_ret
      exact ⟨by rw [HX.out]; rfl, rfl⟩
set_option maxRecDepth 20000 in
set_option maxHeartbeats 4000000 in
theorem deleteGone {base : Nat} {w : World} {v : Value} {l : List Int} (h : Oi base w v l) (hl : l.length ≤ 10000) (s : Int) (p3 : Addr) (c3 : w.cell? p3 = some (.int .i64 s)) (hp : v.ownBlock ≠ some p3.block) :
    Calls Try.prog 70 #[v, .func (.func 85) #[] #[.pointer (some p3)]] w fun e w' => ∃ v', e = .returned v' ∧ v'.ownBlock = v.ownBlock ∧ Oi base w' v' (delI l s) ∧ w.grownBy w' v.ownBlock := by
  have hidx := indexGone h.ns s p3 c3
  have HH := Lib.hid h
  have HIDX := Lib.hid hidx
  have HC3 := Lib.hid c3
  obtain ⟨o, cap, rfl, h1, h2, h3, h4⟩ := h.form
  rcases idxI_spec s l 0 with ⟨e, f⟩ | ⟨k, hk, e, f1, f2⟩
  · rw [e] at HIDX
    have HF := Lib.hid f
    unfold maxLen at h2
    clear hidx h c3 e f h3 h4
    go_enter Try.func70, Try.ntmps70
    go_wp2_with fail
    refine HIDX.out.mono ?_
    rintro e w2 ⟨rfl, rfl⟩
    go_wp2_with fail
    go_ret
    exact ⟨_, rfl, rfl, by rw [HF.out]; exact HH.out, World.grownBy.refl _ _⟩
  · rw [e, Nat.zero_add] at HIDX
    rcases HH.out.2.2 with ⟨hv, hn0⟩ | ⟨g, cap', cur, hv, hbg, hg, hn, hcm, hcs, ht⟩
    · simp only [Value.slice.injEq] at hv
      omega
    · simp only [Value.slice.injEq] at hv
      obtain ⟨rfl, _, rfl⟩ := hv
      rw [Nat.mul_one] at hcs ht
      have HG := Lib.hid hg
      have hgp : p3.block ≠ g := fun e => hp (by rw [e]; rfl)
      have HGP := Lib.hid hgp
      have hD0 : DI w w g cap l s k (k + 1) := ⟨⟨cur, hg, hcs, by
          rw [f2, List.map_take, ← ht, List.take_take, Nat.min_eq_left (by omega)], fun x hx1 hx2 => by
          rw [← Array.getElem?_toList, ← ht, List.getElem?_take, if_pos hx2]⟩, by rw [f2, List.length_take]; omega, World.grownBy.refl _ _, by omega⟩
      have HD0 := Lib.hid hD0
      have HBG := Lib.hid hbg
      unfold maxLen at h2
      have HCM := Lib.hid hcm
      have hkm : ((k : Int) == -1) = false := by simp
      clear hidx h c3 e f1 f2 h3 h4 hg hgp hD0 hn hcs ht hbg hcm hp
      go_enter Try.func70, Try.ntmps70
      go_wp2_with fail
      refine HIDX.out.mono ?_
      clear HIDX
      rintro e w2 ⟨rfl, rfl⟩
      go_wp2_with fail
      clear hkm
      go_loopw [5, 6] (fun s5 s6 wr => ∃ i j : Nat, s5 = .int .i64 i ∧ s6 = .int .i64 j ∧ i < j ∧ j ≤ l.length ∧ Hid (DI w wr g cap l s i j)) (fun _ s6 _ => l.length - (intOf s6).toNat)
      case atStart => exact ⟨k, k + 1, rfl, by go_num, by omega, by omega, HD0⟩
      case round =>
        obtain ⟨i, j, rfl, rfl, hij, hj, HD⟩ := hrel
        clear HD0
        by_cases hjn : (j : Int) < l.length
        · have hr : l[j]? = some l[j] := List.getElem?_eq_getElem (by omega)
          have q0 := HD.out.cell hr
          generalize l[j] = x at hr q0
          have HRR := Lib.hid hr
          have hc3 : wr.cell? p3 = some (.int .i64 s) := (World.cell?_of_block (a := p3) (HD.out.grown.block _ (Below.lt HC3.out) fun e => HGP.out (by simpa using e))).trans HC3.out
          have HCL := Lib.hid (goneHere x s p3 wr hc3)
          clear hr hc3
          go_wp2_with fail
          refine HCL.out.mono ?_
          clear HCL
          rintro e w3 ⟨rfl, rfl⟩
          cases hs : (x == s) with
          | true =>
            have HDN := Lib.hid (HD.out.skip HRR.out hs)
            clear hs
            go_wp2_with fail
            go_roundw
            case rel => exact ⟨i, j + 1, rfl, by go_num, by omega, by omega, HDN⟩
            case measure => simp [intOf]; omega
          | false =>
            have HDN := Lib.hid (HD.out.keep h1 HRR.out hs)
            obtain ⟨u0, t0⟩ := HD.out.some_ (x := i) (by omega)
            have z0 := HD.out.frozen i
            have hiT : (i : Int) < l.length := by omega
            clear hs
            go_wp2_with fail
            go_roundw
            case rel => exact ⟨i + 1, j + 1, by go_num, by go_num, by omega, by omega, HDN⟩
            case measure => simp [intOf]; omega
        · obtain rfl : j = l.length := by omega
          obtain ⟨w4, hrun, ho4, hg4⟩ := HD.out.clear h1 HCM.out HBG.out HH.out.1 (cap - i)
          have sl1 := intsl_from g l.length cap i hij h1
          have sl2 := intsl_upto g l.length cap i (by omega) h1 (by omega)
          have HO4 := Lib.hid ho4
          have HG4 := Lib.hid hg4
          have hiT : (i : Int) ≤ l.length := by omega
          have hiL : (i : Int) < l.length := by omega
          clear ho4 hg4
          go_wp2_with fail
          go_ret
          exact ⟨_, rfl, rfl, HO4.out, HG4.out⟩
end Go.Proofs.Ytpgelebmhhcodaa
