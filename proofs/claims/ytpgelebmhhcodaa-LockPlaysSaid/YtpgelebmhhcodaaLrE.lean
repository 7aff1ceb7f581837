/- Contract of the document's table of locks: Take. -/
import Derived.Test.YtpgelebmhhcodaaLrD
namespace Go.Proofs.Ytpgelebmhhcodaa
open Go.RowKit
set_option linter.unusedVariables false

theorem Tr.appendN {w : World} {X : Nat} {v : Value} {T : List HoldD} (h : Tr w X v T) (r : HoldD) (hr : r.W) (hl : T.length < 10000) {W : World} (hb : Below w.heap.size w W) :
    ∃ gb cap w3, (Builtin.append_ #[59, 59] 59 #[v, .slice (some ⟨W.heap.size, 0, none⟩) 1 1]).run Try.prog (W.alloc (.cells #[.int .i64 r.s, .int .i64 r.key, .int .i64 r.mode] 119)) = .ok (.slice (some ⟨gb, 0, none⟩) (T.length + 1) cap) w3 ∧
      (w3.cell? ⟨X, 0, none⟩ = some v ∧ w3.frozen? ⟨X, 0, none⟩ = false) ∧
      Tr (w3.setCell ⟨X, 0, none⟩ (.slice (some ⟨gb, 0, none⟩) (T.length + 1) cap)) X (.slice (some ⟨gb, 0, none⟩) (T.length + 1) cap) (T ++ [r]) ∧
      Ext (Tr.F X v) w (Tr.F X (.slice (some ⟨gb, 0, none⟩) (T.length + 1) cap)) (w3.setCell ⟨X, 0, none⟩ (.slice (some ⟨gb, 0, none⟩) (T.length + 1) cap)) := by
  have hba : Below w.heap.size w (W.alloc (.cells #[.int .i64 r.s, .int .i64 r.key, .int .i64 r.mode] 119)) := hb.alloc hb.size _
  have ha := h.below hba
  obtain ⟨gb, cap, w3, hrun, ho3, hg3, hat⟩ := ha.own.append1 r hr (Nat.zero_le _) (by omega) W.heap.size (heap_alloc_new W _) 1 59
  obtain ⟨k1, hlg, hx⟩ := h.put hba hg3 ho3 (fun b e => by
    have e' : gb = b := by simpa [Value.ownBlock] using e
    rcases hat with h1 | h1
    · exact .inl (by rw [← e']; exact h1)
    · exact .inr (by rw [← e', h1]; exact Nat.le_refl _)) (by rw [List.length_append]; simp; omega)
  exact ⟨gb, cap, w3, hrun, k1, hlg, hx⟩

set_option maxRecDepth 20000 in
set_option maxHeartbeats 4000000 in
theorem refTake {w : World} {X : Nat} {v : Value} {T : List HoldD} (h : Tr w X v T) (hone : OneH T) (hl : T.length ≤ 500) (s key mode : Int) (hs : I64L s) (hk : I64L key) :
    Calls Try.prog 33 #[.pointer (some ⟨X, 0, none⟩), .int .i64 s, .int .i64 key, .int .i64 mode] w fun e w' => e = .returned (.bool (takeT T s key mode).1) ∧ ∃ v', Tr w' X v' (takeT T s key mode).2 ∧ Ext (Tr.F X v) w (Tr.F X v') w' := by
  have HL := Lib.hid hl
  have hwho := refWho h hone hl s key mode
  obtain ⟨o, cap, rfl, h1, h2, _, _⟩ := h.own.form
  unfold maxLen at h2
  have HT := Lib.hid h
  obtain ⟨L, hL⟩ : ∃ L, L = (whoT T s key mode).length := ⟨_, rfl⟩
  rw [← hL] at hwho
  have HWHO := Lib.hid hwho
  have HSK := Lib.hid (And.intro hs hk)
  obtain ⟨R, hR⟩ : ∃ R, R = takeT T s key mode := ⟨_, rfl⟩
  rw [← hR]
  have hR2 : R = if (isM mode && decide (L = 0)) = true then (true, if idxG s key T 0 < 0 then T ++ [⟨s, key, mode⟩] else setM T (idxG s key T 0).toNat (max (T.getD (idxG s key T 0).toNat ⟨0, 0, 1⟩).mode mode)) else (false, T) := by
    rw [hR]
    unfold takeT
    have e : (isM mode = true ∧ whoT T s key mode = []) ↔ (isM mode && decide (L = 0)) = true := by
      rw [hL]; simp
    by_cases hc : isM mode = true ∧ whoT T s key mode = []
    · rw [if_pos hc, if_pos (e.1 hc)]
    · rw [if_neg hc, if_neg (fun h => hc (e.2 h))]
  have HR := Lib.hid hR2
  obtain ⟨tb, htb⟩ : ∃ tb, tb = (isM mode && decide (L = 0)) := ⟨_, rfl⟩
  rw [← htb] at HR
  have HTB := Lib.hid htb
  obtain ⟨n, hn⟩ : ∃ n, n = T.length := ⟨_, rfl⟩
  have HN := Lib.hid hn
  rw [← hn] at h1 HT ⊢
  clear h hwho hs hk hR hR2 hone hl hL htb hn
  go_enter Try.func33, Try.ntmps33
  go_upto_region 1 with fail
  go_cut [24] from 10 (fun s24 wx => s24 = .bool (!tb) ∧ Hid (Below w.heap.size w wx))
  case first =>
    by_cases m1 : mode = 1
    · subst m1
      go_wp2_with fail
      refine HWHO.out.mono ?_
      clear HWHO
      rintro e w3 ⟨⟨o3, c3, rfl, _⟩, hb3⟩
      have HB3 := Lib.hid hb3
      clear hb3
      by_cases l0 : L = 0
      · subst l0
        go_wp2_with fail
        go_meet
        exact ⟨by rw [HTB.out]; rfl, HB3⟩
      · have l1 : (0 : Int) < L := by omega
        go_wp2_with fail
        go_meet
        exact ⟨by rw [HTB.out]; simp [l0]; omega, HB3⟩
    · by_cases m2 : mode = 2
      · subst m2
        go_wp2_with fail
        refine HWHO.out.mono ?_
        clear HWHO
        rintro e w3 ⟨⟨o3, c3, rfl, _⟩, hb3⟩
        have HB3 := Lib.hid hb3
        clear hb3
        by_cases l0 : L = 0
        · subst l0
          go_wp2_with fail
          go_meet
          exact ⟨by rw [HTB.out]; rfl, HB3⟩
        · have l1 : (0 : Int) < L := by omega
          go_wp2_with fail
          go_meet
          exact ⟨by rw [HTB.out]; simp [l0]; omega, HB3⟩
      · have b1 : (mode != 1) = true := by simp [m1]
        have b2 : (mode != 2) = true := by simp [m2]
        clear HWHO
        go_wp2_with fail
        go_meet
        exact ⟨by rw [HTB.out]; simp [isM, m1, m2], Lib.hid (Below.refl _ _)⟩
  obtain ⟨rfl, HB⟩ := hcut
  cases tb with
  | false =>
    have HX : Hid (R = (false, T)) := Lib.hid (by rw [HR.out, if_neg (by simp)])
    clear HR HTB
    go_wp2_with fail
    go_ret
    exact ⟨by rw [HX.out]; rfl, _, by rw [HX.out]; exact HT.out.below HB.out, Ext.of_below HB.out⟩
  | true =>
    have HX : Hid (R = (true, if idxG s key T 0 < 0 then T ++ [⟨s, key, mode⟩] else setM T (idxG s key T 0).toNat (max (T.getD (idxG s key T 0).toNat ⟨0, 0, 1⟩).mode mode))) := Lib.hid (by rw [HR.out, if_pos rfl])
    have hmm : mode = 1 ∨ mode = 2 := by
      have := HTB.out
      by_cases m1 : mode = 1
      · exact .inl m1
      · by_cases m2 : mode = 2
        · exact .inr m2
        · simp [isM, m1, m2] at this
    have HMM := Lib.hid hmm
    clear HR HTB hmm HWHO
    have HT3 := Lib.hid (HT.out.below HB.out)
    obtain ⟨x0, x1⟩ := HT3.out.cell
    go_wp2_with fail
    go_loopw [9] (fun s9 wx => ∃ k : Nat, s9 = .int .i64 k ∧ k ≤ n ∧ wc = wx ∧ Hid (idxG s key T 0 = idxG s key (T.drop k) k)) (fun s9 _ => n - (intOf s9).toNat)
    case atStart => exact ⟨0, rfl, by omega, rfl, Lib.hid (by rw [List.drop_zero])⟩
    case round =>
      obtain ⟨k, rfl, hk, rfl, HI⟩ := hrel
      by_cases hkn : (k : Int) < n
      · obtain ⟨g, r, rfl, _, _, hr, hrw, q0, q1, q2⟩ := HT3.out.own.at_ (k := k) (by rw [← HN.out]; omega)
        have hdrop : T.drop k = r :: T.drop (k + 1) := by
          obtain ⟨hlt, he⟩ := List.getElem?_eq_some_iff.1 hr
          rw [List.drop_eq_getElem_cons hlt, he]
        have hstep := HI.out
        rw [hdrop, idxG] at hstep
        by_cases hh : hereT s key r = true
        · rw [if_pos hh] at hstep
          have hlk : ¬ ((k : Int) < 0) := by omega
          have hgd : T.getD k ⟨0, 0, 1⟩ = r := by rw [List.getD_eq_getElem?_getD, hr]; rfl
          rw [hstep, if_neg hlk, Int.toNat_natCast, hgd] at HX
          have hfz : wc.frozen? ⟨g, k * 3 + 2, none⟩ = false := by
            rcases HT3.out.own.2.2 with ⟨e, _⟩ | ⟨g', cap', cur, e, _, hg, _⟩
            · simp at e
            · simp only [Value.slice.injEq, Option.some.injEq, Addr.mk.injEq, and_true] at e
              obtain ⟨rfl, _, _⟩ := e
              exact rowFrozen hg _
          have hrm := hrw.mode
          have hkl : k < T.length := by rw [← HN.out]; omega
          have hset := HT3.out.setM k hkl (max r.mode mode) (by have := HMM.out; omega)
          have HSET := Lib.hid hset
          unfold hereT at hh
          obtain ⟨rs, rk, rm⟩ := r
          dsimp only at q0 q1 q2 HX HSET hrm hh
          obtain ⟨rfl, rfl⟩ : rs = s ∧ rk = key := by simpa using hh
          clear hr hrw hdrop hstep hgd hset hh HI hlk
          by_cases hmx : rm < mode
          · have hmx2 : max rm mode = mode := by omega
            rw [hmx2] at HX HSET
            go_wp2_with fail
            go_region_law (fail)
            all_goals
              go_wp2_with fail
              go_ret
              exact ⟨by rw [HX.out]; rfl, _, by rw [HX.out]; exact HSET.out.1.below ((Below.refl _ _).drew), (Ext.of_below HB.out).trans (HSET.out.2.trans (Ext.of_below ((Below.refl _ _).drew)))⟩
          · have hmx2 : max rm mode = rm := by omega
            rw [hmx2] at HX HSET
            go_wp2_with fail
            go_region_law (fail)
            all_goals
              go_wp2_with fail
              go_ret
              exact ⟨by rw [HX.out]; rfl, _, by rw [HX.out]; exact HSET.out.1.below ((Below.refl _ _).drew), (Ext.of_below HB.out).trans (HSET.out.2.trans (Ext.of_below ((Below.refl _ _).drew)))⟩
        · rw [if_neg hh] at hstep
          have HI2 := Lib.hid hstep
          unfold hereT at hh
          obtain ⟨rs, rk, rm⟩ := r
          dsimp only at q0 q1 q2 hh
          clear hr hrw hdrop hstep HI
          by_cases e1 : rs = s
          · have b2 : (rk == key) = false := by simpa [e1] using hh
            subst e1
            clear hh
            go_wp2_with fail
            go_roundw
            case rel => exact ⟨k + 1, by go_num, by omega, trivial, HI2⟩
            case measure => simp [intOf]; omega
          · have b1 : (rs == s) = false := by simp [e1]
            clear hh
            go_wp2_with fail
            go_roundw
            case rel => exact ⟨k + 1, by go_num, by omega, trivial, HI2⟩
            case measure => simp [intOf]; omega
      · have hi : idxG s key T 0 = -1 := by rw [HI.out, List.drop_eq_nil_of_le (by rw [← HN.out]; omega)]; rfl
        rw [hi, if_pos (by omega)] at HX
        obtain ⟨gb, cap5, w5, hrun, ⟨k1, k2⟩, htb, hx⟩ := HT.out.appendN ⟨s, key, mode⟩ ⟨HSK.out.1, HSK.out.2, HMM.out⟩ (by have := HL.out; omega) HB.out
        dsimp only at hrun
        have hlaid := held_laid s key mode
        rw [← HN.out] at hrun htb hx
        have HTB := Lib.hid htb
        have HXX := Lib.hid hx
        clear htb hx hi HI
        go_wp2_with (at_builtin; refine Lib.wpList_append_run _ rfl _ _ _ _ rfl _ _ rfl rfl _ _ hrun ?_)
        go_ret
        exact ⟨by rw [HX.out]; rfl, _, by rw [HX.out]; exact HTB.out, HXX.out⟩
end Go.Proofs.Ytpgelebmhhcodaa
