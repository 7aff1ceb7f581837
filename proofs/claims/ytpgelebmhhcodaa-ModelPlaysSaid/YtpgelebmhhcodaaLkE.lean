/- Contract: Take. -/
import Derived.Test.YtpgelebmhhcodaaLkD
namespace Go.Proofs.Ytpgelebmhhcodaa
open Go.RowKit
set_option linter.unusedVariables false

theorem idxG_bounds (s key : Int) : ∀ (T : List HoldD) (k : Nat), idxG s key T k = -1 ∨ ((k : Int) ≤ idxG s key T k ∧ idxG s key T k < k + T.length)
  | [], k => .inl rfl
  | h :: T, k => by
    rw [idxG]
    split
    · right; rw [List.length_cons]; omega
    · rcases idxG_bounds s key T (k + 1) with e | e
      · exact .inl e
      · right; rw [List.length_cons]; omega
/-- Take: the answer, the holds -/
def takeT (T : List HoldD) (s key mode : Int) : Bool × List HoldD :=
  if isM mode = true ∧ whoT T s key mode = [] then
    (true, if idxG s key T 0 < 0 then T ++ [⟨s, key, mode⟩] else setM T (idxG s key T 0).toNat (max (T.getD (idxG s key T 0).toNat ⟨0, 0, 1⟩).mode mode))
  else (false, T)

theorem Tb.appendT {w : World} {X : Nat} {v : Value} {T : List HoldD} (h : Tb w X v T) (r : HoldD) (hr : r.W) (hl : T.length < 10000) {W : World} (hb : Below w.heap.size w W) :
    ∃ gb cap w3, (Builtin.append_ #[24, 24] 24 #[v, .slice (some ⟨W.heap.size, 0, none⟩) 1 1]).run Try.prog (W.drew.alloc (.cells #[.int .i64 r.s, .int .i64 r.key, .int .i64 r.mode] 91)) = .ok (.slice (some ⟨gb, 0, none⟩) (T.length + 1) cap) w3 ∧
      (w3.cell? ⟨X, 0, none⟩ = some v ∧ w3.frozen? ⟨X, 0, none⟩ = false) ∧
      Tb (w3.setCell ⟨X, 0, none⟩ (.slice (some ⟨gb, 0, none⟩) (T.length + 1) cap)) X (.slice (some ⟨gb, 0, none⟩) (T.length + 1) cap) (T ++ [r]) ∧
      Ext (Tb.F X v) w (Tb.F X (.slice (some ⟨gb, 0, none⟩) (T.length + 1) cap)) (w3.setCell ⟨X, 0, none⟩ (.slice (some ⟨gb, 0, none⟩) (T.length + 1) cap)) := by
  have hbd : Below w.heap.size w W.drew := hb.drew
  have hba : Below w.heap.size w (W.drew.alloc (.cells #[.int .i64 r.s, .int .i64 r.key, .int .i64 r.mode] 91)) := hbd.alloc hbd.size _
  have ha := h.below hba
  obtain ⟨gb, cap, w3, hrun, ho3, hg3, hat⟩ := ha.own.append1 r hr (Nat.zero_le _) (by omega) W.drew.heap.size (heap_alloc_new W.drew _) 1 24
  obtain ⟨k1, hlg, hx⟩ := h.put hba hg3 ho3 (fun b e => by
    have e' : gb = b := by simpa [Value.ownBlock] using e
    rcases hat with h1 | h1
    · exact .inl (by rw [← e']; exact h1)
    · exact .inr (by rw [← e', h1]; exact Nat.le_refl _)) (by rw [List.length_append]; simp; omega)
  exact ⟨gb, cap, w3, hrun, k1, hlg, hx⟩
theorem Tb.setM {w : World} {X g n cap : Nat} {T : List HoldD} (h : Tb w X (.slice (some ⟨g, 0, none⟩) n cap) T) (k : Nat) (hk : k < T.length) (m : Int) (hm : m = 1 ∨ m = 2) :
    Tb (w.setCell ⟨g, k * 3 + 2, none⟩ (.int .i64 m)) X (.slice (some ⟨g, 0, none⟩) n cap) (Go.Proofs.Ytpgelebmhhcodaa.setM T k m) ∧ Ext (Tb.F X (.slice (some ⟨g, 0, none⟩) n cap)) w (Tb.F X (.slice (some ⟨g, 0, none⟩) n cap)) (w.setCell ⟨g, k * 3 + 2, none⟩ (.int .i64 m)) := by
  have hgX : X ≠ g := fun e => h.vX (by rw [e]; rfl)
  refine ⟨⟨by rw [setCell_otherL w _ _ hgX]; exact h.head, h.own.setM k hk m hm, h.vX, by unfold Go.Proofs.Ytpgelebmhhcodaa.setM; rw [List.length_set]; exact h.len⟩, ext_setCell (.inr rfl) _ _⟩

set_option maxRecDepth 20000 in
set_option maxHeartbeats 4000000 in
theorem tabTake {w : World} {X : Nat} {v : Value} {T : List HoldD} (h : Tb w X v T) (s key mode : Int) (hs : I64L s) (hk : I64L key) (hl : T.length < 10000) :
    Calls Try.prog 16 #[.pointer (some ⟨X, 0, none⟩), .int .i64 s, .int .i64 key, .int .i64 mode] w fun e w' => e = .returned (.bool (takeT T s key mode).1) ∧ ∃ v', Tb w' X v' (takeT T s key mode).2 ∧ Ext (Tb.F X v) w (Tb.F X v') w' := by
  have HT := Lib.hid h
  obtain ⟨W2, hW2⟩ : ∃ W, W = (w.alloc (.cells #[.int .i64 s] 3)).alloc (.cells #[.int .i64 key] 3) := ⟨_, rfl⟩
  have hb2 : Below w.heap.size w W2 := by rw [hW2]; exact ((Below.refl _ _).alloc (Nat.le_refl _) _).alloc (by simp) _
  have d5 : W2.cell? ⟨w.heap.size, 0, none⟩ = some (.int .i64 s) := by rw [hW2]; simp [go_sem]
  have d6 : W2.cell? ⟨w.heap.size + 1, 0, none⟩ = some (.int .i64 key) := by
    rw [hW2]
    have := heap_alloc_new (w.alloc (.cells #[.int .i64 s] 3)) (.cells #[.int .i64 key] 3)
    rw [show (w.alloc (.cells #[.int .i64 s] 3)).heap.size = w.heap.size + 1 from by simp] at this
    exact cell_of_row _ _ 0 _ _ (0, 0) this
  have HIS := Lib.hid (fun W => lockIs mode W)
  have HW2 := Lib.hid hW2
  have HB2 := Lib.hid hb2
  have HWHO := Lib.hid (tabWho (h.below hb2) s key mode)
  have HSK := Lib.hid (And.intro hs hk)
  have hmf : ∀ (fn : Fn) (first cap : Array Value) (w : World), (Instr.makeFunc fn first cap).run Try.prog w = .ok (.func fn first cap) w := fun _ _ _ _ => rfl
  obtain ⟨R, hR⟩ : ∃ R, R = takeT T s key mode := ⟨_, rfl⟩
  rw [← hR]
  have HR := Lib.hid hR
  clear h hW2 hb2 hs hk hR
  go_enter Try.func16, Try.ntmps16
  go_upto_region 1 with fail
  rw [← HW2.out]
  clear HW2
  cases hm : isM mode with
  | false =>
    have HX : Hid (R = (false, T)) := Lib.hid (by rw [HR.out]; unfold takeT; rw [if_neg (by rw [hm]; simp)])
    rw [hm] at HIS
    clear hm HR HWHO
    go_wp2_with fail
    refine (HIS.out _).mono ?_
    rintro e w3 ⟨rfl, rfl⟩
    go_wp2_with fail
    go_ret
    exact ⟨by rw [HX.out]; rfl, v, by rw [HX.out]; exact HT.out.below HB2.out, Ext.of_below HB2.out⟩
  | true =>
    rw [hm] at HIS
    have hmm : mode = 1 ∨ mode = 2 := by
      unfold isM at hm
      simpa using hm
    have HMM := Lib.hid hmm
    by_cases hw : whoT T s key mode = []
    · have hl0 : (whoT T s key mode).length = 0 := by rw [hw]; rfl
      rw [hl0] at HWHO
      have HX : Hid (R = (true, if idxG s key T 0 < 0 then T ++ [⟨s, key, mode⟩] else setM T (idxG s key T 0).toNat (max (T.getD (idxG s key T 0).toNat ⟨0, 0, 1⟩).mode mode))) := Lib.hid (by rw [HR.out]; unfold takeT; rw [if_pos ⟨hm, hw⟩])
      clear hm hmm hw hl0 HR
      go_wp2_with fail
      refine (HIS.out _).mono ?_
      clear HIS
      rintro e w3 ⟨rfl, rfl⟩
      go_wp2_with fail
      refine HWHO.out.mono ?_
      clear HWHO
      rintro e w3 ⟨⟨o3, c3, rfl, _⟩, hb3⟩
      have HB3 := Lib.hid (HB2.out.trans (hb3.mono HB2.out.size))
      have e5 := (hb3.cell (Below.lt d5)).trans d5
      have e6 := (hb3.cell (Below.lt d6)).trans d6
      have hidx := indexTake (HT.out.below HB3.out).own (by omega) s key _ _ e5 e6
      have HIDX := Lib.hid hidx
      obtain ⟨x0, _⟩ := (HT.out.below HB3.out).cell
      clear hb3 d5 d6 hidx HB2
      go_wp2_with fail
      refine HIDX.out.mono ?_
      clear HIDX
      rintro e w4 ⟨rfl, hb4⟩
      have HB4 := Lib.hid (HB3.out.trans (hb4.mono HB3.out.size))
      have f5 := (hb4.cell (Below.lt e5)).trans e5
      have f6 := (hb4.cell (Below.lt e6)).trans e6
      obtain ⟨y0, y1⟩ := (HT.out.below HB4.out).cell
      clear hb4 e5 e6 x0 HB3
      rcases idxG_bounds s key T 0 with hi | ⟨hi0, hi1⟩
      · rw [hi] at HX ⊢
        have HX2 : Hid (R = (true, T ++ [⟨s, key, mode⟩])) := Lib.hid (by rw [HX.out, if_pos (by omega)])
        obtain ⟨gb, cap, w5, hrun, ⟨k1, k2⟩, htb, hx⟩ := HT.out.appendT ⟨s, key, mode⟩ ⟨HSK.out.1, HSK.out.2, HMM.out⟩ hl HB4.out
        dsimp only at hrun
        have HTB := Lib.hid htb
        have HXX := Lib.hid hx
        have hlt := Below.lt y0
        have g6 : (w4.drew.alloc (.cells #[.int .i64 s, .int .i64 key, .int .i64 mode] 91)).cell? ⟨X, 0, none⟩ = some v := (World.cell?_of_block (a := ⟨X, 0, none⟩) (Below.heap_alloc w4.drew _ _ hlt)).trans y0
        have g7 : (w4.alloc (.cells #[.int .i64 s, .int .i64 key, .int .i64 mode] 91)).cell? ⟨X, 0, none⟩ = some v := g6
        clear htb hx hi HX hlt y1
        go_wp2_with fail
        go_region_law ((first
          | (refine step_append_runL _ rfl _ _ _ _ rfl _ _ rfl rfl _ _ hrun ?_)
          | (refine step_bs_runL _ rfl _ _ _ rfl _ rfl _ _ (hold_laid s key mode _) ?_)))
        all_goals
          go_wp2_with fail
          go_ret
          exact ⟨by rw [HX2.out]; rfl, _, by rw [HX2.out]; exact HTB.out, HXX.out⟩
      · obtain ⟨k, hk⟩ : ∃ k : Nat, idxG s key T 0 = k := ⟨(idxG s key T 0).toNat, by omega⟩
        rw [hk] at HX hi0 hi1 ⊢
        rw [Int.toNat_natCast] at HX
        have hkl : k < T.length := by omega
        have hlk : ¬ ((k : Int) < 0) := by omega
        have HTB4 := Lib.hid (HT.out.below HB4.out)
        obtain ⟨ov, cv, rfl, hv1, hv2, _, _⟩ := HTB4.out.own.form
        obtain ⟨g, r, rfl, _, _, hr, hrw, q0, q1, q2⟩ := HTB4.out.own.at_ hkl
        have hgd : T.getD k ⟨0, 0, 1⟩ = r := by rw [List.getD_eq_getElem?_getD, hr]; rfl
        rw [hgd, if_neg hlk] at HX
        have hfz : w4.frozen? ⟨g, k * 3 + 2, none⟩ = false := by
          rcases HTB4.out.own.2.2 with ⟨e, _⟩ | ⟨g', cap', cur, e, _, hg, _⟩
          · simp at e
          · simp only [Value.slice.injEq, Option.some.injEq, Addr.mk.injEq, and_true] at e
            obtain ⟨rfl, _, _⟩ := e
            exact rowFrozen hg _
        have hrm := hrw.mode
        have hset := HTB4.out.setM k hkl (max r.mode mode) (by have := HMM.out; omega)
        have HSET := Lib.hid hset
        unfold maxLen at hv2
        have hkn : (k : Int) < (T.length : Int) := by omega
        clear hk hgd hr hrw hset hi0 q0 q1
        obtain ⟨rs, rk, rm⟩ := r
        dsimp only at q2 HX HSET hrm
        by_cases hmx : rm < mode
        · have hmx2 : max rm mode = mode := by omega
          rw [hmx2] at HX HSET
          go_wp2_with fail
          go_region_law (fail)
          all_goals
            go_wp2_with fail
            go_ret
            exact ⟨by rw [HX.out]; rfl, _, by rw [HX.out]; exact HSET.out.1.below ((Below.refl _ _).drew), (Ext.of_below HB4.out).trans (HSET.out.2.trans (Ext.of_below ((Below.refl _ _).drew)))⟩
        · have hmx2 : max rm mode = rm := by omega
          rw [hmx2] at HX HSET
          go_wp2_with fail
          go_region_law (fail)
          all_goals
            go_wp2_with fail
            go_ret
            exact ⟨by rw [HX.out]; rfl, _, by rw [HX.out]; exact HSET.out.1.below ((Below.refl _ _).drew), (Ext.of_below HB4.out).trans (HSET.out.2.trans (Ext.of_below ((Below.refl _ _).drew)))⟩
    · obtain ⟨m, hm2⟩ : ∃ m, (whoT T s key mode).length = m + 1 := ⟨(whoT T s key mode).length - 1, by have := List.length_pos_iff.2 hw; omega⟩
      rw [hm2] at HWHO
      have HX : Hid (R = (false, T)) := Lib.hid (by rw [HR.out]; unfold takeT; rw [if_neg (fun h => hw h.2)])
      clear hm hmm hw hm2 HR
      go_wp2_with fail
      refine (HIS.out _).mono ?_
      clear HIS
      rintro e w3 ⟨rfl, rfl⟩
      go_wp2_with fail
      refine HWHO.out.mono ?_
      clear HWHO
      rintro e w3 ⟨⟨o3, c3, rfl, _⟩, hb3⟩
      have HB3 := Lib.hid (HB2.out.trans (hb3.mono HB2.out.size))
      clear hb3
      go_wp2_with fail
      go_ret
      exact ⟨by rw [HX.out]; rfl, v, by rw [HX.out]; exact HT.out.below HB3.out, Ext.of_below HB3.out⟩
end Go.Proofs.Ytpgelebmhhcodaa
