/- Contracts of the document's table of locks: Who, Free. -/
import Derived.Test.YtpgelebmhhcodaaLrC
import Derived.Test.YtpgelebmhhcodaaLkR
import Derived.Deep.RegionLaw
namespace Go.Proofs.Ytpgelebmhhcodaa
open Go.RowKit
set_option linter.unusedVariables false

theorem way_ref (s key mode : Int) (r : HoldD) : wayT s key mode r = (!(r.s == s) && (r.key == key && (mode == 2 || (mode == 1 && r.mode == 2)))) := by
  have hcd : ((mode == 1) && (mode == 2)) = false := by by_cases h : mode = 1 <;> simp [h]
  have key5 : ∀ a b c d e : Bool, (d && c) = false → ((d || c) && (b && ((!a) && (c || e)))) = ((!a) && (b && (c || (d && e)))) := by decide
  unfold wayT isM
  exact key5 (r.s == s) (r.key == key) (mode == 2) (mode == 1) (r.mode == 2) hcd
set_option maxRecDepth 20000 in
set_option maxHeartbeats 4000000 in
theorem refWho {w : World} {X : Nat} {v : Value} {T : List HoldD} (h : Tr w X v T) (hone : OneH T) (hl : T.length ≤ 500) (s key mode : Int) :
    Calls Try.prog 32 #[.pointer (some ⟨X, 0, none⟩), .int .i64 s, .int .i64 key, .int .i64 mode] w fun e w' => (∃ o c, e = .returned (.slice o (whoT T s key mode).length c) ∧ Ns .i64 w' (.slice o (whoT T s key mode).length c) (whoT T s key mode)) ∧ Below w.heap.size w w' := by
  obtain ⟨o, cap, rfl, h1, h2, _, _⟩ := h.own.form
  have HT := Lib.hid h
  have HONE := Lib.hid hone
  unfold maxLen at h2
  obtain ⟨n, hn⟩ : ∃ n, n = T.length := ⟨_, rfl⟩
  rw [← hn] at h1 hl HT
  have HN := Lib.hid hn
  have hc0 : ∀ W, Below w.heap.size w W → W.cell? ⟨X, 0, none⟩ = some (.slice o n cap) := fun W hb => (HT.out.below hb).cell.1
  have HC := Lib.hid hc0
  have c0 := hc0 w (Below.refl _ _)
  clear h hn hc0 hone
  go_enter Try.func32, Try.ntmps32
  go_wp2_with fail
  clear c0
  go_loopw [9, 10] (fun s5 s6 wr => ∃ k : Nat, s6 = .int .i64 k ∧ k ≤ n ∧ Hid (Below w.heap.size w wr) ∧ ∃ o5 m5 c5, s5 = .slice o5 m5 c5 ∧ Hid (Ns .i64 wr (.slice o5 m5 c5) (riseAll (whoL (T.take k) s key mode)))) (fun _ s6 _ => n - (intOf s6).toNat)
  case atStart => exact ⟨0, rfl, by omega, Lib.hid (Below.refl _ _), none, 0, 0, rfl, Lib.hid (Ns.nil _ _)⟩
  case round =>
    obtain ⟨k, rfl, hk, HB, o5, m5, c5, rfl, HS⟩ := hrel
    have c0 := HC.out wr HB.out
    by_cases hkn : (k : Int) < n
    · obtain ⟨g, r, rfl, _, _, hr, hrw, q0, q1, q2⟩ := (HT.out.below HB.out).own.at_ (k := k) (by rw [← HN.out]; omega)
      have hst := whoL_step T s key mode k r hr
      rw [way_ref] at hst
      have hlen : (riseAll (whoL (T.take k) s key mode)).length ≤ 1000 := by
        have a1 := riseAll_len (whoL (T.take k) s key mode)
        have a2 := whoL_len (T.take k) s key mode
        have a3 := List.length_take_le k T
        omega
      have HLEN := Lib.hid hlen
      have HST := Lib.hid hst
      have HRW := Lib.hid hrw
      obtain ⟨W1, hW1⟩ : ∃ W, W = wr.alloc (.cells #[.int .i64 r.s, .int .i64 r.key, .int .i64 r.mode] 119) := ⟨_, rfl⟩
      have hb1 : Below wr.heap.size wr W1 := by rw [hW1]; exact (Below.refl _ _).alloc (Nat.le_refl _) _
      have HB1 := Lib.hid (HB.out.trans (hb1.mono HB.out.size))
      have HS1 := Lib.hid (HS.out.below hb1)
      have f0 : W1.cell? ⟨wr.heap.size, 0, none⟩ = some (.int .i64 r.s) := by rw [hW1]; exact cell_of_row _ _ 0 _ _ (0, 0) (heap_alloc_new wr _)
      have f1 : W1.cell? ⟨wr.heap.size, 1, none⟩ = some (.int .i64 r.key) := by rw [hW1]; exact cell_of_row _ _ 1 _ _ (0, 0) (heap_alloc_new wr _)
      have f2 : W1.cell? ⟨wr.heap.size, 2, none⟩ = some (.int .i64 r.mode) := by rw [hW1]; exact cell_of_row _ _ 2 _ _ (0, 0) (heap_alloc_new wr _)
      have HW1 := Lib.hid hW1
      obtain ⟨rs, rk, rm⟩ := r
      dsimp only at q0 q1 q2 f0 f1 f2 HST HW1 HRW
      clear hr hrw hst hlen hb1 hW1 HS HB
      go_upto_region 6 with fail
      rw [← HW1.out]
      generalize wr.heap.size = A at f0 f1 f2 ⊢
      clear HW1 q0 q1 q2 c0
      go_cut [50] from 12 to 54 (fun s50 wx => s50 = .bool (!(rs == s) && (rk == key && (mode == 2 || (mode == 1 && rm == 2)))) ∧ W1 = wx)
      case first =>
        clear HST
        by_cases e1 : rs = s
        · subst e1
          go_wp2_with fail
          go_meet
          exact ⟨by simp_all, rfl⟩
        · have b1 : (rs != s) = true := by simp [e1]
          have b1' : (rs == s) = false := by simp [e1]
          by_cases e2 : rk = key
          · subst e2
            by_cases m2 : mode = 2
            · subst m2
              go_wp2_with fail
              go_meet
              exact ⟨by simp_all, rfl⟩
            · have b2 : (mode == 2) = false := by simp [m2]
              by_cases m1 : mode = 1
              · subst m1
                go_wp2_with fail
                go_meet
                exact ⟨by simp_all, rfl⟩
              · have b3 : (mode == 1) = false := by simp [m1]
                go_wp2_with fail
                go_meet
                exact ⟨by simp_all, rfl⟩
          · have b2 : (rk == key) = false := by simp [e2]
            go_wp2_with fail
            go_meet
            exact ⟨by simp_all, rfl⟩
      obtain ⟨rfl, rfl⟩ := hcut
      generalize (!(rs == s) && (rk == key && (mode == 2 || (mode == 1 && rm == 2)))) = tst at HST ⊢
      cases tst with
      | true =>
        have hst := HST.out
        rw [if_pos rfl] at hst
        have hri := rising HS1.out HLEN.out rs HRW.out.s
        rw [← riseAll_add, ← hst] at hri
        have HRI := Lib.hid hri
        clear hst hri
        go_wp2_with fail
        refine HRI.out.mono ?_
        clear HRI
        rintro e w4 ⟨⟨o6, m6, c6, rfl, hn6⟩, hb6⟩
        have HB6 := Lib.hid (HB1.out.trans (hb6.mono HB1.out.size))
        have HN6 := Lib.hid hn6
        clear hb6 hn6 f0 f1 f2
        go_wp2_with fail
        go_roundw
        case rel => exact ⟨k + 1, by go_num, by omega, HB6, _, _, _, rfl, HN6⟩
        case measure => simp [intOf]; omega
      | false =>
        have hst := HST.out
        rw [if_neg (by simp), List.append_nil] at hst
        have HS2 := HS1.out
        rw [← hst] at HS2
        have HS3 := Lib.hid HS2
        clear hst HS2 HS1 f0 f1 f2
        go_wp2_with fail
        go_roundw
        case rel => exact ⟨k + 1, by go_num, by omega, HB1, _, _, _, rfl, HS3⟩
        case measure => simp [intOf]; omega
    · have hT : T.take k = T := List.take_of_length_le (by rw [← HN.out]; omega)
      rw [hT, riseAll_who HONE.out] at HS
      obtain rfl : m5 = (whoT T s key mode).length := Ns.len HS.out
      clear hT
      go_wp2_with fail
      go_ret
      exact ⟨⟨_, _, rfl, HS.out⟩, HB.out⟩

theorem held_lie {w : World} {v : Value} {base : Nat} {T : List HoldD} (h : Hr base w v T) (r : HoldD) (hr : r.W) (hbase : base ≤ w.heap.size) (hn : T.length ≤ 100000) :
    ∃ gb cap w', (Builtin.append_ #[59, 59] 59 #[v, .slice (some ⟨w.heap.size, 0, none⟩) 1 1]).run Try.prog (w.alloc (.cells #[.int .i64 r.s, .int .i64 r.key, .int .i64 r.mode] 119)) = .ok (.slice (some ⟨gb, 0, none⟩) (T.length + 1) cap) w' ∧
      Hr base w' (.slice (some ⟨gb, 0, none⟩) (T.length + 1) cap) (T ++ [r]) ∧ (w.alloc (.cells #[.int .i64 r.s, .int .i64 r.key, .int .i64 r.mode] 119)).grownBy w' v.ownBlock := by
  have hb : Below w.heap.size w (w.alloc (.cells #[.int .i64 r.s, .int .i64 r.key, .int .i64 r.mode] 119)) := (Below.refl _ _).alloc (Nat.le_refl _) _
  obtain ⟨gb, cap, w', hrun, ho, hg, _⟩ := (h.below hb).append1 r hr (by simp; omega) (by omega) w.heap.size (heap_alloc_new w _) 1 59
  exact ⟨gb, cap, w', hrun, ho, hg⟩
theorem Hr.grown {base B : Nat} {w0 w w' : World} {v : Value} {T : List HoldD} (h : Hr base w v T) (hg : w.grownBy w' v.ownBlock) (hb : Below B w0 w) (h1 : B ≤ base) (h2 : B ≤ w.heap.size) : Below B w0 w' :=
  hb.grown hg h2 fun k hk => Nat.le_trans h1 (h.lt hk).1
theorem Hr.mono {base base' : Nat} {w : World} {v : Value} {T : List HoldD} (h : Hr base w v T) (hb : base' ≤ base) : Hr base' w v T := by
  refine ⟨h.1, h.2.1, ?_⟩
  rcases h.2.2 with hn | ⟨g, cap, cur, hv, hbg, hg, r⟩
  · exact .inl hn
  · exact .inr ⟨g, cap, cur, hv, by omega, hg, r⟩
set_option maxRecDepth 20000 in
set_option maxHeartbeats 4000000 in
theorem refFree {w : World} {X : Nat} {v : Value} {T : List HoldD} (h : Tr w X v T) (hl : T.length ≤ 500) (s : Int) :
    Calls Try.prog 34 #[.pointer (some ⟨X, 0, none⟩), .int .i64 s] w fun e w' => e = .returned (.tuple #[]) ∧ ∃ v', Tr w' X v' (freeT T s) ∧ Ext (Tr.F X v) w (Tr.F X v') w' := by
  obtain ⟨o, cap, rfl, h1, h2, _, _⟩ := h.own.form
  have HT := Lib.hid h
  unfold maxLen at h2
  obtain ⟨n, hn⟩ : ∃ n, n = T.length := ⟨_, rfl⟩
  rw [← hn] at h1 hl HT ⊢
  have HN := Lib.hid hn
  have hc0 : ∀ W, Below w.heap.size w W → W.cell? ⟨X, 0, none⟩ = some (.slice o n cap) := fun W hb => (HT.out.below hb).cell.1
  have HC := Lib.hid hc0
  have c0 := hc0 w (Below.refl _ _)
  clear h hn hc0
  go_enter Try.func34, Try.ntmps34
  go_wp2_with fail
  clear c0
  go_loopw [4, 5] (fun s5 s6 wr => ∃ k : Nat, s6 = .int .i64 k ∧ k ≤ n ∧ Hid (Below w.heap.size w wr) ∧ ∃ o5 m5 c5, s5 = .slice o5 m5 c5 ∧ Hid (Hr w.heap.size wr (.slice o5 m5 c5) (freeT (T.take k) s))) (fun _ s6 _ => n - (intOf s6).toNat)
  case atStart => exact ⟨0, rfl, by omega, Lib.hid (Below.refl _ _), none, 0, 0, rfl, Lib.hid Hr.nil⟩
  case round =>
    obtain ⟨k, rfl, hk, HB, o5, m5, c5, rfl, HS⟩ := hrel
    have c0 := HC.out wr HB.out
    by_cases hkn : (k : Int) < n
    · obtain ⟨g, r, rfl, _, _, hr, hrw, q0, q1, q2⟩ := (HT.out.below HB.out).own.at_ (k := k) (by rw [← HN.out]; omega)
      have hst := freeT_step T s k r hr
      cases hb : (r.s == s) with
      | false =>
        rw [if_neg (by rw [hb]; simp)] at hst
        have hfl : (freeT (T.take k) s).length ≤ 100000 := by
          have a1 := freeT_len (T.take k) s
          have a3 := List.length_take_le k T
          omega
        obtain ⟨gb, cap6, w6, hrun, ho6, hg6⟩ := held_lie HS.out r hrw HB.out.size hfl
        rw [← hst] at ho6
        have hb2 : Below w.heap.size w (wr.alloc (.cells #[.int .i64 r.s, .int .i64 r.key, .int .i64 r.mode] 119)) := HB.out.alloc HB.out.size _
        have hb1 : Below wr.heap.size wr (wr.alloc (.cells #[.int .i64 r.s, .int .i64 r.key, .int .i64 r.mode] 119)) := (Below.refl _ _).alloc (Nat.le_refl _) _
        have HB6 := Lib.hid ((HS.out.below hb1).grown hg6 hb2 (Nat.le_refl _) hb2.size)
        have HO6 := Lib.hid ho6
        have hlaid := held_laid r.s r.key r.mode
        obtain ⟨rs, rk, rm⟩ := r
        dsimp only at q0 q1 q2 hb hrun hlaid
        have e1 : ¬ rs = s := by simpa using hb
        have b1 : (rs != s) = true := by simp [e1]
        clear hr hrw hst hfl ho6 hg6 hb2 hb1 hb e1 HS
        go_wp2_with (first | (at_builtin; refine Lib.wpList_append_run _ rfl _ _ _ _ rfl _ _ rfl rfl _ _ hrun ?_))
        go_roundw
        case rel => exact ⟨k + 1, by go_num, by omega, HB6, _, _, _, rfl, HO6⟩
        case measure => simp [intOf]; omega
      | true =>
        rw [if_pos hb, List.append_nil] at hst
        have HS2 := HS.out
        rw [← hst] at HS2
        have HS3 := Lib.hid HS2
        obtain ⟨rs, rk, rm⟩ := r
        dsimp only at q0 q1 q2 hb
        obtain rfl : rs = s := by simpa using hb
        clear hr hrw hst HS2 HS q1 q2 hb
        go_wp2_with fail
        go_roundw
        case rel => exact ⟨k + 1, by go_num, by omega, HB, _, _, _, rfl, HS3⟩
        case measure => simp [intOf]; omega
    · have hT : T.take k = T := List.take_of_length_le (by rw [← HN.out]; omega)
      rw [hT] at HS
      obtain ⟨⟨k1, k2⟩, htb, hx⟩ := HT.out.put (Below.refl _ _) (grownBy_below HB.out) (HS.out.mono (Nat.zero_le _)) (fun b e => .inr (HS.out.lt e).1) (by have := freeT_len T s; rw [← HN.out] at this; omega)
      have HTB := Lib.hid htb
      have HX := Lib.hid hx
      clear hT htb hx
      go_wp2_with fail
      exact bodyPost_end (results_none rfl _ _ _) rfl ⟨rfl, _, HTB.out, HX.out⟩
end Go.Proofs.Ytpgelebmhhcodaa
