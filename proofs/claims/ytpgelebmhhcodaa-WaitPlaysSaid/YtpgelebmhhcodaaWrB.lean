/- Contracts of the document's graph: Of, Clear, Gone, Wait. -/
import Derived.Test.YtpgelebmhhcodaaWrA
import Derived.Test.YtpgelebmhhcodaaLWaitOf
import Derived.Test.YtpgelebmhhcodaaLkD
import Derived.Deep.RegionLaw
namespace Go.Proofs.Ytpgelebmhhcodaa
open Go.RowKit
set_option linter.unusedVariables false

set_option maxRecDepth 20000 in
set_option maxHeartbeats 1000000 in
theorem wrOf {w : World} {X : Nat} {v : Value} {T : List (Int × Int)} (h : Wr w X v T) (hl : T.length ≤ 900) (s : Int) :
    Calls Try.prog 44 #[.pointer (some ⟨X, 0, none⟩), .int .i64 s] w fun e w' => (∃ o m c, e = .returned (.slice o m c) ∧ Ns .i64 w' (.slice o m c) (ofM T s)) ∧ Below w.heap.size w w' := by
  obtain ⟨o, cap, rfl, h1, h2, _, _⟩ := h.own.form
  have HT := Lib.hid h
  unfold maxLen at h2
  obtain ⟨n, hn⟩ : ∃ n, n = T.length := ⟨_, rfl⟩
  rw [← hn] at h1 hl HT
  have HN := Lib.hid hn
  have hc0 : ∀ W, Below w.heap.size w W → W.cell? ⟨X, 0, none⟩ = some (.slice o n cap) := fun W hb => (HT.out.below hb).cell.1
  have HC := Lib.hid hc0
  have c0 := hc0 w (Below.refl _ _)
  clear h hn hc0
  go_enter Try.func44, Try.ntmps44
  go_wp2_with fail
  clear c0
  go_loopw [5, 6] (fun s5 s6 wr => ∃ k : Nat, s6 = .int .i64 k ∧ k ≤ n ∧ Hid (Below w.heap.size w wr) ∧ ∃ o5 m5 c5, s5 = .slice o5 m5 c5 ∧ Hid (Ns .i64 wr (.slice o5 m5 c5) (riseAll (ofL (T.take k) s)))) (fun _ s6 _ => n - (intOf s6).toNat)
  case atStart => exact ⟨0, rfl, by omega, Lib.hid (Below.refl _ _), none, 0, 0, rfl, Lib.hid (Ns.nil _ _)⟩
  case round =>
    obtain ⟨k, rfl, hk, HB, o5, m5, c5, rfl, HS⟩ := hrel
    have c0 := HC.out wr HB.out
    by_cases hkn : (k : Int) < n
    · obtain ⟨g, r, rfl, hr, _, hrw, q0, q1⟩ := (HT.out.below HB.out).own.at_ (k := k) (by rw [← HN.out]; omega)
      have hst := ofL_step T s k r hr
      have hlen : (riseAll (ofL (T.take k) s)).length ≤ 1000 := by
        have a1 := riseAll_len (ofL (T.take k) s)
        have a2 := ofL_len (T.take k) s
        have a3 := List.length_take_le k T
        omega
      cases hb : (r.1 == s) with
      | true =>
        rw [if_pos hb] at hst
        have hri := rising HS.out hlen r.2 hrw
        rw [← riseAll_add, ← hst] at hri
        have HRI := Lib.hid hri
        obtain ⟨rs, rk⟩ := r
        dsimp only at q0 q1 hb HRI
        obtain rfl : rs = s := by simpa using hb
        clear hr hrw hst hri hb hlen
        go_wp2_with fail
        refine HRI.out.mono ?_
        clear HRI
        rintro e w4 ⟨⟨o6, m6, c6, rfl, hn6⟩, hb6⟩
        have HB6 := Lib.hid (HB.out.trans (hb6.mono HB.out.size))
        have HN6 := Lib.hid hn6
        clear hb6 hn6 c0 q0 q1
        go_wp2_with fail
        go_roundw
        case rel => exact ⟨k + 1, by go_num, by omega, HB6, _, _, _, rfl, HN6⟩
        case measure => simp [intOf]; omega
      | false =>
        rw [if_neg (by rw [hb]; simp), List.append_nil] at hst
        have HS2 := HS.out
        rw [← hst] at HS2
        have HS3 := Lib.hid HS2
        obtain ⟨rs, rk⟩ := r
        dsimp only at q0 q1 hb
        clear hr hrw hst HS2 HS q1 hlen
        go_wp2_with fail
        go_roundw
        case rel => exact ⟨k + 1, by go_num, by omega, HB, _, _, _, rfl, HS3⟩
        case measure => simp [intOf]; omega
    · have hT : T.take k = T := List.take_of_length_le (by rw [← HN.out]; omega)
      rw [hT] at HS
      clear hT
      go_wp2_with fail
      go_ret
      exact ⟨⟨_, _, _, rfl, HS.out⟩, HB.out⟩

set_option maxRecDepth 20000 in
set_option maxHeartbeats 4000000 in
theorem wrClear {w : World} {X : Nat} {v : Value} {T : List (Int × Int)} (h : Wr w X v T) (hl : T.length ≤ 900) (s : Int) :
    Calls Try.prog 40 #[.pointer (some ⟨X, 0, none⟩), .int .i64 s] w fun e w' => e = .returned (.tuple #[]) ∧ ∃ v', Wr w' X v' (clearP T s) ∧ Ext (Wr.F X v) w (Wr.F X v') w' := by
  obtain ⟨o, cap, rfl, h1, h2, _, _⟩ := h.own.form
  have HT := Lib.hid h
  unfold maxLen at h2
  obtain ⟨n, hn⟩ : ∃ n, n = T.length := ⟨_, rfl⟩
  rw [← hn] at h1 hl HT ⊢
  have HN := Lib.hid hn
  have hc0 : ∀ W, Below w.heap.size w W → W.cell? ⟨X, 0, none⟩ = some (.slice o n cap) := fun W hb => (HT.out.below hb).cell.1
  have HC := Lib.hid hc0
  have c0 := hc0 w (Below.refl _ _)
  clear h hn hc0
  go_enter Try.func40, Try.ntmps40
  go_wp2_with fail
  clear c0
  go_loopw [4, 5] (fun s5 s6 wr => ∃ k : Nat, s6 = .int .i64 k ∧ k ≤ n ∧ Hid (Below w.heap.size w wr) ∧ ∃ o5 m5 c5, s5 = .slice o5 m5 c5 ∧ Hid (Wp w.heap.size wr (.slice o5 m5 c5) (clearP (T.take k) s))) (fun _ s6 _ => n - (intOf s6).toNat)
  case atStart => exact ⟨0, rfl, by omega, Lib.hid (Below.refl _ _), none, 0, 0, rfl, Lib.hid Wp.nil⟩
  case round =>
    obtain ⟨k, rfl, hk, HB, o5, m5, c5, rfl, HS⟩ := hrel
    have c0 := HC.out wr HB.out
    by_cases hkn : (k : Int) < n
    · obtain ⟨g, r, rfl, hr, hr1, hr2, q0, q1⟩ := (HT.out.below HB.out).own.at_ (k := k) (by rw [← HN.out]; omega)
      have hst := clearP_step T s k r hr
      cases hb : (r.1 == s) with
      | false =>
        rw [if_neg (by rw [hb]; simp)] at hst
        have hfl : (clearP (T.take k) s).length ≤ 100000 := by
          have a1 := clearP_len (T.take k) s
          have a3 := List.length_take_le k T
          omega
        obtain ⟨gb, cap6, w6, hrun, ho6, hg6, _⟩ := HS.out.append1 r.1 r.2 hr1 hr2 HB.out.size hfl
        rw [← hst] at ho6
        have hb2 : Below w.heap.size w (wr.alloc (.cells #[.int .i64 r.1, .int .i64 r.2] 123)) := HB.out.alloc HB.out.size _
        have hb1 : Below wr.heap.size wr (wr.alloc (.cells #[.int .i64 r.1, .int .i64 r.2] 123)) := (Below.refl _ _).alloc (Nat.le_refl _) _
        have HB6 := Lib.hid ((HS.out.below hb1).grown hg6 hb2 (Nat.le_refl _) hb2.size)
        have HO6 := Lib.hid ho6
        have hlaid := pair_laid r.1 r.2
        obtain ⟨rs, rk⟩ := r
        dsimp only at q0 q1 hb hrun hlaid
        have e1 : ¬ rs = s := by simpa using hb
        have b1 : (rs != s) = true := by simp [e1]
        clear hr hst hfl ho6 hg6 hb2 hb1 hb e1 HS hr1 hr2
        go_wp2_with (first | (at_builtin; refine Lib.wpList_append_run _ rfl _ _ _ _ rfl _ _ rfl rfl _ _ hrun ?_))
        go_roundw
        case rel => exact ⟨k + 1, by go_num, by omega, HB6, _, _, _, rfl, HO6⟩
        case measure => simp [intOf]; omega
      | true =>
        rw [if_pos hb, List.append_nil] at hst
        have HS2 := HS.out
        rw [← hst] at HS2
        have HS3 := Lib.hid HS2
        obtain ⟨rs, rk⟩ := r
        dsimp only at q0 q1 hb
        obtain rfl : rs = s := by simpa using hb
        clear hr hst HS2 HS q1 hb hr1 hr2
        go_wp2_with fail
        go_roundw
        case rel => exact ⟨k + 1, by go_num, by omega, HB, _, _, _, rfl, HS3⟩
        case measure => simp [intOf]; omega
    · have hT : T.take k = T := List.take_of_length_le (by rw [← HN.out]; omega)
      rw [hT] at HS
      obtain ⟨⟨k1, k2⟩, htb, hx⟩ := HT.out.put (Below.refl _ _) (grownBy_below HB.out) (HS.out.mono (Nat.zero_le _)) (fun b e => .inr (HS.out.lt e).1) (by have := clearP_len T s; rw [← HN.out] at this; omega)
      have HTB := Lib.hid htb
      have HX := Lib.hid hx
      clear hT htb hx
      go_wp2_with fail
      exact bodyPost_end (results_none rfl _ _ _) rfl ⟨rfl, _, HTB.out, HX.out⟩

set_option maxRecDepth 20000 in
set_option maxHeartbeats 4000000 in
theorem wrGone {w : World} {X : Nat} {v : Value} {T : List (Int × Int)} (h : Wr w X v T) (hl : T.length ≤ 900) (s : Int) :
    Calls Try.prog 42 #[.pointer (some ⟨X, 0, none⟩), .int .i64 s] w fun e w' => e = .returned (.tuple #[]) ∧ ∃ v', Wr w' X v' (goneP T s) ∧ Ext (Wr.F X v) w (Wr.F X v') w' := by
  have hcl := wrClear h hl s
  have HCL := Lib.hid hcl
  have hle := clearP_len T s
  unfold goneP
  generalize clearP T s = V at HCL hle ⊢
  have hl2 : V.length ≤ 900 := by omega
  clear h hcl hle hl
  go_enter Try.func42, Try.ntmps42
  go_wp2_with fail
  refine HCL.out.mono ?_
  clear HCL
  rintro e w1 ⟨rfl, v1, hw1, hx1⟩
  obtain ⟨o, cap, rfl, h1, h2, _, _⟩ := hw1.own.form
  have HT := Lib.hid hw1
  have HX1 := Lib.hid hx1
  unfold maxLen at h2
  obtain ⟨n, hn⟩ : ∃ n, n = V.length := ⟨_, rfl⟩
  rw [← hn] at h1 hl2 HT HX1
  have HN := Lib.hid hn
  have hc0 : ∀ W, Below w1.heap.size w1 W → W.cell? ⟨X, 0, none⟩ = some (.slice o n cap) := fun W hb => (HT.out.below hb).cell.1
  have HC := Lib.hid hc0
  have c0 := hc0 w1 (Below.refl _ _)
  clear hw1 hx1 hn hc0
  go_wp2_with fail
  clear c0
  go_loopw [4, 5] (fun s5 s6 wr => ∃ k : Nat, s6 = .int .i64 k ∧ k ≤ n ∧ Hid (Below w1.heap.size w1 wr) ∧ ∃ o5 m5 c5, s5 = .slice o5 m5 c5 ∧ Hid (Wp w1.heap.size wr (.slice o5 m5 c5) ((V.take k).filter fun p => !(p.2 == s)))) (fun _ s6 _ => n - (intOf s6).toNat)
  case atStart => exact ⟨0, rfl, by omega, Lib.hid (Below.refl _ _), none, 0, 0, rfl, Lib.hid Wp.nil⟩
  case round =>
    obtain ⟨k, rfl, hk, HB, o5, m5, c5, rfl, HS⟩ := hrel
    have c0 := HC.out wr HB.out
    by_cases hkn : (k : Int) < n
    · obtain ⟨g, r, rfl, hr, hr1, hr2, q0, q1⟩ := (HT.out.below HB.out).own.at_ (k := k) (by rw [← HN.out]; omega)
      have hst := filt2_step V s k r hr
      cases hb : (r.2 == s) with
      | false =>
        rw [if_neg (by rw [hb]; simp)] at hst
        have hfl : ((V.take k).filter fun p => !(p.2 == s)).length ≤ 100000 := by
          have a1 := List.length_filter_le (fun p : Int × Int => !(p.2 == s)) (V.take k)
          have a3 := List.length_take_le k V
          omega
        obtain ⟨gb, cap6, w6, hrun, ho6, hg6, _⟩ := HS.out.append1 r.1 r.2 hr1 hr2 HB.out.size hfl
        rw [← hst] at ho6
        have hb2 : Below w1.heap.size w1 (wr.alloc (.cells #[.int .i64 r.1, .int .i64 r.2] 123)) := HB.out.alloc HB.out.size _
        have hb1 : Below wr.heap.size wr (wr.alloc (.cells #[.int .i64 r.1, .int .i64 r.2] 123)) := (Below.refl _ _).alloc (Nat.le_refl _) _
        have HB6 := Lib.hid ((HS.out.below hb1).grown hg6 hb2 (Nat.le_refl _) hb2.size)
        have HO6 := Lib.hid ho6
        have hlaid := pair_laid r.1 r.2
        obtain ⟨rs, rk⟩ := r
        dsimp only at q0 q1 hb hrun hlaid
        have e1 : ¬ rk = s := by simpa using hb
        have b1 : (rk != s) = true := by simp [e1]
        clear hr hst hfl ho6 hg6 hb2 hb1 hb e1 HS hr1 hr2
        go_wp2_with (first | (at_builtin; refine Lib.wpList_append_run _ rfl _ _ _ _ rfl _ _ rfl rfl _ _ hrun ?_))
        go_roundw
        case rel => exact ⟨k + 1, by go_num, by omega, HB6, _, _, _, rfl, HO6⟩
        case measure => simp [intOf]; omega
      | true =>
        rw [if_pos hb, List.append_nil] at hst
        have HS2 := HS.out
        rw [← hst] at HS2
        have HS3 := Lib.hid HS2
        obtain ⟨rs, rk⟩ := r
        dsimp only at q0 q1 hb
        obtain rfl : rk = s := by simpa using hb
        clear hr hst HS2 HS q0 hb hr1 hr2
        go_wp2_with fail
        go_roundw
        case rel => exact ⟨k + 1, by go_num, by omega, HB, _, _, _, rfl, HS3⟩
        case measure => simp [intOf]; omega
    · have hT : V.take k = V := List.take_of_length_le (by rw [← HN.out]; omega)
      rw [hT] at HS
      obtain ⟨⟨k1, k2⟩, htb, hx⟩ := HT.out.put (Below.refl _ _) (grownBy_below HB.out) (HS.out.mono (Nat.zero_le _)) (fun b e => .inr (HS.out.lt e).1) (by have := List.length_filter_le (fun p : Int × Int => !(p.2 == s)) V; rw [← HN.out] at this; omega)
      have HTB := Lib.hid htb
      have HX := Lib.hid (HX1.out.trans hx)
      clear hT htb hx
      go_wp2_with fail
      exact bodyPost_end (results_none rfl _ _ _) rfl ⟨rfl, _, HTB.out, HX.out⟩

theorem Wr.appendT {w : World} {X : Nat} {v : Value} {T : List (Int × Int)} (h : Wr w X v T) {a b : Int} (ha : I64L a) (hb : I64L b) (hl : T.length < 10000) :
    ∃ gb cap w3, (Builtin.append_ #[64, 64] 64 #[v, .slice (some ⟨w.heap.size, 0, none⟩) 1 1]).run Try.prog (w.drew.alloc (.cells #[.int .i64 a, .int .i64 b] 123)) = .ok (.slice (some ⟨gb, 0, none⟩) (T.length + 1) cap) w3 ∧
      (w3.cell? ⟨X, 0, none⟩ = some v ∧ w3.frozen? ⟨X, 0, none⟩ = false) ∧
      Wr (w3.setCell ⟨X, 0, none⟩ (.slice (some ⟨gb, 0, none⟩) (T.length + 1) cap)) X (.slice (some ⟨gb, 0, none⟩) (T.length + 1) cap) (T ++ [(a, b)]) ∧
      Ext (Wr.F X v) w (Wr.F X (.slice (some ⟨gb, 0, none⟩) (T.length + 1) cap)) (w3.setCell ⟨X, 0, none⟩ (.slice (some ⟨gb, 0, none⟩) (T.length + 1) cap)) := by
  have hbd : Below w.heap.size w w.drew := (Below.refl _ _).drew
  have hba : Below w.heap.size w (w.drew.alloc (.cells #[.int .i64 a, .int .i64 b] 123)) := hbd.alloc hbd.size _
  obtain ⟨gb, cap, w3, hrun, ho3, hg3, hat⟩ := (h.below hbd).own.append1 a b ha hb (Nat.zero_le _) (by omega)
  obtain ⟨k1, hlg, hx⟩ := h.put hba hg3 ho3 (fun c e => by
    have e' : gb = c := by simpa [Value.ownBlock] using e
    rcases hat with h1 | h1
    · exact .inl (by rw [← e']; exact h1)
    · have h2 : w.drew.heap.size = w.heap.size := rfl
      exact .inr (by rw [h2] at h1; omega)) (by rw [List.length_append]; simp; omega)
  exact ⟨gb, cap, w3, hrun, k1, hlg, hx⟩
theorem waitP_take (T : List (Int × Int)) (s : Int) (who : List Int) (k : Nat) (x : Int) (hx : who[k]? = some x) : waitP T s (who.take (k + 1)) = waitP T s (who.take k) ++ (if (x == s) = true then [] else [(s, x)]) := by
  unfold waitP
  rw [delI_step who s k x hx, List.map_append, List.append_assoc]
  split <;> simp
theorem waitP_len (T : List (Int × Int)) (s : Int) (who : List Int) : (waitP T s who).length ≤ T.length + who.length := by
  unfold waitP
  rw [List.length_append, List.length_map]
  have := clearP_len T s
  have := delI_len who s
  omega
set_option maxRecDepth 20000 in
set_option maxHeartbeats 4000000 in
theorem wrWait {w : World} {X : Nat} {v : Value} {T : List (Int × Int)} (h : Wr w X v T) (hl : T.length ≤ 900) {s : Int} (hs : I64L s) {u : Value} {who : List Int} (hu : Ns .i64 w u who) (hl2 : who.length ≤ 100) (huX : ∀ b, u.ownBlock = some b → ¬ Wr.F X v b) :
    Calls Try.prog 43 #[.pointer (some ⟨X, 0, none⟩), .int .i64 s, u] w fun e w' => e = .returned (.tuple #[]) ∧ ∃ v', Wr w' X v' (waitP T s who) ∧ Ext (Wr.F X v) w (Wr.F X v') w' := by
  have hcl := wrClear h hl s
  have HCL := Lib.hid hcl
  have HU := Lib.hid hu
  have HUX := Lib.hid huX
  have HS := Lib.hid hs
  obtain ⟨m, hm⟩ : ∃ m, m = who.length := ⟨_, rfl⟩
  have HM := Lib.hid hm
  obtain ⟨_, ou, cu, rfl, hu1, hu2, _⟩ := hu
  rw [← hm] at hu1 hl2 HU HUX ⊢
  unfold maxLen at hu2
  have hLN : ∀ k, (waitP T s (who.take k)).length ≤ 1000 := fun k => by
    have a1 := waitP_len T s (who.take k)
    have a2 := List.length_take_le' k who
    omega
  have HLN := Lib.hid hLN
  have HW := Lib.hid h
  clear h hcl hm hs huX hLN
  go_enter Try.func43, Try.ntmps43
  go_wp2_with fail
  refine HCL.out.mono ?_
  clear HCL
  rintro e w1 ⟨rfl, v1, hw1, hx1⟩
  have HW1 : Hid (Wr w1 X v1 (waitP T s (who.take 0))) := Lib.hid (by
    unfold waitP
    rw [List.take_zero]
    simpa [delI] using hw1)
  have HX1 := Lib.hid hx1
  clear hw1 hx1
  go_wp2_with fail
  go_loopw [6] (fun s6 wr => ∃ (k : Nat) (v' : Value), s6 = .int .i64 k ∧ k ≤ m ∧ Hid (Wr wr X v' (waitP T s (who.take k))) ∧ Hid (Ext (Wr.F X v) w (Wr.F X v') wr)) (fun s6 _ => m - (intOf s6).toNat)
  case atStart => exact ⟨0, v1, rfl, by omega, HW1, HX1⟩
  case round =>
    obtain ⟨k, v', rfl, hk, HWk, HXk⟩ := hrel
    clear HW1 HX1
    by_cases hkm : (k : Int) < m
    · obtain ⟨a, x, rfl, hc, hx, hxw⟩ := HU.out.at1 k (by rw [← HM.out]; omega)
      have hab : (a.add k).block = a.block := by unfold Addr.add; split <;> rfl
      have hc2 : wr.cell? (a.add k) = some (.int .i64 x) := (World.cell?_of_block (a := a.add k) (HXk.out.block _ (Below.lt hc) (by rw [hab]; exact HUX.out a.block rfl))).trans hc
      have hst := waitP_take T s who k x hx
      have hlk := HLN.out k
      obtain ⟨x0, x1⟩ := HWk.out.cell
      obtain ⟨o', cap', rfl, hv1, hv2, _, _⟩ := HWk.out.own.form
      unfold maxLen at hv2
      cases hb : (x == s) with
      | true =>
        rw [if_pos hb, List.append_nil] at hst
        have HW2 := HWk.out
        have HX2 := HXk.out
        rw [← hst] at HW2 HX2
        have HW3 := Lib.hid HW2
        have HX3 := Lib.hid HX2
        obtain rfl : x = s := by simpa using hb
        clear hx hc hst hb hab HW2 HX2 x1
        go_wp2_with fail
        go_roundw
        case rel => exact ⟨k + 1, _, by go_num, by omega, HW3, HX3⟩
        case measure => simp [intOf]; omega
      | false =>
        rw [if_neg (by rw [hb]; simp)] at hst
        obtain ⟨gb, cap5, w5, hrun, ⟨k1, k2⟩, htb, hxx⟩ := HWk.out.appendT HS.out hxw (by omega)
        rw [← hst] at htb
        have HTB := Lib.hid htb
        have HXX := Lib.hid (HXk.out.trans hxx)
        have hlt := Below.lt x0
        have hlt2 := Below.lt hc2
        have g6 : (wr.drew.alloc (.cells #[.int .i64 s, .int .i64 x] 123)).cell? ⟨X, 0, none⟩ = some (.slice o' (waitP T s (who.take k)).length cap') := (World.cell?_of_block (a := ⟨X, 0, none⟩) (Below.heap_alloc wr.drew _ _ hlt)).trans x0
        have g7 : (wr.alloc (.cells #[.int .i64 s, .int .i64 x] 123)).cell? ⟨X, 0, none⟩ = some (.slice o' (waitP T s (who.take k)).length cap') := g6
        have g8 : (wr.drew.alloc (.cells #[.int .i64 s, .int .i64 x] 123)).cell? (a.add k) = some (.int .i64 x) := (World.cell?_of_block (a := a.add k) (Below.heap_alloc wr.drew _ _ hlt2)).trans hc2
        have g9 : (wr.alloc (.cells #[.int .i64 s, .int .i64 x] 123)).cell? (a.add k) = some (.int .i64 x) := g8
        have e1 : ¬ x = s := by simpa using hb
        have b1 : (x != s) = true := by simp [e1]
        generalize (waitP T s (who.take k)).length = L5 at hrun htb hxx k1 g6 g7 x0 hv1 hlk HTB HXX ⊢
        clear hx hc hst hb hab htb hxx hlt hlt2 x1 e1
        go_wp2_with fail
        go_region_law ((first
          | (refine step_append_runL _ rfl _ _ _ _ rfl _ _ rfl rfl _ _ hrun ?_)
          | (refine step_bs_runL _ rfl _ _ _ rfl _ rfl _ _ (pair_laid s x _) ?_)))
        all_goals
          go_wp2_with fail
          go_roundw
          case rel => exact ⟨k + 1, _, by go_num, by omega, HTB, HXX⟩
          case measure => simp [intOf]; omega
    · obtain rfl : k = m := by omega
      have hw := HWk.out
      rw [List.take_of_length_le (by rw [← HM.out]; omega)] at hw
      have HWF := Lib.hid hw
      clear hw
      go_wp2_with fail
      exact bodyPost_end (results_none rfl _ _ _) rfl ⟨rfl, _, HWF.out, HXk.out⟩
end Go.Proofs.Ytpgelebmhhcodaa
