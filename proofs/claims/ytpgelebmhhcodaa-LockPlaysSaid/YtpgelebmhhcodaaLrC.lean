/- Contracts of the document's table of locks: Mode, Keys, Held. -/
import Derived.Test.YtpgelebmhhcodaaLrA
import Derived.Test.YtpgelebmhhcodaaLrB
namespace Go.Proofs.Ytpgelebmhhcodaa
open Go.RowKit
set_option linter.unusedVariables false

set_option maxRecDepth 20000 in
theorem refMode {w : World} {X : Nat} {v : Value} {T : List HoldD} (h : Tr w X v T) (s key : Int) :
    Calls Try.prog 35 #[.pointer (some ⟨X, 0, none⟩), .int .i64 s, .int .i64 key] w fun e w' => e = .returned (.int .i64 (modeT T s key)) ∧ w = w' := by
  obtain ⟨c0, _⟩ := h.cell
  obtain ⟨o, cap, rfl, h1, h2, _, _⟩ := h.own.form
  have HT := Lib.hid h
  have hlen := h.len
  unfold maxLen at h2
  obtain ⟨n, hn⟩ : ∃ n, n = T.length := ⟨_, rfl⟩
  rw [← hn] at h1 hlen c0 HT
  have HN := Lib.hid hn
  obtain ⟨R, hR⟩ : ∃ R, R = modeT T s key := ⟨_, rfl⟩
  rw [← hR]
  have HR : Hid (R = modeT (T.drop 0) s key) := Lib.hid (by rw [List.drop_zero]; exact hR)
  clear h hn hR
  go_enter Try.func35, Try.ntmps35
  go_wp2_with fail
  go_loopw [7] (fun i wr => ∃ k : Nat, i = .int .i64 k ∧ k ≤ n ∧ w = wr ∧ Hid (R = modeT (T.drop k) s key)) (fun i _ => n - (intOf i).toNat)
  case atStart => exact ⟨0, rfl, by omega, rfl, HR⟩
  case round =>
    obtain ⟨k, rfl, hk, rfl, HRR⟩ := hrel
    clear HR
    by_cases hkn : (k : Int) < n
    · obtain ⟨g, r, rfl, _, _, hr, hrw, q0, q1, q2⟩ := HT.out.own.at_ (k := k) (by rw [← HN.out]; omega)
      have hdrop : T.drop k = r :: T.drop (k + 1) := by
        obtain ⟨hlt, he⟩ := List.getElem?_eq_some_iff.1 hr
        rw [List.drop_eq_getElem_cons hlt, he]
      have hmode : modeT (T.drop k) s key = if (r.s == s && r.key == key) = true then r.mode else modeT (T.drop (k + 1)) s key := by
        rw [hdrop]
        unfold modeT
        rw [List.find?_cons]
        cases hc : (r.s == s && r.key == key) <;> simp
      rw [hmode] at HRR
      obtain ⟨rs, rk, rm⟩ := r
      dsimp only at q0 q1 q2 HRR
      clear hr hrw hdrop hmode
      by_cases e1 : rs = s
      · by_cases e2 : rk = key
        · have HX : Hid (R = rm) := Lib.hid (by rw [HRR.out, if_pos (by simp [e1, e2])])
          clear HRR
          subst e1 e2
          go_wp2_with fail
          go_ret
          exact ⟨by rw [HX.out]; rfl, rfl⟩
        · have HX : Hid (R = modeT (T.drop (k + 1)) s key) := Lib.hid (by rw [HRR.out, if_neg (by simp [e2])])
          have b2 : (rk == key) = false := by simp [e2]
          clear HRR
          subst e1
          go_wp2_with fail
          go_roundw
          case rel => exact ⟨k + 1, by go_num, by omega, trivial, HX⟩
          case measure => simp [intOf]; omega
      · have HX : Hid (R = modeT (T.drop (k + 1)) s key) := Lib.hid (by rw [HRR.out, if_neg (by simp [e1])])
        have b1 : (rs == s) = false := by simp [e1]
        clear HRR
        go_wp2_with fail
        go_roundw
        case rel => exact ⟨k + 1, by go_num, by omega, trivial, HX⟩
        case measure => simp [intOf]; omega
    · have HX : Hid (R = 0) := Lib.hid (by rw [HRR.out, List.drop_eq_nil_of_le (by rw [← HN.out]; omega)]; rfl)
      go_wp2_with fail
      go_ret
      exact ⟨by rw [HX.out]; rfl, rfl⟩

theorem riseAll_len2 (p : HoldD → Bool) (T : List HoldD) (k : Nat) (h : k ≤ 500) : (riseAll (keyL p (T.take k))).length ≤ 1000 := by
  have h1 := riseAll_len (keyL p (T.take k))
  have h2 := keyL_len p (T.take k)
  have h3 := List.length_take_le k T
  omega
set_option maxRecDepth 20000 in
set_option maxHeartbeats 1000000 in
theorem refKeys {w : World} {X : Nat} {v : Value} {T : List HoldD} (h : Tr w X v T) (hl : T.length ≤ 500) (s : Int) :
    Calls Try.prog 37 #[.pointer (some ⟨X, 0, none⟩), .int .i64 s] w fun e w' => (∃ o m c, e = .returned (.slice o m c) ∧ Ns .i64 w' (.slice o m c) (keysT (fun h => h.s == s) T)) ∧ Below w.heap.size w w' := by
  obtain ⟨o, cap, rfl, h1, h2, _, _⟩ := h.own.form
  have HT := Lib.hid h
  unfold maxLen at h2
  obtain ⟨n, hn⟩ : ∃ n, n = T.length := ⟨_, rfl⟩
  rw [← hn] at h1 hl HT
  have HN := Lib.hid hn
  have hc0 : ∀ W, Below w.heap.size w W → W.cell? ⟨X, 0, none⟩ = some (.slice o n cap) := fun W hb => (HT.out.below hb).cell.1
  have HC := Lib.hid hc0
  have c0 := hc0 w (Below.refl _ _)
  clear h hn hc0
  go_enter Try.func37, Try.ntmps37
  go_wp2_with fail
  clear c0
  go_loopw [5, 6] (fun s5 s6 wr => ∃ k : Nat, s6 = .int .i64 k ∧ k ≤ n ∧ Hid (Below w.heap.size w wr) ∧ ∃ o5 m5 c5, s5 = .slice o5 m5 c5 ∧ Hid (Ns .i64 wr (.slice o5 m5 c5) (riseAll (keyL (fun h => h.s == s) (T.take k))))) (fun _ s6 _ => n - (intOf s6).toNat)
  case atStart => exact ⟨0, rfl, by omega, Lib.hid (Below.refl _ _), none, 0, 0, rfl, Lib.hid (Ns.nil _ _)⟩
  case round =>
    obtain ⟨k, rfl, hk, HB, o5, m5, c5, rfl, HS⟩ := hrel
    have c0 := HC.out wr HB.out
    by_cases hkn : (k : Int) < n
    · obtain ⟨g, r, rfl, _, _, hr, hrw, q0, q1, q2⟩ := (HT.out.below HB.out).own.at_ (k := k) (by rw [← HN.out]; omega)
      have hst := keyL_step (fun h => h.s == s) T k r hr
      cases hb : (r.s == s) with
      | true =>
        rw [if_pos hb] at hst
        have hri := rising HS.out (riseAll_len2 _ T k (by omega)) r.key hrw.key
        rw [← riseAll_add, ← hst] at hri
        have HRI := Lib.hid hri
        obtain ⟨rs, rk, rm⟩ := r
        dsimp only at q0 q1 q2 hb HRI
        obtain rfl : rs = s := by simpa using hb
        clear hr hrw hst hri hb q2
        go_wp2_with fail
        refine HRI.out.mono ?_
        clear HRI
        rintro e w4 ⟨⟨o6, m6, c6, rfl, hn6⟩, hb6⟩
        have HB6 := Lib.hid (HB.out.trans (hb6.mono HB.out.size))
        have HN6 := Lib.hid hn6
        clear hb6 hn6 c0 q0 q1
        go_wp2_with fail
        go_roundw
        case rel => exact ⟨k + 1, by go_num, by omega, HB6, _, _, _, rfl, HN6⟩
        case measure => simp [intOf]; omega
      | false =>
        rw [if_neg (by rw [hb]; simp), List.append_nil] at hst
        have HS2 := HS.out
        rw [← hst] at HS2
        have HS3 := Lib.hid HS2
        obtain ⟨rs, rk, rm⟩ := r
        dsimp only at q0 q1 q2 hb
        clear hr hrw hst HS2 HS q1 q2
        go_wp2_with fail
        go_roundw
        case rel => exact ⟨k + 1, by go_num, by omega, HB, _, _, _, rfl, HS3⟩
        case measure => simp [intOf]; omega
    · have hT : T.take k = T := List.take_of_length_le (by rw [← HN.out]; omega)
      rw [hT, riseAll_keys] at HS
      clear hT
      go_wp2_with fail
      go_ret
      exact ⟨⟨_, _, _, rfl, HS.out⟩, HB.out⟩
set_option maxRecDepth 20000 in
set_option maxHeartbeats 1000000 in
theorem refHeld {w : World} {X : Nat} {v : Value} {T : List HoldD} (h : Tr w X v T) (hl : T.length ≤ 500) :
    Calls Try.prog 39 #[.pointer (some ⟨X, 0, none⟩)] w fun e w' => (∃ o m c, e = .returned (.slice o m c) ∧ Ns .i64 w' (.slice o m c) (keysT (fun h => h.mode == 2) T)) ∧ Below w.heap.size w w' := by
  obtain ⟨o, cap, rfl, h1, h2, _, _⟩ := h.own.form
  have HT := Lib.hid h
  unfold maxLen at h2
  obtain ⟨n, hn⟩ : ∃ n, n = T.length := ⟨_, rfl⟩
  rw [← hn] at h1 hl HT
  have HN := Lib.hid hn
  have hc0 : ∀ W, Below w.heap.size w W → W.cell? ⟨X, 0, none⟩ = some (.slice o n cap) := fun W hb => (HT.out.below hb).cell.1
  have HC := Lib.hid hc0
  have c0 := hc0 w (Below.refl _ _)
  clear h hn hc0
  go_enter Try.func39, Try.ntmps39
  go_wp2_with fail
  clear c0
  go_loopw [3, 4] (fun s5 s6 wr => ∃ k : Nat, s6 = .int .i64 k ∧ k ≤ n ∧ Hid (Below w.heap.size w wr) ∧ ∃ o5 m5 c5, s5 = .slice o5 m5 c5 ∧ Hid (Ns .i64 wr (.slice o5 m5 c5) (riseAll (keyL (fun h => h.mode == 2) (T.take k))))) (fun _ s6 _ => n - (intOf s6).toNat)
  case atStart => exact ⟨0, rfl, by omega, Lib.hid (Below.refl _ _), none, 0, 0, rfl, Lib.hid (Ns.nil _ _)⟩
  case round =>
    obtain ⟨k, rfl, hk, HB, o5, m5, c5, rfl, HS⟩ := hrel
    have c0 := HC.out wr HB.out
    by_cases hkn : (k : Int) < n
    · obtain ⟨g, r, rfl, _, _, hr, hrw, q0, q1, q2⟩ := (HT.out.below HB.out).own.at_ (k := k) (by rw [← HN.out]; omega)
      have hst := keyL_step (fun h => h.mode == 2) T k r hr
      cases hb : (r.mode == 2) with
      | true =>
        rw [if_pos hb] at hst
        have hri := rising HS.out (riseAll_len2 _ T k (by omega)) r.key hrw.key
        rw [← riseAll_add, ← hst] at hri
        have HRI := Lib.hid hri
        obtain ⟨rs, rk, rm⟩ := r
        dsimp only at q0 q1 q2 hb HRI
        obtain rfl : rm = 2 := by simpa using hb
        clear hr hrw hst hri hb q0
        go_wp2_with fail
        refine HRI.out.mono ?_
        clear HRI
        rintro e w4 ⟨⟨o6, m6, c6, rfl, hn6⟩, hb6⟩
        have HB6 := Lib.hid (HB.out.trans (hb6.mono HB.out.size))
        have HN6 := Lib.hid hn6
        clear hb6 hn6 c0 q1 q2
        go_wp2_with fail
        go_roundw
        case rel => exact ⟨k + 1, by go_num, by omega, HB6, _, _, _, rfl, HN6⟩
        case measure => simp [intOf]; omega
      | false =>
        rw [if_neg (by rw [hb]; simp), List.append_nil] at hst
        have HS2 := HS.out
        rw [← hst] at HS2
        have HS3 := Lib.hid HS2
        obtain ⟨rs, rk, rm⟩ := r
        dsimp only at q0 q1 q2 hb
        clear hr hrw hst HS2 HS q0 q1
        go_wp2_with fail
        go_roundw
        case rel => exact ⟨k + 1, by go_num, by omega, HB, _, _, _, rfl, HS3⟩
        case measure => simp [intOf]; omega
    · have hT : T.take k = T := List.take_of_length_le (by rw [← HN.out]; omega)
      rw [hT, riseAll_keys] at HS
      clear hT
      go_wp2_with fail
      go_ret
      exact ⟨⟨_, _, _, rfl, HS.out⟩, HB.out⟩
end Go.Proofs.Ytpgelebmhhcodaa
