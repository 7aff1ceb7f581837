/- Contracts: Take's closure, IndexFunc over it. -/
import Derived.Test.YtpgelebmhhcodaaLkB
import Derived.Test.YtpgelebmhhcodaaDskM
namespace Go.Proofs.Ytpgelebmhhcodaa
open Go.RowKit
set_option linter.unusedVariables false

def hereT (s key : Int) (h : HoldD) : Bool := h.s == s && h.key == key
/-- where a session's hold of a key lies; -1: nowhere -/
def idxG (s key : Int) : List HoldD → Nat → Int
  | [], _ => -1
  | h :: T, k => if hereT s key h = true then (k : Int) else idxG s key T (k + 1)

theorem takeHere (h : HoldD) (s key : Int) (p5 p6 : Addr) (w : World) (c5 : w.cell? p5 = some (.int .i64 s)) (c6 : w.cell? p6 = some (.int .i64 key)) :
    Calls Try.prog 68 #[holdV h, .pointer (some p5), .pointer (some p6)] w fun e w' => e = .returned (.bool (hereT s key h)) ∧ Below w.heap.size w w' := by
  obtain ⟨rs, rk, rm⟩ := h
  unfold hereT holdV
  dsimp only
  have hb : ∀ o, Below w.heap.size w (w.alloc o) := fun o => (Below.refl _ _).alloc (Nat.le_refl _) o
  have d5 : ∀ o, (w.alloc o).cell? p5 = some (.int .i64 s) := fun o => ((hb o).cell (Below.lt c5)).trans c5
  have d6 : ∀ o, (w.alloc o).cell? p6 = some (.int .i64 key) := fun o => ((hb o).cell (Below.lt c6)).trans c6
  have HB := Lib.hid hb
  clear hb c5 c6
  by_cases e1 : rs = s
  · subst e1
    go_enter Try.func68, Try.ntmps68
    go_wp2_with fail
    go_ret
    exact ⟨by simp, HB.out _⟩
  · have b1 : (rs == s) = false := by simp [e1]
    go_enter Try.func68, Try.ntmps68
    go_wp2_with fail
    go_ret
    exact ⟨by simp [b1], HB.out _⟩

set_option maxRecDepth 20000 in
theorem indexTake {base : Nat} {w : World} {v : Value} {T : List HoldD} (h : Ho base w v T) (hl : T.length ≤ 10000) (s key : Int) (p5 p6 : Addr) (c5 : w.cell? p5 = some (.int .i64 s)) (c6 : w.cell? p6 = some (.int .i64 key)) :
    Calls Try.prog 67 #[v, .func (.func 68) #[] #[.pointer (some p5), .pointer (some p6)]] w fun e w' => e = .returned (.int .i64 (idxG s key T 0)) ∧ Below w.heap.size w w' := by
  obtain ⟨o, cap, rfl, h1, h2, _, _⟩ := h.form
  have HH := Lib.hid h
  unfold maxLen at h2
  have HC5 := Lib.hid c5
  have HC6 := Lib.hid c6
  obtain ⟨n, hn⟩ : ∃ n, n = T.length := ⟨_, rfl⟩
  rw [← hn] at h1 hl HH
  rw [← hn]
  have HN := Lib.hid hn
  obtain ⟨R, hR⟩ : ∃ R, R = idxG s key T 0 := ⟨_, rfl⟩
  rw [← hR]
  have HR : Hid (R = idxG s key (T.drop 0) 0) := Lib.hid (by rw [List.drop_zero]; exact hR)
  clear h hn hR c5 c6
  go_enter Try.func67, Try.ntmps67
  go_wp2_with fail
  go_loopw [8] (fun i wr => ∃ k : Nat, i = .int .i64 k ∧ k ≤ n ∧ Hid (Below w.heap.size w wr) ∧ Hid (R = idxG s key (T.drop k) k)) (fun i _ => n - (intOf i).toNat)
  case atStart => exact ⟨0, rfl, by omega, Lib.hid (Below.refl _ _), HR⟩
  case round =>
    obtain ⟨k, rfl, hk, HB, HRR⟩ := hrel
    clear HR
    by_cases hkn : (k : Int) < n
    · obtain ⟨g, r, rfl, _, _, hr, hrw, q0, q1, q2⟩ := (HH.out.below HB.out).at_ (k := k) (by rw [← HN.out]; omega)
      have hdrop : T.drop k = r :: T.drop (k + 1) := by
        obtain ⟨hlt, he⟩ := List.getElem?_eq_some_iff.1 hr
        rw [List.drop_eq_getElem_cons hlt, he]
      rw [hdrop] at HRR
      have hcl := takeHere r s key p5 p6 wr ((HB.out.cell (Below.lt HC5.out)).trans HC5.out) ((HB.out.cell (Below.lt HC6.out)).trans HC6.out)
      have HCL := Lib.hid hcl
      clear hr hrw hdrop hcl
      obtain ⟨rs, rk, rm⟩ := r
      dsimp only [holdV] at q0 q1 q2 HCL
      go_wp2_with fail
      refine HCL.out.mono ?_
      clear HCL
      rintro e w2 ⟨rfl, hb2⟩
      have HB2 := Lib.hid (HB.out.trans (hb2.mono HB.out.size))
      clear hb2 q0 q1 q2
      cases ht : hereT s key ⟨rs, rk, rm⟩ with
      | true =>
        have HX : Hid (R = (k : Int)) := Lib.hid (by rw [HRR.out, idxG, if_pos ht])
        clear ht
        go_wp2_with fail
        go_ret
        exact ⟨by rw [HX.out]; rfl, HB2.out⟩
      | false =>
        have HX : Hid (R = idxG s key (T.drop (k + 1)) (k + 1)) := Lib.hid (by rw [HRR.out, idxG, if_neg (by rw [ht]; simp)])
        clear ht
        go_wp2_with fail
        go_roundw
        case rel => exact ⟨k + 1, by go_num, by omega, HB2, HX⟩
        case measure => simp [intOf]; omega
    · have HX : Hid (R = -1) := Lib.hid (by rw [HRR.out, List.drop_eq_nil_of_le (by rw [← HN.out]; omega)]; rfl)
      go_wp2_with fail
      go_ret
      exact ⟨by rw [HX.out]; rfl, HB.out⟩
end Go.Proofs.Ytpgelebmhhcodaa
