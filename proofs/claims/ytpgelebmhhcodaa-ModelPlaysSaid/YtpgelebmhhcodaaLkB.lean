/- Contracts: is, Who. -/
import Derived.Test.YtpgelebmhhcodaaLkI
import Derived.Deep.Cut
import Derived.Deep.CutRange
namespace Go.Proofs.Ytpgelebmhhcodaa
open Go.RowKit
set_option linter.unusedVariables false

def isM (m : Int) : Bool := m == 1 || m == 2
theorem lockIs (m : Int) (w : World) : Calls Try.prog 66 #[.int .i64 m] w fun e w' => e = .returned (.bool (isM m)) ∧ w = w' := by
  unfold isM
  by_cases h1 : m = 1
  · subst h1
    go_enter Try.func66, Try.ntmps66
    go_wp2_with fail
    go_ret
    exact ⟨rfl, rfl⟩
  · have h1b : (m == 1) = false := by simp [h1]
    rw [h1b, Bool.false_or]
    go_enter Try.func66, Try.ntmps66
    go_wp2_with fail
    go_ret
    exact ⟨rfl, rfl⟩

/-- is this hold in the way? -/
def wayT (s key mode : Int) (h : HoldD) : Bool := isM mode && (h.key == key && (h.s != s && (mode == 2 || h.mode == 2)))
def whoL (T : List HoldD) (s key mode : Int) : List Int := (T.filter (wayT s key mode)).map (·.s)
def sortL (l : List Int) : List Int := l.mergeSort fun x y => decide (x ≤ y)
def whoT (T : List HoldD) (s key mode : Int) : List Int := sortL (whoL T s key mode)
theorem whoL_step (T : List HoldD) (s key mode : Int) (k : Nat) (r : HoldD) (hr : T[k]? = some r) : whoL (T.take (k + 1)) s key mode = whoL (T.take k) s key mode ++ (if wayT s key mode r = true then [r.s] else []) := by
  unfold whoL
  rw [List.take_add_one, hr, Option.toList_some, List.filter_append, List.map_append]
  congr 1
  rw [List.filter_cons]
  split <;> simp
theorem whoL_len (T : List HoldD) (s key mode : Int) : (whoL T s key mode).length ≤ T.length := by
  unfold whoL
  rw [List.length_map]
  exact List.length_filter_le _ _

set_option maxRecDepth 20000 in
set_option maxHeartbeats 4000000 in
theorem tabWho {w : World} {X : Nat} {v : Value} {T : List HoldD} (h : Tb w X v T) (s key mode : Int) :
    Calls Try.prog 17 #[.pointer (some ⟨X, 0, none⟩), .int .i64 s, .int .i64 key, .int .i64 mode] w fun e w' => (∃ o c, e = .returned (.slice o (whoT T s key mode).length c) ∧ Oi w.heap.size w' (.slice o (whoT T s key mode).length c) (whoT T s key mode)) ∧ Below w.heap.size w w' := by
  obtain ⟨c0, _⟩ := h.cell
  obtain ⟨o, cap, rfl, h1, h2, _, _⟩ := h.own.form
  have HT := Lib.hid h
  have hlen := h.len
  unfold maxLen at h2
  obtain ⟨n, hn⟩ : ∃ n, n = T.length := ⟨_, rfl⟩
  rw [← hn] at h1 hlen c0 HT
  have HN := Lib.hid hn
  have HIS := Lib.hid (fun W => lockIs mode W)
  clear h hn
  go_enter Try.func17, Try.ntmps17
  go_wp2_with fail
  go_loopw [9, 17] (fun s9 i wr => ∃ k : Nat, i = .int .i64 k ∧ k ≤ n ∧ ∃ o m c, s9 = .slice o m c ∧ m ≤ k ∧ Hid (m = (whoL (T.take k) s key mode).length) ∧ Hid (Below w.heap.size w wr) ∧ Hid (Oi w.heap.size wr (.slice o m c) (whoL (T.take k) s key mode))) (fun _ i _ => n - (intOf i).toNat)
  case atStart => exact ⟨0, rfl, by omega, none, 0, 0, rfl, by omega, Lib.hid rfl, Lib.hid (Below.refl _ _), Lib.hid Oi.nil⟩
  case round =>
    obtain ⟨k, rfl, hk, o2, m2, ca2, rfl, hmk, HM, HB, HO⟩ := hrel
    by_cases hkn : (k : Int) < n
    · obtain ⟨g, r, rfl, _, _, hr, hrw, q0, q1, q2⟩ := (HT.out.own.below HB.out).at_ (k := k) (by rw [← HN.out]; omega)
      have hstep := whoL_step T s key mode k r hr
      obtain ⟨tst, htst⟩ : ∃ b, b = wayT s key mode r := ⟨_, rfl⟩
      rw [← htst] at hstep
      have HST := Lib.hid hstep
      have HWS := Lib.hid hrw.s
      obtain ⟨rs, rk, rm⟩ := r
      unfold wayT at htst
      dsimp only at q0 q1 q2 HST htst HWS
      have HTT := Lib.hid htst
      obtain ⟨W1, hW1⟩ : ∃ W, W = wr.alloc (.cells #[.int .i64 rs, .int .i64 rk, .int .i64 rm] 91) := ⟨_, rfl⟩
      have hb1 : Below wr.heap.size wr W1 := by rw [hW1]; exact (Below.refl _ _).alloc (Nat.le_refl _) _
      have HB1 := Lib.hid (HB.out.trans (hb1.mono HB.out.size))
      have HO1 := Lib.hid (HO.out.below hb1)
      have f0 : W1.cell? ⟨wr.heap.size, 0, none⟩ = some (.int .i64 rs) := by rw [hW1]; exact cell_of_row _ _ 0 _ _ (0, 0) (heap_alloc_new wr _)
      have f1 : W1.cell? ⟨wr.heap.size, 1, none⟩ = some (.int .i64 rk) := by rw [hW1]; exact cell_of_row _ _ 1 _ _ (0, 0) (heap_alloc_new wr _)
      have f2 : W1.cell? ⟨wr.heap.size, 2, none⟩ = some (.int .i64 rm) := by rw [hW1]; exact cell_of_row _ _ 2 _ _ (0, 0) (heap_alloc_new wr _)
      have HW1 := Lib.hid hW1
      clear hr hrw hstep htst hb1 hW1 HO HB
      go_upto_region 5 with fail
      rw [← HW1.out]
      generalize wr.heap.size = A at f0 f1 f2 ⊢
      clear HW1 q0 q1 q2
      go_cut [43] from 18 to 49 (fun s43 wx => s43 = .bool tst ∧ W1 = wx)
      case first =>
        cases hm : isM mode with
        | false =>
          have HX : Hid (tst = false) := Lib.hid (by rw [HTT.out, hm]; rfl)
          rw [hm] at HIS
          go_wp2_with fail
          refine (HIS.out _).mono ?_
          rintro e w2 ⟨rfl, rfl⟩
          go_wp2_with fail
          go_meet
          exact ⟨by rw [HX.out], rfl⟩
        | true =>
          rw [hm] at HIS
          rw [hm, Bool.true_and] at HTT
          by_cases e1 : rk = key
          · subst e1
            by_cases e2 : rs = s
            · subst e2
              have HX : Hid (tst = false) := Lib.hid (by rw [HTT.out]; simp)
              go_wp2_with fail
              refine (HIS.out _).mono ?_
              rintro e w2 ⟨rfl, rfl⟩
              go_wp2_with fail
              go_meet
              exact ⟨by rw [HX.out], rfl⟩
            · have b2 : (rs != s) = true := by simp [e2]
              have b2' : (rs == s) = false := by simp [e2]
              by_cases e3 : mode = 2
              · subst e3
                have HX : Hid (tst = true) := Lib.hid (by rw [HTT.out, b2]; simp)
                go_wp2_with fail
                refine (HIS.out _).mono ?_
                rintro e w2 ⟨rfl, rfl⟩
                go_wp2_with fail
                go_meet
                exact ⟨by rw [HX.out], rfl⟩
              · have b3 : (mode == 2) = false := by simp [e3]
                have HX : Hid (tst = (rm == 2)) := Lib.hid (by rw [HTT.out, b2, b3]; simp)
                go_wp2_with fail
                refine (HIS.out _).mono ?_
                rintro e w2 ⟨rfl, rfl⟩
                go_wp2_with fail
                go_meet
                exact ⟨by rw [HX.out], rfl⟩
          · have b1 : (rk == key) = false := by simp [e1]
            have HX : Hid (tst = false) := Lib.hid (by rw [HTT.out, b1]; rfl)
            go_wp2_with fail
            refine (HIS.out _).mono ?_
            rintro e w2 ⟨rfl, rfl⟩
            go_wp2_with fail
            go_meet
            exact ⟨by rw [HX.out], rfl⟩
      obtain ⟨rfl, rfl⟩ := hcut
      cases tst with
      | false =>
        have hst := HST.out
        rw [if_neg (by simp), List.append_nil] at hst
        have HSX := Lib.hid hst
        clear hst f0 f1 f2
        go_wp2_with fail
        go_roundw
        case rel => exact ⟨k + 1, by go_num, by omega, _, _, _, rfl, by omega, Lib.hid (by rw [HSX.out]; exact HM.out), HB1, Lib.hid (by rw [HSX.out]; exact HO1.out)⟩
        case measure => simp [intOf]; omega
      | true =>
        have hst := HST.out
        rw [if_pos rfl] at hst
        have hwf : (Lit.int .i64 rs).wf = true := by
          have := HWS.out
          unfold I64L at this
          simp [Lit.wf, IntKind.min, IntKind.max, IntKind.signed, IntKind.bits]
          exact this
        obtain ⟨gb, cap3, w3, hrun, ho3, hg3, _, _, hca3, hcb3⟩ := HO1.out.append1 rs hwf HB1.out.size (by rw [← HM.out]; omega) 3 34
        have hb2 : Below W1.heap.size W1 (W1.alloc (.cells #[.int .i64 rs] 3)) := (Below.refl _ _).alloc (Nat.le_refl _) _
        have hbb := HB1.out.trans (hb2.mono HB1.out.size)
        have HB3 := Lib.hid ((HO1.out.below hb2).grown hg3 hbb (Nat.le_refl _) hbb.size)
        rw [← hst] at ho3
        rw [← HM.out] at hrun ho3 hca3
        have HO3 := Lib.hid ho3
        have HM3 : Hid (m2 + 1 = (whoL (T.take (k + 1)) s key mode).length) := Lib.hid (by rw [hst, List.length_append, ← HM.out]; rfl)
        unfold maxLen at hcb3
        clear hst hwf ho3 hg3 hb2 hbb f1 f2
        go_wp2_with (at_builtin; refine Lib.wpList_append_run _ rfl _ _ _ _ rfl _ _ rfl rfl _ _ hrun ?_)
        clear hrun f0
        go_roundw
        case rel => exact ⟨k + 1, by go_num, by omega, _, _, _, rfl, by omega, HM3, HB3, HO3⟩
        case measure => simp [intOf]; omega
    · have hT : T.take k = T := List.take_of_length_le (by rw [← HN.out]; omega)
      rw [hT] at HM HO
      have hso := sortOi HO.out (by rw [← HM.out]; omega)
      have HSO := Lib.hid hso
      have hle : (whoT T s key mode).length = m2 := by unfold whoT sortL; rw [List.length_mergeSort]; exact HM.out.symm
      have HLE := Lib.hid hle
      clear hT hso hle
      go_wp2_with fail
      refine HSO.out.mono ?_
      clear HSO
      rintro e w5 ⟨rfl, ho5, hg5⟩
      have HB5 := Lib.hid (HO.out.grown hg5 HB.out (Nat.le_refl _) HB.out.size)
      have HO5 := Lib.hid ho5
      clear ho5 hg5
      go_wp2_with fail
      go_ret
      exact ⟨⟨o2, ca2, by rw [HLE.out]; rfl, by rw [HLE.out]; exact HO5.out⟩, HB5.out⟩
end Go.Proofs.Ytpgelebmhhcodaa
