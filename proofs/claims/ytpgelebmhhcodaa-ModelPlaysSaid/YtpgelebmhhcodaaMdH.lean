/- Contracts of the model: maps.DeleteFunc, Commit. -/
import Derived.Test.YtpgelebmhhcodaaMdR
import Derived.Test.YtpgelebmhhcodaaMdD
import Derived.Deep.RegionLaw
namespace Go.Proofs.Ytpgelebmhhcodaa
open Go.RowKit
set_option linter.unusedVariables false

theorem goneC {w : World} (k v : Int) (i : Bool) :
    Calls Try.prog 78 #[.int .i64 k, .agg #[.int .i64 v, .bool i]] w fun e w' => e = .returned (.bool (!i)) ∧ Below w.heap.size w w' := by
  go_enter Try.func78, Try.ntmps78
  go_wp2_with fail
  go_ret
  exact ⟨rfl, (Below.refl _ _).alloc (Nat.le_refl _) _⟩
/-- what is there -/
def pruneM (m : FM) : FM := fun k => match m k with
  | some (v, true) => some (v, true)
  | _ => none
def pruneL (m : FM) (left : Lit → Bool) : FM := fun k => if left (kL k) = true then m k else pruneM m k
theorem pruneL_start {m : FM} {left : Lit → Bool} (hl : ∀ k, left (kL k) = (m k).isSome ∨ ¬ I64L k) (hk : ∀ k x, m k = some x → I64L k) : pruneL m left = m := by
  funext k
  unfold pruneL pruneM
  cases e : m k with
  | none => simp
  | some x =>
    rcases hl k with h | h
    · rw [h, e]; simp
    · exact absurd (hk k x e) h
theorem pruneL_keep {m : FM} {left : Lit → Bool} {x v : Int} (hx : m x = some (v, true)) : pruneL m (fun z => left z && !z.sameKey (kL x)) = pruneL m left := by
  funext k
  unfold pruneL
  by_cases e : k = x
  · subst e
    simp [kL_same, pruneM, hx]
  · simp [kL_same, e]
theorem pruneL_drop {m : FM} {left : Lit → Bool} {x v : Int} (hx : m x = some (v, false)) : pruneL m (fun z => (left z && !z.sameKey (kL x)) && !z.sameKey (kL x)) = updM (pruneL m left) x none := by
  funext k
  by_cases e : k = x
  · subst e
    rw [updM_same]
    unfold pruneL
    simp [kL_same, pruneM, hx]
  · rw [updM_other _ _ e]
    unfold pruneL
    simp [kL_same, e]
theorem pruneL_end {m : FM} {left : Lit → Bool} (h : ∀ k, left k = false) : pruneL m left = pruneM m := by
  funext k
  unfold pruneL
  rw [h, if_neg (by simp)]
set_option maxRecDepth 20000 in
set_option maxHeartbeats 2000000 in
theorem deleteMv {w : World} {b n : Nat} {m : FM} (hm : Mv w b n m) :
    Calls Try.prog 77 #[.map (some b), .func (.func 78) #[] #[]] w fun e w' => e = .returned (.tuple #[]) ∧ Mv w' b n (pruneM m) ∧ w.grownBy w' (some b) := by
  obtain ⟨w1, left0, cnt0, hrun, hr1, hg1, hs1, hl0, hc0⟩ := Rm.start hm
  have hm0 := pruneL_start hl0 (fun k x e => (hr1.2 k x e).1)
  have HR1 : Hid (Rm w1 b w.heap.size n (pruneL m left0) left0 cnt0) := Lib.hid (by rw [hm0]; exact hr1)
  have HG1 : Hid (w.grownBy w1 (some b)) := Lib.hid (hg1.but _)
  obtain ⟨r, hr⟩ : ∃ r, r = w.heap.size := ⟨_, rfl⟩
  have HRR := Lib.hid hr
  have hbl := hm.lt
  rw [← hr] at hrun HR1
  clear hm hr1 hg1 hl0 hm0 hr
  go_enter Try.func77, Try.ntmps77
  go_wp2_with fail
  go_loopw [4, 5] (fun _ _ wr => ∃ left cnt, Hid (Rm wr b r n (pruneL m left) left cnt) ∧ Hid (w.grownBy wr (some b))) (fun _ _ wr => wr.rangeLeft b r)
  case atStart => exact ⟨_, _, HR1, HG1⟩
  case round =>
    obtain ⟨left, cnt, HR, HG⟩ := hrel
    clear HR1 HG1
    rcases HR.out.step with ⟨h0, hl0, hrun⟩ | ⟨x, v, i, w4, cnt', hx, hv, hmx, hlx, hrun, hR4, hlt, hg4, hs4, hen⟩
    · have hfin := pruneL_end (m := m) hl0
      have HF : Hid (Mv _ b n (pruneM m)) := Lib.hid (by rw [← hfin]; exact HR.out.mv)
      clear hl0 h0 hfin
      go_wp2_with fail
      exact bodyPost_end (results_none rfl _ _ _) rfl ⟨rfl, HF.out, HG.out⟩
    · have hmx' : m x = some (v, i) := by
        unfold pruneL at hmx
        rw [if_pos hlx] at hmx
        exact hmx
      have hsz := HG.out.size
      have hR5 := hR4.kept (World.grownBy_alloc w4 (.cells #[.int .i64 v, .bool i] 108) none) (by simp) (by simp)
      have HGO := Lib.hid (goneC (w := w4.alloc (.cells #[.int .i64 v, .bool i] 108)) x v i)
      have HR5 := Lib.hid hR5
      have HMX := Lib.hid hmx'
      have HX := Lib.hid hx
      have HG5 := Lib.hid (fun (w5 : World) (hb5 : Below (w4.alloc (.cells #[.int .i64 v, .bool i] 108)).heap.size (w4.alloc (.cells #[.int .i64 v, .bool i] 108)) w5) => by
        have h2 : (w4.alloc (.cells #[.int .i64 v, .bool i] 108)).heap.size = w4.heap.size + 1 := by simp
        have h3 := hb5.size
        refine (⟨hb5.os.trans (hg4.os.trans HG.out.os), hb5.tape.trans (hg4.tape.trans HG.out.tape), hb5.output.trans (hg4.output.trans HG.out.output), by omega, fun k hk hn => ?_⟩ : w.grownBy w5 (some b))
        rw [hb5.block k (by omega), Below.heap_alloc w4 _ k (by omega), hg4.block k (by omega) (fun e => by
          have e2 : k = r := by simpa using e
          have := HRR.out
          omega)]
        exact HG.out.block k hk hn)
      clear hR5 hmx hmx' hx hR4 hg4 hs4 hlx
      cases i with
      | true =>
        go_wp2_with fail
        refine HGO.out.mono ?_
        clear HGO
        rintro e w5 ⟨rfl, hb5⟩
        have hR6 := HR5.out.kept (row := none) ⟨hb5.os, hb5.tape, hb5.output, hb5.size, fun k hk _ => hb5.block k hk⟩ (by simp) (by simp)
        have HR6 : Hid (Rm w5 b r n (pruneL m (fun z => left z && !z.sameKey (kL x))) (fun z => left z && !z.sameKey (kL x)) cnt') := Lib.hid (by rw [pruneL_keep HMX.out]; exact hR6)
        have HG6 := Lib.hid (HG5.out w5 hb5)
        clear hb5 hR6 HG5
        go_wp2_with fail
        go_roundw
        case rel => exact ⟨_, cnt', HR6, HG6⟩
        case measure => rw [HR6.out.left_eq, HR.out.left_eq]; exact hlt
      | false =>
        go_wp2_with fail
        refine HGO.out.mono ?_
        clear HGO
        rintro e w5 ⟨rfl, hb5⟩
        have hR6 := HR5.out.kept (row := none) ⟨hb5.os, hb5.tape, hb5.output, hb5.size, fun k hk _ => hb5.block k hk⟩ (by simp) (by simp)
        obtain ⟨w6, cnt6, hdel, hR7, hle, hg6, hs6⟩ := hR6.drop HX.out
        have HR6 : Hid (Rm w6 b r n (pruneL m (fun z => (left z && !z.sameKey (kL x)) && !z.sameKey (kL x))) (fun z => (left z && !z.sameKey (kL x)) && !z.sameKey (kL x)) cnt6) := Lib.hid (by rw [pruneL_drop HMX.out]; exact hR7)
        have hG5 := HG5.out w5 hb5
        have hs5 := hG5.size
        have HG6 : Hid (w.grownBy w6 (some b)) := Lib.hid ⟨hg6.os.trans hG5.os, hg6.tape.trans hG5.tape, hg6.output.trans hG5.output, by omega, fun k hk hn => (hg6.block k (by omega) hn).trans (hG5.block k hk hn)⟩
        clear hb5 hR6 HG5 hR7 hg6 hs6 hG5
        go_wp2_with fail
        go_roundw
        case rel => exact ⟨_, cnt6, HR6, HG6⟩
        case measure => rw [HR6.out.left_eq, HR.out.left_eq]; omega
theorem modelCommitNo {w : World} {X bl bo nl n no : Nat} {fo : Int → Option Value} {ρ : Nat → Rl} {many : Int} {l : FM} {op : Int → Option Ses} (h : Md w X bl bo nl n no fo ρ many l op) {s : Int} (hs : I64L s) (ho : op s = none) :
    Calls Try.prog 30 #[.pointer (some ⟨X, 0, none⟩), .int .i64 s] w fun e w' => e = .returned (.bool false) ∧ Below w.heap.size w w' := by
  obtain ⟨_, c1, _⟩ := h.cells
  have hlk := h.look2 hs
  rw [ho] at hlk
  simp only [Option.isSome_none] at hlk
  generalize (fo s).getD (.pointer none) = V at hlk
  clear h hs
  go_enter Try.func30, Try.ntmps30
  go_wp2_with fail
  go_ret
  exact ⟨rfl, Below.refl _ _⟩
set_option maxRecDepth 20000 in
set_option maxHeartbeats 2000000 in
theorem modelCommit {w : World} {X bl bo nl n no : Nat} {fo : Int → Option Value} {ρ : Nat → Rl} {many : Int} {l : FM} {op : Int → Option Ses} (h : Md w X bl bo nl n no fo ρ many l op) {s : Int} (hs : I64L s) {z : Ses} (ho : op s = some z) (hn : nl + n ≤ 100000) :
    Calls Try.prog 30 #[.pointer (some ⟨X, 0, none⟩), .int .i64 s] w fun e w' => e = .returned (.bool true) ∧ Md w' X bl bo (nl + n) n no (updM fo s none) ρ many (pruneM (mergeM l z.own)) (updM op s none) ∧ Ext (Fr ρ) w (Fr ρ) w' := by
  obtain ⟨c0, c1, _⟩ := h.cells
  have hlk := h.look2 hs
  obtain ⟨p, b, u, G, k1, k2, k3, k4, k5, k6⟩ := h.ses s z ho
  rw [ho, k1] at hlk
  simp only [Option.isSome_some, Option.getD_some] at hlk
  obtain ⟨d0, _⟩ := k2.cells
  have hd := h.below ((Below.refl w.heap.size w).drew)
  have k2d : Sm w.drew p b n u G z := k2.same rfl rfl (fun _ _ => rfl) (fun _ _ => rfl)
  have hne : bl ≠ b := fun e => by
    have := h.rl
    rw [e, k4] at this
    simp at this
  have hcp := copyMv hd.l k2d.own hne hn
  have HCP := Lib.hid hcp
  have HD := Lib.hid hd
  have HB := Lib.hid ((Below.refl w.heap.size w).drew)
  clear h k1 k2 k3 k4 k5 k6 hd k2d hcp hne
  go_enter Try.func30, Try.ntmps30
  go_wp2_with fail
  go_region_law ((first
    | (go_simp; go_at_call 76; with_reducible refine HCP.out.mono ?_; rintro e w1 ⟨rfl, hm1, hg1⟩)))
  all_goals
    have h1 := HD.out.commit hg1 hm1
    have hx1 := (Ext.of_below (F := Fr ρ) HB.out).trans (HD.out.ext HD.out.fX.2.1 hg1)
    obtain ⟨e0, _, _⟩ := h1.cells
    have hdl := deleteMv hm1
    have H1 := Lib.hid h1
    have HX1 := Lib.hid hx1
    have HDL := Lib.hid hdl
    clear h1 hx1 hdl hm1 hg1 c0 c1 d0
    go_wp2_with fail
    refine HDL.out.mono ?_
    clear HDL e0
    rintro e w2 ⟨rfl, hm2, hg2⟩
    have h2 := H1.out.commit hg2 hm2
    have hx2 := HX1.out.trans (H1.out.ext H1.out.fX.2.1 hg2)
    obtain ⟨_, e1, _⟩ := h2.cells
    obtain ⟨w3, hrun, hm3, hg3, hs3⟩ := h2.o.del Try.underlying99 hs 0
    have hrun' : ∀ ty, (Builtin.delete_ #[99, 3] ty #[.map (some bo), .int .i64 s]).run Try.prog w2 = .ok (.tuple #[]) w3 := fun ty => hrun
    have hend := h2.cut hg3 hm3 (op' := updM op s none) (fun j z e => by
      by_cases ej : j = s
      · subst ej; rw [updM_same] at e; simp at e
      · rw [updM_other _ _ ej] at e
        exact ⟨e, updM_other _ _ ej⟩) (fun j e => by
      by_cases ej : j = s
      · subst ej; exact updM_same _ _ _
      · rw [updM_other _ _ ej] at e ⊢
        exact h2.nob j e)
    have hx3 := hx2.trans (h2.ext h2.fX.2.2 hg3)
    have HE := Lib.hid hend
    have HX3 := Lib.hid hx3
    clear h2 hx2 hm2 hg2 hm3 hg3 hend hx3 H1 HX1 hrun hs3
    go_wp2_with fail
    go_ret
    exact ⟨rfl, HE.out, HX3.out⟩
end Go.Proofs.Ytpgelebmhhcodaa
