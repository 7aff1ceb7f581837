/- Contracts: rec.Check and what it asks. -/
import Derived.Test.YtpgelebmhhcodaaDoorProg
import Derived.Test.YtpgelebmhhcodaaDoorPlain
import Derived.Deep.DeepCutAuto
namespace Go.Proofs.YtpgelebmhhcodaaDoor
open Go.RowKit
set_option linter.unusedVariables false
set_option linter.unusedSimpArgs false

theorem recIn (n lo hi : Int) (w : World) : Calls Tryd.prog 46 #[.int .i64 n, .int .i64 lo, .int .i64 hi] w fun e w' => e = .returned (.bool (inB n lo hi)) ∧ w = w' := by
  unfold inB
  by_cases h : lo ≤ n
  · have d : decide (lo ≤ n) = true := by simpa using h
    go_enter Tryd.func46, Tryd.ntmps46
    go_wp2_with fail
    go_ret
    exact ⟨by simp [h], rfl⟩
  · have d : decide (lo ≤ n) = false := by simpa using h
    go_enter Tryd.func46, Tryd.ntmps46
    go_wp2_with fail
    go_ret
    exact ⟨by simp [h], rfl⟩

theorem recPrev (r : RecD) (w : World) : Calls Tryd.prog 47 #[recV r] w fun e w' => e = .returned (.bool (prevB r)) ∧ Below w.heap.size w w' := by
  have hb : ∀ o, Below w.heap.size w (w.alloc o) := fun o => (Below.refl _ _).alloc (Nat.le_refl _) o
  have hin := recIn
  have HI := Lib.hid hin
  clear hin
  unfold recV
  by_cases h : r.kind = 1 ∨ r.kind = 7 ∨ r.kind = 10
  · have e : prevB r = (r.prev == 0) := by unfold prevB; rw [if_pos h]
    have E := Lib.hid e
    clear e
    rcases h with h | h | h
    all_goals
      obtain ⟨kind, txn, page, prev, next, key, had, has, old, new⟩ := r
      simp only at h
      subst h
      go_enter Tryd.func47, Tryd.ntmps47
      go_wp2_with fail
      go_ret
      exact ⟨by rw [E.out]; rfl, hb _⟩
  · have n1 : (r.kind == 1) = false := by simp; omega
    have n7 : (r.kind == 7) = false := by simp; omega
    have n10 : (r.kind == 10) = false := by simp; omega
    by_cases h9 : r.kind = 9
    · have e : prevB r = inB r.prev 1 1073741824 := by unfold prevB; rw [if_neg h, if_pos h9]
      have b9 : (r.kind == 9) = true := by simp [h9]
      have E := Lib.hid e
      clear e h h9
      go_enter Tryd.func47, Tryd.ntmps47
      go_wp2_with fail
      refine (HI.out _ _ _ _).mono ?_
      rintro e w1 ⟨rfl, rfl⟩
      go_wp2_with fail
      go_ret
      exact ⟨by rw [E.out]; rfl, hb _⟩
    · have e : prevB r = inB r.prev 0 1073741824 := by unfold prevB; rw [if_neg h, if_neg h9]
      have b9 : (r.kind == 9) = false := by simp [h9]
      have E := Lib.hid e
      clear e h h9
      go_enter Tryd.func47, Tryd.ntmps47
      go_wp2_with fail
      refine (HI.out _ _ _ _).mono ?_
      rintro e w1 ⟨rfl, rfl⟩
      go_wp2_with fail
      go_ret
      exact ⟨by rw [E.out]; rfl, hb _⟩

theorem recNext (r : RecD) (w : World) : Calls Tryd.prog 48 #[recV r] w fun e w' => e = .returned (.bool (nextB r)) ∧ Below w.heap.size w w' := by
  have hb : ∀ o, Below w.heap.size w (w.alloc o) := fun o => (Below.refl _ _).alloc (Nat.le_refl _) o
  have hin := recIn
  have HI := Lib.hid hin
  clear hin
  unfold recV
  by_cases h : r.kind = 3 ∨ r.kind = 8
  · have e : nextB r = inB r.next 0 1073741824 := by unfold nextB; rw [if_pos h]
    have E := Lib.hid e
    clear e
    rcases h with h | h
    all_goals
      obtain ⟨kind, txn, page, prev, next, key, had, has, old, new⟩ := r
      simp only at h
      subst h
      go_enter Tryd.func48, Tryd.ntmps48
      go_wp2_with fail
      refine (HI.out _ _ _ _).mono ?_
      rintro e w1 ⟨rfl, rfl⟩
      go_wp2_with fail
      go_ret
      exact ⟨by rw [E.out]; rfl, hb _⟩
  · have n3 : (r.kind == 3) = false := by simp; omega
    have n8 : (r.kind == 8) = false := by simp; omega
    by_cases h10 : r.kind = 10
    · have e : nextB r = inB r.next 0 60000 := by unfold nextB; rw [if_neg h, if_pos h10]
      have b10 : (r.kind == 10) = true := by simp [h10]
      have E := Lib.hid e
      clear e h h10
      go_enter Tryd.func48, Tryd.ntmps48
      go_wp2_with fail
      refine (HI.out _ _ _ _).mono ?_
      rintro e w1 ⟨rfl, rfl⟩
      go_wp2_with fail
      go_ret
      exact ⟨by rw [E.out]; rfl, hb _⟩
    · have e : nextB r = (r.next == 0) := by unfold nextB; rw [if_neg h, if_neg h10]
      have b10 : (r.kind == 10) = false := by simp [h10]
      have E := Lib.hid e
      clear e h h10
      go_enter Tryd.func48, Tryd.ntmps48
      go_wp2_with fail
      go_ret
      exact ⟨by rw [E.out]; rfl, hb _⟩

theorem recKey (r : RecD) (w : World) : Calls Tryd.prog 49 #[recV r] w fun e w' => e = .returned (.bool (keyB r)) ∧ Below w.heap.size w w' := by
  have hb : ∀ o, Below w.heap.size w (w.alloc o) := fun o => (Below.refl _ _).alloc (Nat.le_refl _) o
  have hin := recIn
  have HI := Lib.hid hin
  clear hin
  unfold recV
  by_cases h : r.kind = 2 ∨ r.kind = 3
  · have e : keyB r = inB r.key 0 1048575 := by unfold keyB; rw [if_pos h]
    have E := Lib.hid e
    clear e
    rcases h with h | h
    all_goals
      obtain ⟨kind, txn, page, prev, next, key, had, has, old, new⟩ := r
      simp only at h
      subst h
      go_enter Tryd.func49, Tryd.ntmps49
      go_wp2_with fail
      refine (HI.out _ _ _ _).mono ?_
      rintro e w1 ⟨rfl, rfl⟩
      go_wp2_with fail
      go_ret
      exact ⟨by rw [E.out]; rfl, hb _⟩
  · have n2 : (r.kind == 2) = false := by simp; omega
    have n3 : (r.kind == 3) = false := by simp; omega
    by_cases h8 : r.kind = 8
    · have e : keyB r = inB r.key 0 2 := by unfold keyB; rw [if_neg h, if_pos h8]
      have b8 : (r.kind == 8) = true := by simp [h8]
      have E := Lib.hid e
      clear e h h8
      go_enter Tryd.func49, Tryd.ntmps49
      go_wp2_with fail
      refine (HI.out _ _ _ _).mono ?_
      rintro e w1 ⟨rfl, rfl⟩
      go_wp2_with fail
      go_ret
      exact ⟨by rw [E.out]; rfl, hb _⟩
    · have e : keyB r = (r.key == 0) := by unfold keyB; rw [if_neg h, if_neg h8]
      have b8 : (r.kind == 8) = false := by simp [h8]
      have E := Lib.hid e
      clear e h h8
      go_enter Tryd.func49, Tryd.ntmps49
      go_wp2_with fail
      go_ret
      exact ⟨by rw [E.out]; rfl, hb _⟩

theorem recVals (r : RecD) (w : World) : Calls Tryd.prog 50 #[recV r] w fun e w' => e = .returned (.bool (valsB r)) ∧ Below w.heap.size w w' := by
  have hb : ∀ o, Below w.heap.size w (w.alloc o) := fun o => (Below.refl _ _).alloc (Nat.le_refl _) o
  obtain ⟨kind, txn, page, prev, next, key, had, has, old, new⟩ := r
  unfold recV
  simp only []
  cases had <;> cases has
  all_goals
    go_enter Tryd.func50, Tryd.ntmps50
    go_wp2_with fail
    all_goals go_ret
    all_goals refine ⟨?_, hb _⟩
    all_goals simp only [bne_iff_ne, beq_iff_eq, bne_eq_false_iff_eq, beq_eq_false_iff_ne] at *
    all_goals simp_all [valsB]
    all_goals (intro; omega)

/-- nil, or an error -/
def errIf (b : Bool) (e : Value) : Value := if b then .nilIface else e

set_option maxHeartbeats 1600000 in
theorem recCheckA (kind txn page prev next key old new : Int) (had has : Bool) (h6 : inB kind 1 6 = true) (h8 : (kind == 8) = false) (h2 : (kind == 2) = false) (h3 : (kind == 3) = false) (h9 : (kind == 9) = false) (w : World) (eR : Value) (hE : w.cell? ⟨0, 0, none⟩ = some eR) :
    Calls Tryd.prog 38 #[.agg #[.int .i64 kind, .int .i64 txn, .int .i64 page, .int .i64 prev, .int .i64 next, .int .i64 key, .bool had, .bool has, .int .i64 old, .int .i64 new]] w fun e w' => e = .returned (errIf (inB kind 1 10 && (inB txn 1 60000 && (inB page 0 0 && (prevB ⟨kind, txn, page, prev, next, key, had, has, old, new⟩ && (nextB ⟨kind, txn, page, prev, next, key, had, has, old, new⟩ && (keyB ⟨kind, txn, page, prev, next, key, had, has, old, new⟩ && valsB ⟨kind, txn, page, prev, next, key, had, has, old, new⟩)))))) eR) ∧ Below w.heap.size w w' := by
  have hb : Below w.heap.size w (w.alloc (.cells #[.int .i64 kind, .int .i64 txn, .int .i64 page, .int .i64 prev, .int .i64 next, .int .i64 key, .bool had, .bool has, .int .i64 old, .int .i64 new] 24)) := (Below.refl _ _).alloc (Nat.le_refl _) _
  have hlt := Below.lt hE
  have HI := Lib.hid recIn
  have hp := recPrev ⟨kind, txn, page, prev, next, key, had, has, old, new⟩
  have hn := recNext ⟨kind, txn, page, prev, next, key, had, has, old, new⟩
  have hk := recKey ⟨kind, txn, page, prev, next, key, had, has, old, new⟩
  have hv := recVals ⟨kind, txn, page, prev, next, key, had, has, old, new⟩
  dsimp only [recV] at hp hn hk hv
  have HP := Lib.hid hp
  have HN := Lib.hid hn
  have HK := Lib.hid hk
  have HV := Lib.hid hv
  have cellE : ∀ w', Below w.heap.size w w' → w'.cell? ⟨0, 0, none⟩ = some eR := fun w' h => by rw [h.cell hlt]; exact hE
  have CE := Lib.hid cellE
  have ce := cellE _ hb
  have AF := Lib.hid (fun w1 => @after10 w w1 24 (.int .i64 kind) (.int .i64 txn) (.int .i64 page) (.int .i64 prev) (.int .i64 next) (.int .i64 key) (.bool had) (.bool has) (.int .i64 old) (.int .i64 new))
  have HB := Lib.hid hb
  clear hp hn hk hv cellE hb
  go_enter Tryd.func38, Tryd.ntmps38
  go_wp2_with (first | (go_at_call 46; refine (HI.out _ _ _ _).mono ?_; rintro e w1 ⟨rfl, rfl⟩) | (go_at_call 47; refine (HP.out _).mono ?_; rintro e w2 ⟨rfl, hb2⟩; have ht2 := hb2; have ce2 := CE.out _ (HB.out.trans (ht2.mono HB.out.size)); obtain ⟨d20, d21, d22, d23, d24, d25, d26, d27, d28, d29, dz2⟩ := AF.out _ ht2) | (go_at_call 48; refine (HN.out _).mono ?_; rintro e w3 ⟨rfl, hb3⟩; have ht3 := (ht2.trans (hb3.mono ht2.size)); have ce3 := CE.out _ (HB.out.trans (ht3.mono HB.out.size)); obtain ⟨d30, d31, d32, d33, d34, d35, d36, d37, d38, d39, dz3⟩ := AF.out _ ht3) | (go_at_call 49; refine (HK.out _).mono ?_; rintro e w4 ⟨rfl, hb4⟩; have ht4 := (ht3.trans (hb4.mono ht3.size)); have ce4 := CE.out _ (HB.out.trans (ht4.mono HB.out.size)); obtain ⟨d40, d41, d42, d43, d44, d45, d46, d47, d48, d49, dz4⟩ := AF.out _ ht4) | (go_at_call 50; refine (HV.out _).mono ?_; rintro e w5 ⟨rfl, hb5⟩; have ht5 := (ht4.trans (hb5.mono ht4.size)); have ce5 := CE.out _ (HB.out.trans (ht5.mono HB.out.size)); obtain ⟨d50, d51, d52, d53, d54, d55, d56, d57, d58, d59, dz5⟩ := AF.out _ ht5))
  all_goals go_ret
  all_goals refine ⟨?_, by first | exact HB.out.trans (ht5.mono HB.out.size) | exact HB.out.trans (ht4.mono HB.out.size) | exact HB.out.trans (ht3.mono HB.out.size) | exact HB.out.trans (ht2.mono HB.out.size) | exact HB.out⟩
  all_goals simp only [Bool.not_eq_true', Bool.not_eq_false'] at *
  all_goals simp [errIf, *]

set_option maxHeartbeats 1600000 in
theorem recCheckB (kind txn page prev next key old new : Int) (had has : Bool) (h6 : inB kind 1 6 = true) (h8 : (kind == 8) = false) (h2 : (kind == 2) = true) (h3 : (kind == 3) = false) (h9 : (kind == 9) = false) (w : World) (eR : Value) (hE : w.cell? ⟨0, 0, none⟩ = some eR) :
    Calls Tryd.prog 38 #[.agg #[.int .i64 kind, .int .i64 txn, .int .i64 page, .int .i64 prev, .int .i64 next, .int .i64 key, .bool had, .bool has, .int .i64 old, .int .i64 new]] w fun e w' => e = .returned (errIf (inB kind 1 10 && (inB txn 1 60000 && (inB page 1 32 && (prevB ⟨kind, txn, page, prev, next, key, had, has, old, new⟩ && (nextB ⟨kind, txn, page, prev, next, key, had, has, old, new⟩ && (keyB ⟨kind, txn, page, prev, next, key, had, has, old, new⟩ && valsB ⟨kind, txn, page, prev, next, key, had, has, old, new⟩)))))) eR) ∧ Below w.heap.size w w' := by
  have hb : Below w.heap.size w (w.alloc (.cells #[.int .i64 kind, .int .i64 txn, .int .i64 page, .int .i64 prev, .int .i64 next, .int .i64 key, .bool had, .bool has, .int .i64 old, .int .i64 new] 24)) := (Below.refl _ _).alloc (Nat.le_refl _) _
  have hlt := Below.lt hE
  have HI := Lib.hid recIn
  have hp := recPrev ⟨kind, txn, page, prev, next, key, had, has, old, new⟩
  have hn := recNext ⟨kind, txn, page, prev, next, key, had, has, old, new⟩
  have hk := recKey ⟨kind, txn, page, prev, next, key, had, has, old, new⟩
  have hv := recVals ⟨kind, txn, page, prev, next, key, had, has, old, new⟩
  dsimp only [recV] at hp hn hk hv
  have HP := Lib.hid hp
  have HN := Lib.hid hn
  have HK := Lib.hid hk
  have HV := Lib.hid hv
  have cellE : ∀ w', Below w.heap.size w w' → w'.cell? ⟨0, 0, none⟩ = some eR := fun w' h => by rw [h.cell hlt]; exact hE
  have CE := Lib.hid cellE
  have ce := cellE _ hb
  have AF := Lib.hid (fun w1 => @after10 w w1 24 (.int .i64 kind) (.int .i64 txn) (.int .i64 page) (.int .i64 prev) (.int .i64 next) (.int .i64 key) (.bool had) (.bool has) (.int .i64 old) (.int .i64 new))
  have HB := Lib.hid hb
  clear hp hn hk hv cellE hb
  go_enter Tryd.func38, Tryd.ntmps38
  go_wp2_with (first | (go_at_call 46; refine (HI.out _ _ _ _).mono ?_; rintro e w1 ⟨rfl, rfl⟩) | (go_at_call 47; refine (HP.out _).mono ?_; rintro e w2 ⟨rfl, hb2⟩; have ht2 := hb2; have ce2 := CE.out _ (HB.out.trans (ht2.mono HB.out.size)); obtain ⟨d20, d21, d22, d23, d24, d25, d26, d27, d28, d29, dz2⟩ := AF.out _ ht2) | (go_at_call 48; refine (HN.out _).mono ?_; rintro e w3 ⟨rfl, hb3⟩; have ht3 := (ht2.trans (hb3.mono ht2.size)); have ce3 := CE.out _ (HB.out.trans (ht3.mono HB.out.size)); obtain ⟨d30, d31, d32, d33, d34, d35, d36, d37, d38, d39, dz3⟩ := AF.out _ ht3) | (go_at_call 49; refine (HK.out _).mono ?_; rintro e w4 ⟨rfl, hb4⟩; have ht4 := (ht3.trans (hb4.mono ht3.size)); have ce4 := CE.out _ (HB.out.trans (ht4.mono HB.out.size)); obtain ⟨d40, d41, d42, d43, d44, d45, d46, d47, d48, d49, dz4⟩ := AF.out _ ht4) | (go_at_call 50; refine (HV.out _).mono ?_; rintro e w5 ⟨rfl, hb5⟩; have ht5 := (ht4.trans (hb5.mono ht4.size)); have ce5 := CE.out _ (HB.out.trans (ht5.mono HB.out.size)); obtain ⟨d50, d51, d52, d53, d54, d55, d56, d57, d58, d59, dz5⟩ := AF.out _ ht5))
  all_goals go_ret
  all_goals refine ⟨?_, by first | exact HB.out.trans (ht5.mono HB.out.size) | exact HB.out.trans (ht4.mono HB.out.size) | exact HB.out.trans (ht3.mono HB.out.size) | exact HB.out.trans (ht2.mono HB.out.size) | exact HB.out⟩
  all_goals simp only [Bool.not_eq_true', Bool.not_eq_false'] at *
  all_goals simp [errIf, *]

set_option maxHeartbeats 1600000 in
theorem recCheckC (kind txn page prev next key old new : Int) (had has : Bool) (h6 : inB kind 1 6 = true) (h8 : (kind == 8) = false) (h2 : (kind == 2) = false) (h3 : (kind == 3) = true) (h9 : (kind == 9) = false) (w : World) (eR : Value) (hE : w.cell? ⟨0, 0, none⟩ = some eR) :
    Calls Tryd.prog 38 #[.agg #[.int .i64 kind, .int .i64 txn, .int .i64 page, .int .i64 prev, .int .i64 next, .int .i64 key, .bool had, .bool has, .int .i64 old, .int .i64 new]] w fun e w' => e = .returned (errIf (inB kind 1 10 && (inB txn 1 60000 && (inB page 1 32 && (prevB ⟨kind, txn, page, prev, next, key, had, has, old, new⟩ && (nextB ⟨kind, txn, page, prev, next, key, had, has, old, new⟩ && (keyB ⟨kind, txn, page, prev, next, key, had, has, old, new⟩ && valsB ⟨kind, txn, page, prev, next, key, had, has, old, new⟩)))))) eR) ∧ Below w.heap.size w w' := by
  have hb : Below w.heap.size w (w.alloc (.cells #[.int .i64 kind, .int .i64 txn, .int .i64 page, .int .i64 prev, .int .i64 next, .int .i64 key, .bool had, .bool has, .int .i64 old, .int .i64 new] 24)) := (Below.refl _ _).alloc (Nat.le_refl _) _
  have hlt := Below.lt hE
  have HI := Lib.hid recIn
  have hp := recPrev ⟨kind, txn, page, prev, next, key, had, has, old, new⟩
  have hn := recNext ⟨kind, txn, page, prev, next, key, had, has, old, new⟩
  have hk := recKey ⟨kind, txn, page, prev, next, key, had, has, old, new⟩
  have hv := recVals ⟨kind, txn, page, prev, next, key, had, has, old, new⟩
  dsimp only [recV] at hp hn hk hv
  have HP := Lib.hid hp
  have HN := Lib.hid hn
  have HK := Lib.hid hk
  have HV := Lib.hid hv
  have cellE : ∀ w', Below w.heap.size w w' → w'.cell? ⟨0, 0, none⟩ = some eR := fun w' h => by rw [h.cell hlt]; exact hE
  have CE := Lib.hid cellE
  have ce := cellE _ hb
  have AF := Lib.hid (fun w1 => @after10 w w1 24 (.int .i64 kind) (.int .i64 txn) (.int .i64 page) (.int .i64 prev) (.int .i64 next) (.int .i64 key) (.bool had) (.bool has) (.int .i64 old) (.int .i64 new))
  have HB := Lib.hid hb
  clear hp hn hk hv cellE hb
  go_enter Tryd.func38, Tryd.ntmps38
  go_wp2_with (first | (go_at_call 46; refine (HI.out _ _ _ _).mono ?_; rintro e w1 ⟨rfl, rfl⟩) | (go_at_call 47; refine (HP.out _).mono ?_; rintro e w2 ⟨rfl, hb2⟩; have ht2 := hb2; have ce2 := CE.out _ (HB.out.trans (ht2.mono HB.out.size)); obtain ⟨d20, d21, d22, d23, d24, d25, d26, d27, d28, d29, dz2⟩ := AF.out _ ht2) | (go_at_call 48; refine (HN.out _).mono ?_; rintro e w3 ⟨rfl, hb3⟩; have ht3 := (ht2.trans (hb3.mono ht2.size)); have ce3 := CE.out _ (HB.out.trans (ht3.mono HB.out.size)); obtain ⟨d30, d31, d32, d33, d34, d35, d36, d37, d38, d39, dz3⟩ := AF.out _ ht3) | (go_at_call 49; refine (HK.out _).mono ?_; rintro e w4 ⟨rfl, hb4⟩; have ht4 := (ht3.trans (hb4.mono ht3.size)); have ce4 := CE.out _ (HB.out.trans (ht4.mono HB.out.size)); obtain ⟨d40, d41, d42, d43, d44, d45, d46, d47, d48, d49, dz4⟩ := AF.out _ ht4) | (go_at_call 50; refine (HV.out _).mono ?_; rintro e w5 ⟨rfl, hb5⟩; have ht5 := (ht4.trans (hb5.mono ht4.size)); have ce5 := CE.out _ (HB.out.trans (ht5.mono HB.out.size)); obtain ⟨d50, d51, d52, d53, d54, d55, d56, d57, d58, d59, dz5⟩ := AF.out _ ht5))
  all_goals go_ret
  all_goals refine ⟨?_, by first | exact HB.out.trans (ht5.mono HB.out.size) | exact HB.out.trans (ht4.mono HB.out.size) | exact HB.out.trans (ht3.mono HB.out.size) | exact HB.out.trans (ht2.mono HB.out.size) | exact HB.out⟩
  all_goals simp only [Bool.not_eq_true', Bool.not_eq_false'] at *
  all_goals simp [errIf, *]

set_option maxHeartbeats 1600000 in
theorem recCheckD (kind txn page prev next key old new : Int) (had has : Bool) (h6 : inB kind 1 6 = false) (h8 : (kind == 8) = true) (h2 : (kind == 2) = false) (h3 : (kind == 3) = false) (h9 : (kind == 9) = false) (w : World) (eR : Value) (hE : w.cell? ⟨0, 0, none⟩ = some eR) :
    Calls Tryd.prog 38 #[.agg #[.int .i64 kind, .int .i64 txn, .int .i64 page, .int .i64 prev, .int .i64 next, .int .i64 key, .bool had, .bool has, .int .i64 old, .int .i64 new]] w fun e w' => e = .returned (errIf (inB kind 1 10 && (inB txn 1 60000 && (inB page 0 0 && (prevB ⟨kind, txn, page, prev, next, key, had, has, old, new⟩ && (nextB ⟨kind, txn, page, prev, next, key, had, has, old, new⟩ && (keyB ⟨kind, txn, page, prev, next, key, had, has, old, new⟩ && valsB ⟨kind, txn, page, prev, next, key, had, has, old, new⟩)))))) eR) ∧ Below w.heap.size w w' := by
  have hb : Below w.heap.size w (w.alloc (.cells #[.int .i64 kind, .int .i64 txn, .int .i64 page, .int .i64 prev, .int .i64 next, .int .i64 key, .bool had, .bool has, .int .i64 old, .int .i64 new] 24)) := (Below.refl _ _).alloc (Nat.le_refl _) _
  have hlt := Below.lt hE
  have HI := Lib.hid recIn
  have hp := recPrev ⟨kind, txn, page, prev, next, key, had, has, old, new⟩
  have hn := recNext ⟨kind, txn, page, prev, next, key, had, has, old, new⟩
  have hk := recKey ⟨kind, txn, page, prev, next, key, had, has, old, new⟩
  have hv := recVals ⟨kind, txn, page, prev, next, key, had, has, old, new⟩
  dsimp only [recV] at hp hn hk hv
  have HP := Lib.hid hp
  have HN := Lib.hid hn
  have HK := Lib.hid hk
  have HV := Lib.hid hv
  have cellE : ∀ w', Below w.heap.size w w' → w'.cell? ⟨0, 0, none⟩ = some eR := fun w' h => by rw [h.cell hlt]; exact hE
  have CE := Lib.hid cellE
  have ce := cellE _ hb
  have AF := Lib.hid (fun w1 => @after10 w w1 24 (.int .i64 kind) (.int .i64 txn) (.int .i64 page) (.int .i64 prev) (.int .i64 next) (.int .i64 key) (.bool had) (.bool has) (.int .i64 old) (.int .i64 new))
  have HB := Lib.hid hb
  clear hp hn hk hv cellE hb
  go_enter Tryd.func38, Tryd.ntmps38
  go_wp2_with (first | (go_at_call 46; refine (HI.out _ _ _ _).mono ?_; rintro e w1 ⟨rfl, rfl⟩) | (go_at_call 47; refine (HP.out _).mono ?_; rintro e w2 ⟨rfl, hb2⟩; have ht2 := hb2; have ce2 := CE.out _ (HB.out.trans (ht2.mono HB.out.size)); obtain ⟨d20, d21, d22, d23, d24, d25, d26, d27, d28, d29, dz2⟩ := AF.out _ ht2) | (go_at_call 48; refine (HN.out _).mono ?_; rintro e w3 ⟨rfl, hb3⟩; have ht3 := (ht2.trans (hb3.mono ht2.size)); have ce3 := CE.out _ (HB.out.trans (ht3.mono HB.out.size)); obtain ⟨d30, d31, d32, d33, d34, d35, d36, d37, d38, d39, dz3⟩ := AF.out _ ht3) | (go_at_call 49; refine (HK.out _).mono ?_; rintro e w4 ⟨rfl, hb4⟩; have ht4 := (ht3.trans (hb4.mono ht3.size)); have ce4 := CE.out _ (HB.out.trans (ht4.mono HB.out.size)); obtain ⟨d40, d41, d42, d43, d44, d45, d46, d47, d48, d49, dz4⟩ := AF.out _ ht4) | (go_at_call 50; refine (HV.out _).mono ?_; rintro e w5 ⟨rfl, hb5⟩; have ht5 := (ht4.trans (hb5.mono ht4.size)); have ce5 := CE.out _ (HB.out.trans (ht5.mono HB.out.size)); obtain ⟨d50, d51, d52, d53, d54, d55, d56, d57, d58, d59, dz5⟩ := AF.out _ ht5))
  all_goals go_ret
  all_goals refine ⟨?_, by first | exact HB.out.trans (ht5.mono HB.out.size) | exact HB.out.trans (ht4.mono HB.out.size) | exact HB.out.trans (ht3.mono HB.out.size) | exact HB.out.trans (ht2.mono HB.out.size) | exact HB.out⟩
  all_goals simp only [Bool.not_eq_true', Bool.not_eq_false'] at *
  all_goals simp [errIf, *]

set_option maxHeartbeats 1600000 in
theorem recCheckE (kind txn page prev next key old new : Int) (had has : Bool) (h6 : inB kind 1 6 = false) (h8 : (kind == 8) = false) (h2 : (kind == 2) = false) (h3 : (kind == 3) = false) (h9 : (kind == 9) = true) (w : World) (eR : Value) (hE : w.cell? ⟨0, 0, none⟩ = some eR) :
    Calls Tryd.prog 38 #[.agg #[.int .i64 kind, .int .i64 txn, .int .i64 page, .int .i64 prev, .int .i64 next, .int .i64 key, .bool had, .bool has, .int .i64 old, .int .i64 new]] w fun e w' => e = .returned (errIf (inB kind 1 10 && (inB txn 0 0 && (inB page 1 32 && (prevB ⟨kind, txn, page, prev, next, key, had, has, old, new⟩ && (nextB ⟨kind, txn, page, prev, next, key, had, has, old, new⟩ && (keyB ⟨kind, txn, page, prev, next, key, had, has, old, new⟩ && valsB ⟨kind, txn, page, prev, next, key, had, has, old, new⟩)))))) eR) ∧ Below w.heap.size w w' := by
  have hb : Below w.heap.size w (w.alloc (.cells #[.int .i64 kind, .int .i64 txn, .int .i64 page, .int .i64 prev, .int .i64 next, .int .i64 key, .bool had, .bool has, .int .i64 old, .int .i64 new] 24)) := (Below.refl _ _).alloc (Nat.le_refl _) _
  have hlt := Below.lt hE
  have HI := Lib.hid recIn
  have hp := recPrev ⟨kind, txn, page, prev, next, key, had, has, old, new⟩
  have hn := recNext ⟨kind, txn, page, prev, next, key, had, has, old, new⟩
  have hk := recKey ⟨kind, txn, page, prev, next, key, had, has, old, new⟩
  have hv := recVals ⟨kind, txn, page, prev, next, key, had, has, old, new⟩
  dsimp only [recV] at hp hn hk hv
  have HP := Lib.hid hp
  have HN := Lib.hid hn
  have HK := Lib.hid hk
  have HV := Lib.hid hv
  have cellE : ∀ w', Below w.heap.size w w' → w'.cell? ⟨0, 0, none⟩ = some eR := fun w' h => by rw [h.cell hlt]; exact hE
  have CE := Lib.hid cellE
  have ce := cellE _ hb
  have AF := Lib.hid (fun w1 => @after10 w w1 24 (.int .i64 kind) (.int .i64 txn) (.int .i64 page) (.int .i64 prev) (.int .i64 next) (.int .i64 key) (.bool had) (.bool has) (.int .i64 old) (.int .i64 new))
  have HB := Lib.hid hb
  clear hp hn hk hv cellE hb
  go_enter Tryd.func38, Tryd.ntmps38
  go_wp2_with (first | (go_at_call 46; refine (HI.out _ _ _ _).mono ?_; rintro e w1 ⟨rfl, rfl⟩) | (go_at_call 47; refine (HP.out _).mono ?_; rintro e w2 ⟨rfl, hb2⟩; have ht2 := hb2; have ce2 := CE.out _ (HB.out.trans (ht2.mono HB.out.size)); obtain ⟨d20, d21, d22, d23, d24, d25, d26, d27, d28, d29, dz2⟩ := AF.out _ ht2) | (go_at_call 48; refine (HN.out _).mono ?_; rintro e w3 ⟨rfl, hb3⟩; have ht3 := (ht2.trans (hb3.mono ht2.size)); have ce3 := CE.out _ (HB.out.trans (ht3.mono HB.out.size)); obtain ⟨d30, d31, d32, d33, d34, d35, d36, d37, d38, d39, dz3⟩ := AF.out _ ht3) | (go_at_call 49; refine (HK.out _).mono ?_; rintro e w4 ⟨rfl, hb4⟩; have ht4 := (ht3.trans (hb4.mono ht3.size)); have ce4 := CE.out _ (HB.out.trans (ht4.mono HB.out.size)); obtain ⟨d40, d41, d42, d43, d44, d45, d46, d47, d48, d49, dz4⟩ := AF.out _ ht4) | (go_at_call 50; refine (HV.out _).mono ?_; rintro e w5 ⟨rfl, hb5⟩; have ht5 := (ht4.trans (hb5.mono ht4.size)); have ce5 := CE.out _ (HB.out.trans (ht5.mono HB.out.size)); obtain ⟨d50, d51, d52, d53, d54, d55, d56, d57, d58, d59, dz5⟩ := AF.out _ ht5))
  all_goals go_ret
  all_goals refine ⟨?_, by first | exact HB.out.trans (ht5.mono HB.out.size) | exact HB.out.trans (ht4.mono HB.out.size) | exact HB.out.trans (ht3.mono HB.out.size) | exact HB.out.trans (ht2.mono HB.out.size) | exact HB.out⟩
  all_goals simp only [Bool.not_eq_true', Bool.not_eq_false'] at *
  all_goals simp [errIf, *]

set_option maxHeartbeats 1600000 in
theorem recCheckF (kind txn page prev next key old new : Int) (had has : Bool) (h6 : inB kind 1 6 = false) (h8 : (kind == 8) = false) (h2 : (kind == 2) = false) (h3 : (kind == 3) = false) (h9 : (kind == 9) = false) (w : World) (eR : Value) (hE : w.cell? ⟨0, 0, none⟩ = some eR) :
    Calls Tryd.prog 38 #[.agg #[.int .i64 kind, .int .i64 txn, .int .i64 page, .int .i64 prev, .int .i64 next, .int .i64 key, .bool had, .bool has, .int .i64 old, .int .i64 new]] w fun e w' => e = .returned (errIf (inB kind 1 10 && (inB txn 0 0 && (inB page 0 0 && (prevB ⟨kind, txn, page, prev, next, key, had, has, old, new⟩ && (nextB ⟨kind, txn, page, prev, next, key, had, has, old, new⟩ && (keyB ⟨kind, txn, page, prev, next, key, had, has, old, new⟩ && valsB ⟨kind, txn, page, prev, next, key, had, has, old, new⟩)))))) eR) ∧ Below w.heap.size w w' := by
  have hb : Below w.heap.size w (w.alloc (.cells #[.int .i64 kind, .int .i64 txn, .int .i64 page, .int .i64 prev, .int .i64 next, .int .i64 key, .bool had, .bool has, .int .i64 old, .int .i64 new] 24)) := (Below.refl _ _).alloc (Nat.le_refl _) _
  have hlt := Below.lt hE
  have HI := Lib.hid recIn
  have hp := recPrev ⟨kind, txn, page, prev, next, key, had, has, old, new⟩
  have hn := recNext ⟨kind, txn, page, prev, next, key, had, has, old, new⟩
  have hk := recKey ⟨kind, txn, page, prev, next, key, had, has, old, new⟩
  have hv := recVals ⟨kind, txn, page, prev, next, key, had, has, old, new⟩
  dsimp only [recV] at hp hn hk hv
  have HP := Lib.hid hp
  have HN := Lib.hid hn
  have HK := Lib.hid hk
  have HV := Lib.hid hv
  have cellE : ∀ w', Below w.heap.size w w' → w'.cell? ⟨0, 0, none⟩ = some eR := fun w' h => by rw [h.cell hlt]; exact hE
  have CE := Lib.hid cellE
  have ce := cellE _ hb
  have AF := Lib.hid (fun w1 => @after10 w w1 24 (.int .i64 kind) (.int .i64 txn) (.int .i64 page) (.int .i64 prev) (.int .i64 next) (.int .i64 key) (.bool had) (.bool has) (.int .i64 old) (.int .i64 new))
  have HB := Lib.hid hb
  clear hp hn hk hv cellE hb
  go_enter Tryd.func38, Tryd.ntmps38
  go_wp2_with (first | (go_at_call 46; refine (HI.out _ _ _ _).mono ?_; rintro e w1 ⟨rfl, rfl⟩) | (go_at_call 47; refine (HP.out _).mono ?_; rintro e w2 ⟨rfl, hb2⟩; have ht2 := hb2; have ce2 := CE.out _ (HB.out.trans (ht2.mono HB.out.size)); obtain ⟨d20, d21, d22, d23, d24, d25, d26, d27, d28, d29, dz2⟩ := AF.out _ ht2) | (go_at_call 48; refine (HN.out _).mono ?_; rintro e w3 ⟨rfl, hb3⟩; have ht3 := (ht2.trans (hb3.mono ht2.size)); have ce3 := CE.out _ (HB.out.trans (ht3.mono HB.out.size)); obtain ⟨d30, d31, d32, d33, d34, d35, d36, d37, d38, d39, dz3⟩ := AF.out _ ht3) | (go_at_call 49; refine (HK.out _).mono ?_; rintro e w4 ⟨rfl, hb4⟩; have ht4 := (ht3.trans (hb4.mono ht3.size)); have ce4 := CE.out _ (HB.out.trans (ht4.mono HB.out.size)); obtain ⟨d40, d41, d42, d43, d44, d45, d46, d47, d48, d49, dz4⟩ := AF.out _ ht4) | (go_at_call 50; refine (HV.out _).mono ?_; rintro e w5 ⟨rfl, hb5⟩; have ht5 := (ht4.trans (hb5.mono ht4.size)); have ce5 := CE.out _ (HB.out.trans (ht5.mono HB.out.size)); obtain ⟨d50, d51, d52, d53, d54, d55, d56, d57, d58, d59, dz5⟩ := AF.out _ ht5))
  all_goals go_ret
  all_goals refine ⟨?_, by first | exact HB.out.trans (ht5.mono HB.out.size) | exact HB.out.trans (ht4.mono HB.out.size) | exact HB.out.trans (ht3.mono HB.out.size) | exact HB.out.trans (ht2.mono HB.out.size) | exact HB.out⟩
  all_goals simp only [Bool.not_eq_true', Bool.not_eq_false'] at *
  all_goals simp [errIf, *]

/-- Check: nil, or the error that a number is out of its range -/
theorem recCheck (r : RecD) (w : World) (eR : Value) (hE : w.cell? ⟨0, 0, none⟩ = some eR) :
    Calls Tryd.prog 38 #[recV r] w fun e w' => e = .returned (errIf (okR r) eR) ∧ Below w.heap.size w w' := by
  obtain ⟨kind, txn, page, prev, next, key, had, has, old, new⟩ := r
  dsimp only [recV]
  by_cases k2 : kind = 2
  · subst k2
    exact recCheckB 2 txn page prev next key old new had has (by decide) (by decide) (by decide) (by decide) (by decide) w eR hE
  · by_cases k3 : kind = 3
    · subst k3
      exact recCheckC 3 txn page prev next key old new had has (by decide) (by decide) (by decide) (by decide) (by decide) w eR hE
    · by_cases k8 : kind = 8
      · subst k8
        exact recCheckD 8 txn page prev next key old new had has (by decide) (by decide) (by decide) (by decide) (by decide) w eR hE
      · by_cases k9 : kind = 9
        · subst k9
          exact recCheckE 9 txn page prev next key old new had has (by decide) (by decide) (by decide) (by decide) (by decide) w eR hE
        · by_cases k6 : 1 ≤ kind ∧ kind ≤ 6
          · have e1 : txnTop ⟨kind, txn, page, prev, next, key, had, has, old, new⟩ = 60000 := by unfold txnTop; rw [if_pos (Or.inl k6)]
            have e2 : pageTop ⟨kind, txn, page, prev, next, key, had, has, old, new⟩ = 0 := by unfold pageTop; rw [if_neg (by simp only; omega)]
            have h := recCheckA kind txn page prev next key old new had has (by simp [inB]; omega) (by simp; omega) (by simp; omega) (by simp; omega) (by simp; omega) w eR hE
            unfold okR
            rw [e1, e2]
            exact h
          · have e1 : txnTop ⟨kind, txn, page, prev, next, key, had, has, old, new⟩ = 0 := by unfold txnTop; rw [if_neg (by simp only; omega)]
            have e2 : pageTop ⟨kind, txn, page, prev, next, key, had, has, old, new⟩ = 0 := by unfold pageTop; rw [if_neg (by simp only; omega)]
            have h := recCheckF kind txn page prev next key old new had has (by simp [inB]; omega) (by simp; omega) (by simp; omega) (by simp; omega) (by simp; omega) w eR hE
            unfold okR
            rw [e1, e2]
            exact h
end Go.Proofs.YtpgelebmhhcodaaDoor
