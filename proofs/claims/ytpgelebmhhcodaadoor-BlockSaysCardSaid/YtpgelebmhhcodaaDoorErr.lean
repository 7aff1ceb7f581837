/- The errors of package api: what each variable holds; how two are compared; the statements' plain faults. -/
import Derived.Test.YtpgelebmhhcodaaDoorProg
import Derived.Test.YtpgelebmhhcodaaDoorPlain
import Derived.LaidEql
import Derived.Deep.RegionHeld3
namespace Go.Proofs.YtpgelebmhhcodaaDoor
open Go.RowKit
set_option linter.unusedVariables false

/-- the places of package api's errors, in its own order -/
def gE : List Nat := [4, 0, 1, 3, 2, 5, 6, 7, 8, 9, 10, 11, 12, 13, 14, 15, 16, 17]

/-- the error that variable i holds -/
def eV (ea : Nat → Addr) (i : Nat) : Value := .iface 91 (.pointer (some (ea i)))

/-- what the variables hold: each a pointer of its own -/
structure Sen (ea : Nat → Addr) (w : World) : Prop where
  cell : ∀ i, i < 18 → w.cell? ⟨gE.getD i 0, 0, none⟩ = some (eV ea i)
  row : ∀ i, i < 18 → ∃ c t, w.heap[(ea i).block]? = some (.cells c t (0, 0))
  inj : ∀ i j, i < 18 → j < 18 → ea i = ea j → i = j

theorem Sen.below {ea : Nat → Addr} {w w' : World} (h : Sen ea w) (hb : Below w.heap.size w w') : Sen ea w' := by
  refine ⟨fun i hi => ?_, fun i hi => ?_, h.inj⟩
  · rw [hb.cell (Below.lt (h.cell i hi))]; exact h.cell i hi
  · obtain ⟨c, t, hc⟩ := h.row i hi
    exact ⟨c, t, by rw [hb.block _ (Array.getElem?_eq_some_iff.1 hc).1]; exact hc⟩

theorem errComp : (Tryd.prog.info? 91).map (·.comparable) = some true := by kernel_rfl
theorem errSize : (Tryd.prog.info? 109).map (·.size) = some 1 := by kernel_rfl

theorem run_eql_err {ea : Nat → Addr} {w0 : World} (h : Sen ea w0) (w : World) (hb : Below w0.heap.size w0 w) (i j : Nat) (hi : i < 18) (hj : j < 18) :
    (binOp .eql 34 (eV ea i) (eV ea j)).run Tryd.prog w = .ok (.bool (decide (i = j))) w := by
  obtain ⟨ii, h1, h2⟩ := Option.map_eq_some_iff.1 errComp
  obtain ⟨jj, h3, h4⟩ := Option.map_eq_some_iff.1 errSize
  have hs := h.below hb
  by_cases e : i = j
  · subst e
    simpa [eV] using run_eql_iface_ptr_same w (ea i) Tryd.underlying34 Tryd.underlying91 h1 h2 h3
  · obtain ⟨c1, t1, r1⟩ := hs.row i hi
    obtain ⟨c2, t2, r2⟩ := hs.row j hj
    have hne : ea i ≠ ea j := fun he => e (h.inj i j hi hj he)
    simpa [eV, e] using run_eql_iface_ptr_other (w := w) Tryd.underlying34 Tryd.underlying91 h1 h2 h3 (by rw [h4]; decide) hne r1 r2

/-- Alike, at two of them -/
theorem alike {ea : Nat → Addr} (w : World) (h : Sen ea w) (i j : Nat) (hi : i < 18) (hj : j < 18) :
    Calls Tryd.prog 57 #[eV ea i, eV ea j] w fun e w' => e = .returned (.bool (decide (i = j))) ∧ w = w' := by
  have he := run_eql_err h w (Below.refl _ _) i j hi hj
  unfold eV at *
  go_enter Tryd.func57, Tryd.ntmps57
  go_wp2_with fail
  go_ret
  exact ⟨rfl, rfl⟩

/-- the errors of package api, in a row of the call's own -/
theorem sentinels {ea : Nat → Addr} (w : World) (h : Sen ea w) :
    Calls Tryd.prog 56 #[] w fun e w' => (∃ g, e = .returned (.slice (some ⟨g, 0, none⟩) 18 18) ∧ ∀ i, i < 18 → w'.cell? ⟨g, i, none⟩ = some (eV ea i)) ∧ Below w.heap.size w w' := by
  have c0 := h.cell 0 (by decide)
  have c1 := h.cell 1 (by decide)
  have c2 := h.cell 2 (by decide)
  have c3 := h.cell 3 (by decide)
  have c4 := h.cell 4 (by decide)
  have c5 := h.cell 5 (by decide)
  have c6 := h.cell 6 (by decide)
  have c7 := h.cell 7 (by decide)
  have c8 := h.cell 8 (by decide)
  have c9 := h.cell 9 (by decide)
  have c10 := h.cell 10 (by decide)
  have c11 := h.cell 11 (by decide)
  have c12 := h.cell 12 (by decide)
  have c13 := h.cell 13 (by decide)
  have c14 := h.cell 14 (by decide)
  have c15 := h.cell 15 (by decide)
  have c16 := h.cell 16 (by decide)
  have c17 := h.cell 17 (by decide)
  simp only [gE, eV, List.getD_cons_zero, List.getD_cons_succ] at c0 c1 c2 c3 c4 c5 c6 c7 c8 c9 c10 c11 c12 c13 c14 c15 c16 c17
  go_enter Tryd.func56, Tryd.ntmps56
  go_wp2_with fail
  go_ret
  refine ⟨⟨_, rfl, fun i hi => ?_⟩, (Below.refl _ _).alloc (Nat.le_refl _) _⟩
  rw [cell_of_row _ w.heap.size i _ _ (0, 0) (heap_alloc_new w _)]
  match i, hi with
  | 0, _ | 1, _ | 2, _ | 3, _ | 4, _ | 5, _ | 6, _ | 7, _ | 8, _ | 9, _ | 10, _ | 11, _ | 12, _ | 13, _ | 14, _ | 15, _ | 16, _ | 17, _ => rfl
  | i + 18, h => omega

/-- the number of one of them -/
theorem sentinel {ea : Nat → Addr} (w : World) (h : Sen ea w) (n : Nat) (hn : n < 18) :
    Calls Tryd.prog 53 #[eV ea n] w fun e w' => e = .returned (.int .i64 (101 + n)) ∧ Below w.heap.size w w' := by
  have hal := fun (w' : World) (hb : Below w.heap.size w w') (i : Nat) (hi : i < 18) => alike w' (h.below hb) n i hn hi
  unfold eV at hal ⊢
  go_enter Tryd.func53, Tryd.ntmps53
  go_wp2_with fail
  refine (sentinels w h).mono ?_
  rintro e w1 ⟨⟨g, rfl, hc⟩, hb⟩
  unfold eV at hc
  have HC := Lib.hid hc
  have HAL := Lib.hid hal
  clear hc hal
  go_wp2_with fail
  go_loop [4] (fun i => ∃ k : Nat, i = .int .i64 k ∧ k ≤ n) (fun i => 18 - (intOf i).toNat)
  case atStart => exact ⟨0, rfl, by omega⟩
  case round =>
    obtain ⟨k, rfl, hk⟩ := hrel
    have hlt : k < 18 := by omega
    have hck := HC.out k hlt
    by_cases hkn : k = n
    · subst hkn
      go_wp2_with fail
      refine (HAL.out w1 hb k hlt).mono ?_
      rintro e w2 ⟨rfl, rfl⟩
      rw [decide_eq_true (rfl : k = k)]
      go_wp2_with fail
      go_ret
      exact ⟨rfl, hb⟩
    · go_wp2_with fail
      refine (HAL.out w1 hb k hlt).mono ?_
      rintro e w2 ⟨rfl, rfl⟩
      rw [decide_eq_false (show ¬ n = k from fun e => hkn e.symm)]
      go_wp2_with fail
      go_round
      case rel => exact ⟨k + 1, by go_num, by omega⟩
      case measure => simp [intOf]; omega

/-- what ErrRange, ErrShort, ErrRec hold -/
structure E3 (ea : Nat → Addr) (w : World) : Prop where
  r : w.cell? ⟨0, 0, none⟩ = some (eV ea 1)
  s : w.cell? ⟨1, 0, none⟩ = some (eV ea 2)
  c : w.cell? ⟨3, 0, none⟩ = some (eV ea 3)
theorem E3.below {ea : Nat → Addr} {w w' : World} (h : E3 ea w) (hb : Below w.heap.size w w') : E3 ea w' :=
  ⟨(hb.cell (Below.lt h.r)).trans h.r, (hb.cell (Below.lt h.s)).trans h.s, (hb.cell (Below.lt h.c)).trans h.c⟩
theorem Sen.e3 {ea : Nat → Addr} {w : World} (h : Sen ea w) : E3 ea w := ⟨h.cell 1 (by decide), h.cell 2 (by decide), h.cell 3 (by decide)⟩

/-- an error, plain: none; one of package api's; one of them with a place around it -/
inductive Er where
  | none
  | s (i : Nat)
  | at_ (pos : Int) (i : Nat)

/-- a value that is such an error -/
def ErV (ea : Nat → Addr) (w : World) (v : Value) : Er → Prop
  | .none => v = .nilIface
  | .s i => i < 18 ∧ v = eV ea i
  | .at_ pos i => i < 18 ∧ ∃ b off, v = .iface 81 (.pointer (some ⟨b, off, none⟩)) ∧ w.cell? ⟨b, off, none⟩ = some (.int .i64 pos) ∧ w.cell? ⟨b, off + 1, none⟩ = some (eV ea i)

theorem ErV.below {ea : Nat → Addr} {w w' : World} {v : Value} {e : Er} (h : ErV ea w v e) (hb : Below w.heap.size w w') : ErV ea w' v e := by
  cases e with
  | none => exact h
  | s i => exact h
  | at_ pos i =>
    obtain ⟨hi, b, off, hv, h1, h2⟩ := h
    exact ⟨hi, b, off, hv, by rw [hb.cell (Below.lt h1)]; exact h1, by rw [hb.cell (Below.lt h2)]; exact h2⟩

/-- the plain fault: its number, whether there is a place, the place -/
def Er.code : Er → Int
  | .none => 0
  | .s i => 101 + i
  | .at_ _ i => 101 + i
def Er.placed : Er → Bool
  | .at_ .. => true
  | _ => false
def Er.pos : Er → Int
  | .at_ p _ => p
  | _ => 0

theorem noneF (w : World) : Calls Tryd.prog 52 #[] w fun e w' => e = .returned (.agg #[.int .i64 0, .bool false, .int .i64 0]) ∧ Below w.heap.size w w' := by
  go_enter Tryd.func52, Tryd.ntmps52
  go_wp2_with fail
  exact bodyPost_ret (v := .agg #[.int .i64 0, .bool false, .int .i64 0]) (by simp [results, Tryd.results52, go_sem]) rfl ⟨rfl, (Below.refl _ _).alloc (Nat.le_refl _) _⟩
theorem bare (n : Int) (w : World) : Calls Tryd.prog 26 #[.int .i64 n] w fun e w' => e = .returned (.agg #[.int .i64 n, .bool false, .int .i64 0]) ∧ Below w.heap.size w w' := by
  go_enter Tryd.func26, Tryd.ntmps26
  go_wp2_with fail
  exact bodyPost_ret (v := .agg #[.int .i64 n, .bool false, .int .i64 0]) (by simp [results, Tryd.results26, go_sem]) rfl ⟨rfl, (Below.refl _ _).alloc (Nat.le_refl _) _⟩
theorem placed (n p : Int) (hn : n ≠ 0) (w : World) : Calls Tryd.prog 54 #[.int .i64 n, .int .i64 p] w fun e w' => e = .returned (.agg #[.int .i64 n, .bool true, .int .i64 p]) ∧ Below w.heap.size w w' := by
  have h0 : (n == 0) = false := by simp [hn]
  go_enter Tryd.func54, Tryd.ntmps54
  go_wp2_with fail
  exact bodyPost_ret (v := .agg #[.int .i64 n, .bool true, .int .i64 p]) (by simp [results, Tryd.results54, go_sem]) rfl ⟨rfl, (Below.refl _ _).alloc (Nat.le_refl _) _⟩
theorem sameFault (a b c d : Int) (p q : Bool) (w : World) : Calls Tryd.prog 41 #[.agg #[.int .i64 a, .bool p, .int .i64 b], .agg #[.int .i64 c, .bool q, .int .i64 d]] w
    fun e w' => e = .returned (.bool (a == c && (p == q && b == d))) ∧ Below w.heap.size w w' := by
  have hb : ∀ o1 o2, Below w.heap.size w ((w.alloc o1).alloc o2) := fun o1 o2 => ((Below.refl _ _).alloc (Nat.le_refl _) o1).alloc (by simp) o2
  have HB := Lib.hid hb
  clear hb
  by_cases h1 : (a == c) = true
  · by_cases h2 : (p == q) = true
    · go_enter Tryd.func41, Tryd.ntmps41
      go_wp2_with fail
      go_ret
      exact ⟨by simp [h1, h2], HB.out _ _⟩
    · have h3 : (p == q) = false := by simpa using h2
      clear h2
      go_enter Tryd.func41, Tryd.ntmps41
      go_wp2_with fail
      go_ret
      exact ⟨by simp [h1, h3], HB.out _ _⟩
  · have h3 : (a == c) = false := by simpa using h1
    clear h1
    go_enter Tryd.func41, Tryd.ntmps41
    go_wp2_with fail
    go_ret
    exact ⟨by simp [h3], HB.out _ _⟩

theorem assertNo (a : Addr) (w : World) : (Instr.typeAssert (.iface 91 (.pointer (some a))) 34 81 true).run Tryd.prog w = .ok (.tuple #[.pointer none, .bool false]) w := by kernel_rfl
theorem assertYes (a : Addr) (w : World) : (Instr.typeAssert (.iface 81 (.pointer (some a))) 34 81 true).run Tryd.prog w = .ok (.tuple #[.pointer (some a), .bool true]) w := by kernel_rfl

theorem fault {ea : Nat → Addr} (w : World) (h : Sen ea w) (v : Value) (er : Er) (hv : ErV ea w v er) (hp : er.placed = false) :
    Calls Tryd.prog 42 #[v] w fun e w' => e = .returned (.agg #[.int .i64 er.code, .bool er.placed, .int .i64 er.pos]) ∧ Below w.heap.size w w' := by
  have hb0 : ∀ o, Below w.heap.size w (w.alloc o) := fun o => (Below.refl _ _).alloc (Nat.le_refl _) o
  cases er with
  | none =>
    obtain rfl := hv
    go_enter Tryd.func42, Tryd.ntmps42
    go_wp2_with fail
    refine (noneF _).mono ?_
    rintro e w1 ⟨rfl, hb1⟩
    have hb : Below w.heap.size w w1 := (hb0 _).trans (hb1.mono (by simp))
    obtain ⟨hc0, hc1, hc2, hf0, hf1, hf2, hsz⟩ := after3 hb1
    go_wp2_with fail
    exact bodyPost_ret (v := .agg #[.int .i64 0, .bool false, .int .i64 0]) (by simp [results, Tryd.results42, go_sem, hc0, hc1, hc2]) rfl ⟨rfl, ((hb.setCell (Nat.le_refl _) _).setCell (Nat.le_refl _) _).setCell (Nat.le_refl _) _⟩
  | s i =>
    obtain ⟨hi, rfl⟩ := hv
    have hsen := fun w' (hb : Below w.heap.size w w') => sentinel w' (h.below hb) i hi
    unfold eV at *
    have HS := Lib.hid hsen
    have ta := assertNo (ea i)
    clear hsen
    go_enter Tryd.func42, Tryd.ntmps42
    go_wp2_with fail
    refine (HS.out _ (hb0 _)).mono ?_
    rintro e w1 ⟨rfl, hb1⟩
    have hb : Below w.heap.size w w1 := (hb0 _).trans (hb1.mono (by simp))
    have hsz1 := hb1.size
    go_wp2_with fail
    refine (bare _ w1).mono ?_
    rintro e w2 ⟨rfl, hb2⟩
    have hb3 : Below w.heap.size w w2 := hb.trans (hb2.mono hb.size)
    obtain ⟨hc0, hc1, hc2, hf0, hf1, hf2, hsz⟩ := after3 (hb1.trans (hb2.mono hsz1))
    go_wp2_with fail
    exact bodyPost_ret (v := .agg #[.int .i64 (101 + i), .bool false, .int .i64 0]) (by simp [results, Tryd.results42, go_sem, hc0, hc1, hc2]) rfl ⟨rfl, ((hb3.setCell (Nat.le_refl _) _).setCell (Nat.le_refl _) _).setCell (Nat.le_refl _) _⟩
  | at_ pos i => simp [Er.placed] at hp

/-- Same: is an error this fault? -/
theorem sameErr {ea : Nat → Addr} (w : World) (h : Sen ea w) (v : Value) (er : Er) (hv : ErV ea w v er) (hp : er.placed = false) (c p : Int) (q : Bool) :
    Calls Tryd.prog 25 #[v, .agg #[.int .i64 c, .bool q, .int .i64 p]] w fun e w' => e = .returned (.bool (er.code == c && (er.placed == q && er.pos == p))) ∧ Below w.heap.size w w' := by
  have hW : Below w.heap.size w (w.alloc (.cells #[.int .i64 c, .bool q, .int .i64 p] 60)).drew := ((Below.refl _ _).alloc (Nat.le_refl _) _).drew
  have k1 : ∀ w1, Below (w.alloc (.cells #[.int .i64 c, .bool q, .int .i64 p] 60)).drew.heap.size (w.alloc (.cells #[.int .i64 c, .bool q, .int .i64 p] 60)).drew w1 →
      (w1.cell? ⟨w.heap.size, 0, none⟩ = some (.int .i64 c) ∧ w1.cell? ⟨w.heap.size, 1, none⟩ = some (.bool q) ∧ w1.cell? ⟨w.heap.size, 2, none⟩ = some (.int .i64 p)) ∧ Below w.heap.size w w1 := fun w1 hb => by
    obtain ⟨h1, h2, h3, _⟩ := after3 (((Below.refl _ _).drew).trans hb)
    exact ⟨⟨h1, h2, h3⟩, hW.trans (hb.mono hW.size)⟩
  have K := Lib.hid k1
  have HW := Lib.hid hW
  have HP := Lib.hid hp
  clear k1 hW hp
  go_enter Tryd.func25, Tryd.ntmps25
  go_wp2_with fail
  go_region_held3 (fun w' => w'.cell? ⟨w.heap.size, 0, none⟩ = some (.int .i64 c) ∧ w'.cell? ⟨w.heap.size, 1, none⟩ = some (.bool q) ∧ w'.cell? ⟨w.heap.size, 2, none⟩ = some (.int .i64 p))
    (first | go_keep | exact (K.out _ hb1).1 | exact (K.out _ (hb1.trans (hb2.mono hb1.size))).1)
    ((first
      | (go_at_call 42; refine (fault _ (h.below HW.out) v er (hv.below HW.out) HP.out).mono ?_; rintro e w1 ⟨rfl, hb1⟩)
      | (go_at_call 41; refine (sameFault _ _ _ _ _ _ _).mono ?_; rintro e w2 ⟨rfl, hb2⟩)))
  generalize hr : (er.code == c && (er.placed == q && er.pos == p)) = r
  have HR := Lib.hid hr
  clear hr
  go_wp2_with fail
  go_ret
  exact ⟨by rw [HR.out]; rfl, (K.out _ (hb1.trans (hb2.mono hb1.size))).2⟩

/-- Is: is an error this one, with nothing around it? -/
theorem isErr {ea : Nat → Addr} (w : World) (h : Sen ea w) (v : Value) (er : Er) (hv : ErV ea w v er) (hp : er.placed = false) (c : Int) :
    Calls Tryd.prog 10 #[v, .int .i64 c] w fun e w' => e = .returned (.bool (er.code == c && (er.placed == false && er.pos == 0))) ∧ Below w.heap.size w w' := by
  go_enter Tryd.func10, Tryd.ntmps10
  go_wp2_with fail
  refine (bare c w).mono ?_
  rintro e w1 ⟨rfl, hb1⟩
  go_wp2_with fail
  refine (sameErr w1 (h.below hb1) v er (hv.below hb1) hp c 0 false).mono ?_
  rintro e w2 ⟨rfl, hb2⟩
  generalize hr : (er.code == c && (er.placed == false && er.pos == 0)) = r
  have HR := Lib.hid hr
  clear hr
  go_wp2_with fail
  go_ret
  exact ⟨by rw [HR.out]; rfl, hb1.trans (hb2.mono hb1.size)⟩

/-- the error of such a number -/
def eC (ea : Nat → Addr) (c : Int) : Value := if c = 0 then .nilIface else eV ea (c - 101).toNat
def OkC (c : Int) : Prop := c = 0 ∨ 101 ≤ c ∧ c ≤ 118

theorem eC_zero (ea : Nat → Addr) : eC ea 0 = .nilIface := rfl
theorem eC_s (ea : Nat → Addr) (i : Nat) : eC ea (101 + i) = eV ea i := by
  unfold eC; rw [if_neg (by omega), show ((101 : Int) + i - 101).toNat = i from by omega]

/-- Is, of an error by its number -/
theorem isC {ea : Nat → Addr} (w : World) (h : Sen ea w) (c : Int) (hc : OkC c) (d : Int) :
    Calls Tryd.prog 10 #[eC ea c, .int .i64 d] w fun e w' => e = .returned (.bool (c == d)) ∧ Below w.heap.size w w' := by
  rcases hc with rfl | ⟨h1, h2⟩
  · refine (isErr w h _ .none (by exact rfl) rfl d).mono ?_
    rintro e w' ⟨rfl, hb⟩
    exact ⟨by simp [Er.code, Er.placed, Er.pos], hb⟩
  · obtain ⟨i, rfl⟩ : ∃ i : Nat, c = 101 + i := ⟨(c - 101).toNat, by omega⟩
    rw [eC_s]
    refine (isErr w h _ (.s i) ⟨by omega, rfl⟩ rfl d).mono ?_
    rintro e w' ⟨rfl, hb⟩
    exact ⟨by simp [Er.code, Er.placed, Er.pos], hb⟩
end Go.Proofs.YtpgelebmhhcodaaDoor
