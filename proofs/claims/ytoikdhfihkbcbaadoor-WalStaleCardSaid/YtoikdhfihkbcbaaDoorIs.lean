/- Contracts: the statements' helpers on errors (Is, Same, Fault). -/
import Derived.Test.YtoikdhfihkbcbaaDoorErr
import Derived.Deep.RegionHeld3
namespace Go.Proofs.YtoikdhfihkbcbaaDoor
open Go.RowKit
set_option linter.unusedVariables false

/-- an error, plain: none; one of package api's; one of them with a place around it -/
inductive Er where
  | none
  | s (i : Nat)
  | at_ (pos : Int) (i : Nat)

/-- a value that is such an error -/
def ErV (ea : Nat → Addr) (w : World) (v : Value) : Er → Prop
  | .none => v = .nilIface
  | .s i => i < 18 ∧ v = eV ea i
  | .at_ pos i => i < 18 ∧ ∃ b off, v = .iface 102 (.pointer (some ⟨b, off, none⟩)) ∧ w.cell? ⟨b, off, none⟩ = some (.int .i64 pos) ∧ w.cell? ⟨b, off + 1, none⟩ = some (eV ea i)

theorem ErV.below {ea : Nat → Addr} {w w' : World} {v : Value} {e : Er} (h : ErV ea w v e) (hb : Below w.heap.size w w') : ErV ea w' v e := by
  cases e with
  | none => exact h
  | s i => exact h
  | at_ pos i =>
    obtain ⟨hi, b, off, hv, h1, h2⟩ := h
    exact ⟨hi, b, off, hv, by rw [hb.cell (Below.lt h1)]; exact h1, by rw [hb.cell (Below.lt h2)]; exact h2⟩

/-- the plain fault: its number, whether there is a place, the place -/
def Er.code : Er → Int
  | .none => 0
  | .s i => 101 + i
  | .at_ _ i => 101 + i
def Er.placed : Er → Bool
  | .at_ .. => true
  | _ => false
def Er.pos : Er → Int
  | .at_ p _ => p
  | _ => 0

theorem noneF (w : World) : Calls Tryd.prog 65 #[] w fun e w' => e = .returned (.agg #[.int .i64 0, .bool false, .int .i64 0]) ∧ Below w.heap.size w w' := by
  go_enter Tryd.func65, Tryd.ntmps65
  go_wp2_with fail
  exact bodyPost_ret (v := .agg #[.int .i64 0, .bool false, .int .i64 0]) (by simp [results, Tryd.results65, go_sem]) rfl ⟨rfl, (Below.refl _ _).alloc (Nat.le_refl _) _⟩
theorem bare (n : Int) (w : World) : Calls Tryd.prog 53 #[.int .i64 n] w fun e w' => e = .returned (.agg #[.int .i64 n, .bool false, .int .i64 0]) ∧ Below w.heap.size w w' := by
  go_enter Tryd.func53, Tryd.ntmps53
  go_wp2_with fail
  exact bodyPost_ret (v := .agg #[.int .i64 n, .bool false, .int .i64 0]) (by simp [results, Tryd.results53, go_sem]) rfl ⟨rfl, (Below.refl _ _).alloc (Nat.le_refl _) _⟩
theorem placed (n p : Int) (hn : n ≠ 0) (w : World) : Calls Tryd.prog 35 #[.int .i64 n, .int .i64 p] w fun e w' => e = .returned (.agg #[.int .i64 n, .bool true, .int .i64 p]) ∧ Below w.heap.size w w' := by
  have h0 : (n == 0) = false := by simp [hn]
  go_enter Tryd.func35, Tryd.ntmps35
  go_wp2_with fail
  exact bodyPost_ret (v := .agg #[.int .i64 n, .bool true, .int .i64 p]) (by simp [results, Tryd.results35, go_sem]) rfl ⟨rfl, (Below.refl _ _).alloc (Nat.le_refl _) _⟩
theorem sameFault (a b c d : Int) (p q : Bool) (w : World) : Calls Tryd.prog 63 #[.agg #[.int .i64 a, .bool p, .int .i64 b], .agg #[.int .i64 c, .bool q, .int .i64 d]] w
    fun e w' => e = .returned (.bool (a == c && (p == q && b == d))) ∧ Below w.heap.size w w' := by
  have hb : ∀ o1 o2, Below w.heap.size w ((w.alloc o1).alloc o2) := fun o1 o2 => ((Below.refl _ _).alloc (Nat.le_refl _) o1).alloc (by simp) o2
  have HB := Lib.hid hb
  clear hb
  by_cases h1 : (a == c) = true
  · by_cases h2 : (p == q) = true
    · go_enter Tryd.func63, Tryd.ntmps63
      go_wp2_with fail
      go_ret
      exact ⟨by simp [h1, h2], HB.out _ _⟩
    · have h3 : (p == q) = false := by simpa using h2
      clear h2
      go_enter Tryd.func63, Tryd.ntmps63
      go_wp2_with fail
      go_ret
      exact ⟨by simp [h1, h3], HB.out _ _⟩
  · have h3 : (a == c) = false := by simpa using h1
    clear h1
    go_enter Tryd.func63, Tryd.ntmps63
    go_wp2_with fail
    go_ret
    exact ⟨by simp [h3], HB.out _ _⟩

theorem assertNo (a : Addr) (w : World) : (Instr.typeAssert (.iface 124 (.pointer (some a))) 35 102 true).run Tryd.prog w = .ok (.tuple #[.pointer none, .bool false]) w := by kernel_rfl
theorem assertYes (a : Addr) (w : World) : (Instr.typeAssert (.iface 102 (.pointer (some a))) 35 102 true).run Tryd.prog w = .ok (.tuple #[.pointer (some a), .bool true]) w := by kernel_rfl

theorem fault {ea : Nat → Addr} (w : World) (h : Sen ea w) (v : Value) (er : Er) (hv : ErV ea w v er) (hp : er.placed = false) :
    Calls Tryd.prog 64 #[v] w fun e w' => e = .returned (.agg #[.int .i64 er.code, .bool er.placed, .int .i64 er.pos]) ∧ Below w.heap.size w w' := by
  have hb0 : ∀ o, Below w.heap.size w (w.alloc o) := fun o => (Below.refl _ _).alloc (Nat.le_refl _) o
  cases er with
  | none =>
    obtain rfl := hv
    go_enter Tryd.func64, Tryd.ntmps64
    go_wp2_with fail
    refine (noneF _).mono ?_
    rintro e w1 ⟨rfl, hb1⟩
    have hb : Below w.heap.size w w1 := (hb0 _).trans (hb1.mono (by simp))
    obtain ⟨hc0, hc1, hc2, hf0, hf1, hf2, hsz⟩ := after3 hb1
    go_wp2_with fail
    exact bodyPost_ret (v := .agg #[.int .i64 0, .bool false, .int .i64 0]) (by simp [results, Tryd.results64, go_sem, hc0, hc1, hc2]) rfl ⟨rfl, ((hb.setCell (Nat.le_refl _) _).setCell (Nat.le_refl _) _).setCell (Nat.le_refl _) _⟩
  | s i =>
    obtain ⟨hi, rfl⟩ := hv
    have hsen := fun w' (hb : Below w.heap.size w w') => sentinel w' (h.below hb) i hi
    unfold eV at *
    have HS := Lib.hid hsen
    have ta := assertNo (ea i)
    clear hsen
    go_enter Tryd.func64, Tryd.ntmps64
    go_wp2_with fail
    refine (HS.out _ (hb0 _)).mono ?_
    rintro e w1 ⟨rfl, hb1⟩
    have hb : Below w.heap.size w w1 := (hb0 _).trans (hb1.mono (by simp))
    have hsz1 := hb1.size
    go_wp2_with fail
    refine (bare _ w1).mono ?_
    rintro e w2 ⟨rfl, hb2⟩
    have hb3 : Below w.heap.size w w2 := hb.trans (hb2.mono hb.size)
    obtain ⟨hc0, hc1, hc2, hf0, hf1, hf2, hsz⟩ := after3 (hb1.trans (hb2.mono hsz1))
    go_wp2_with fail
    exact bodyPost_ret (v := .agg #[.int .i64 (101 + i), .bool false, .int .i64 0]) (by simp [results, Tryd.results64, go_sem, hc0, hc1, hc2]) rfl ⟨rfl, ((hb3.setCell (Nat.le_refl _) _).setCell (Nat.le_refl _) _).setCell (Nat.le_refl _) _⟩
  | at_ pos i => simp [Er.placed] at hp

/-- Same: is an error this fault? -/
theorem sameErr {ea : Nat → Addr} (w : World) (h : Sen ea w) (v : Value) (er : Er) (hv : ErV ea w v er) (hp : er.placed = false) (c p : Int) (q : Bool) :
    Calls Tryd.prog 34 #[v, .agg #[.int .i64 c, .bool q, .int .i64 p]] w fun e w' => e = .returned (.bool (er.code == c && (er.placed == q && er.pos == p))) ∧ Below w.heap.size w w' := by
  have hW : Below w.heap.size w (w.alloc (.cells #[.int .i64 c, .bool q, .int .i64 p] 68)).drew := ((Below.refl _ _).alloc (Nat.le_refl _) _).drew
  have k1 : ∀ w1, Below (w.alloc (.cells #[.int .i64 c, .bool q, .int .i64 p] 68)).drew.heap.size (w.alloc (.cells #[.int .i64 c, .bool q, .int .i64 p] 68)).drew w1 →
      (w1.cell? ⟨w.heap.size, 0, none⟩ = some (.int .i64 c) ∧ w1.cell? ⟨w.heap.size, 1, none⟩ = some (.bool q) ∧ w1.cell? ⟨w.heap.size, 2, none⟩ = some (.int .i64 p)) ∧ Below w.heap.size w w1 := fun w1 hb => by
    obtain ⟨h1, h2, h3, _⟩ := after3 (((Below.refl _ _).drew).trans hb)
    exact ⟨⟨h1, h2, h3⟩, hW.trans (hb.mono hW.size)⟩
  have K := Lib.hid k1
  have HW := Lib.hid hW
  have HP := Lib.hid hp
  clear k1 hW hp
  go_enter Tryd.func34, Tryd.ntmps34
  go_wp2_with fail
  go_region_held3 (fun w' => w'.cell? ⟨w.heap.size, 0, none⟩ = some (.int .i64 c) ∧ w'.cell? ⟨w.heap.size, 1, none⟩ = some (.bool q) ∧ w'.cell? ⟨w.heap.size, 2, none⟩ = some (.int .i64 p))
    (first | go_keep | exact (K.out _ hb1).1 | exact (K.out _ (hb1.trans (hb2.mono hb1.size))).1)
    ((first
      | (go_at_call 64; refine (fault _ (h.below HW.out) v er (hv.below HW.out) HP.out).mono ?_; rintro e w1 ⟨rfl, hb1⟩)
      | (go_at_call 63; refine (sameFault _ _ _ _ _ _ _).mono ?_; rintro e w2 ⟨rfl, hb2⟩)))
  generalize hr : (er.code == c && (er.placed == q && er.pos == p)) = r
  have HR := Lib.hid hr
  clear hr
  go_wp2_with fail
  go_ret
  exact ⟨by rw [HR.out]; rfl, (K.out _ (hb1.trans (hb2.mono hb1.size))).2⟩

/-- Is: is an error this one, with nothing around it? -/
theorem isErr {ea : Nat → Addr} (w : World) (h : Sen ea w) (v : Value) (er : Er) (hv : ErV ea w v er) (hp : er.placed = false) (c : Int) :
    Calls Tryd.prog 20 #[v, .int .i64 c] w fun e w' => e = .returned (.bool (er.code == c && (er.placed == false && er.pos == 0))) ∧ Below w.heap.size w w' := by
  go_enter Tryd.func20, Tryd.ntmps20
  go_wp2_with fail
  refine (bare c w).mono ?_
  rintro e w1 ⟨rfl, hb1⟩
  go_wp2_with fail
  refine (sameErr w1 (h.below hb1) v er (hv.below hb1) hp c 0 false).mono ?_
  rintro e w2 ⟨rfl, hb2⟩
  generalize hr : (er.code == c && (er.placed == false && er.pos == 0)) = r
  have HR := Lib.hid hr
  clear hr
  go_wp2_with fail
  go_ret
  exact ⟨by rw [HR.out]; rfl, hb1.trans (hb2.mono hb1.size)⟩
end Go.Proofs.YtoikdhfihkbcbaaDoor
