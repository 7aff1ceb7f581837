/- The model in memory. -/
import Derived.Test.YtpgelebmhhcodaaMp
import Derived.Test.YtpgelebmhhcodaaDskM
import Derived.Test.YtpgelebmhhcodaaLkI
namespace Go.Proofs.Ytpgelebmhhcodaa
open Go.RowKit
set_option linter.unusedVariables false

theorem some_eq {a b : Nat} (h : some a = some b) : b = a := (Option.some.inj h).symm
/-- what a key has -/
abbrev MV := Int × Bool
abbrev FM := Int → Option MV
def vE (x : MV) : Value := .agg #[.int .i64 x.1, .bool x.2]
def mV (m : FM) : Int → Option Value := fun k => (m k).map vE
theorem mV_upd (m : FM) (k : Int) (x : Option MV) : mV (updM m k x) = updM (mV m) k (x.map vE) := by
  funext j; unfold mV updM; split <;> rfl
/-- block b is a map of such -/
structure Mv (w : World) (b n : Nat) (m : FM) : Prop where
  mp : Mp w b n (mV m)
  wf : ∀ k x, m k = some x → I64L x.1
theorem Mv.lt {w : World} {b n : Nat} {m : FM} (h : Mv w b n m) : b < w.heap.size := h.mp.lt
theorem Mv.mono {w : World} {b n n' : Nat} {m : FM} (h : Mv w b n m) (hn : n ≤ n') : Mv w b n' m := ⟨h.mp.mono hn, h.wf⟩
theorem Mv.same {w w' : World} {b n : Nat} {m : FM} (h : Mv w b n m) (hb : w'.heap[b]? = w.heap[b]?) : Mv w' b n m := ⟨h.mp.same hb, h.wf⟩
theorem Mv.made (w : World) : Mv (w.alloc (.map #[] 0)) w.heap.size 0 fun _ => none := ⟨Mp.made w, fun k x e => by simp at e⟩
theorem Mv.key {w : World} {b n : Nat} {m : FM} (h : Mv w b n m) {k : Int} {x : MV} (hk : m k = some x) : I64L k := h.mp.key (v := vE x) (by unfold mV; rw [hk]; rfl)
theorem valZero (w : World) : (zeroValue 108).run Try.prog w = .ok (vE (0, false)) w := by kernel_rfl
theorem Mv.look {w : World} {b n : Nat} {m : FM} (h : Mv w b n m) {k : Int} (hk : I64L k) : (Instr.lookup 98 (.map (some b)) (.int .i64 k) false).run Try.prog w = .ok (vE ((m k).getD (0, false))) w := by
  rw [h.mp.look Try.underlying98 (valZero w) hk]
  unfold mV lookV
  rw [if_neg (by simp)]
  cases m k <;> rfl
theorem Mv.look2 {w : World} {b n : Nat} {m : FM} (h : Mv w b n m) {k : Int} (hk : I64L k) : (Instr.lookup 98 (.map (some b)) (.int .i64 k) true).run Try.prog w = .ok (.tuple #[vE ((m k).getD (0, false)), .bool (m k).isSome]) w := by
  rw [h.mp.look Try.underlying98 (valZero w) hk]
  unfold mV lookV
  rw [if_pos rfl]
  cases m k <;> rfl
theorem Mv.store {w : World} {b n : Nat} {m : FM} (h : Mv w b n m) (hn : n < 1000000) {k : Int} (hk : I64L k) {x : MV} (hx : I64L x.1) :
    ∃ w', (Instr.mapUpdate 98 (.map (some b)) (.int .i64 k) (vE x)).run Try.prog w = .ok () w' ∧ Mv w' b (n + 1) (updM m k (some x)) ∧ w.grownBy w' (some b) ∧ w'.heap.size = w.heap.size := by
  obtain ⟨w', h1, h2, h3, h4⟩ := h.mp.store Try.underlying98 hn hk (vE x)
  refine ⟨w', h1, ⟨by rw [mV_upd]; exact h2, fun j y e => ?_⟩, h3, h4⟩
  unfold updM at e
  split at e
  · obtain rfl : x = y := by simpa using e
    exact hx
  · exact h.wf j y e

/-- a session -/
structure Ses where
  own : FM
  saves : List FM
def sesNew : Ses := ⟨fun _ => none, []⟩
structure Sm (w : World) (p b n : Nat) (u : Value) (G : List Nat) (z : Ses) : Prop where
  head : w.heap[p]? = some (.cells #[.map (some b), u] 105 (0, 0))
  own : Mv w b n z.own
  row : w.ownsRow 0 98 1 u G.length (G.map fun g => Value.map (some g))
  len : G.length = z.saves.length
  sav : ∀ (i g : Nat) (m : FM), G[i]? = some g → z.saves[i]? = some m → Mv w g n m
theorem Sm.same {w w' : World} {p b n : Nat} {u : Value} {G : List Nat} {z : Ses} (h : Sm w p b n u G z) (hp : w'.heap[p]? = w.heap[p]?) (hb : w'.heap[b]? = w.heap[b]?) (hu : ∀ g, u.ownBlock = some g → w'.heap[g]? = w.heap[g]?) (hG : ∀ g ∈ G, w'.heap[g]? = w.heap[g]?) : Sm w' p b n u G z :=
  ⟨by rw [hp]; exact h.head, h.own.same hb, ownsRow_sameL h.row hu, h.len, fun i g m e1 e2 => (h.sav i g m e1 e2).same (hG g (List.mem_of_getElem? e1))⟩
theorem Sm.mono {w : World} {p b n n' : Nat} {u : Value} {G : List Nat} {z : Ses} (h : Sm w p b n u G z) (hn : n ≤ n') : Sm w p b n' u G z := ⟨h.head, h.own.mono hn, h.row, h.len, fun i g m e1 e2 => (h.sav i g m e1 e2).mono hn⟩
theorem Sm.cells {w : World} {p b n : Nat} {u : Value} {G : List Nat} {z : Ses} (h : Sm w p b n u G z) : w.cell? ⟨p, 0, none⟩ = some (.map (some b)) ∧ w.cell? ⟨p, 1, none⟩ = some u ∧ w.frozen? ⟨p, 0, none⟩ = false ∧ w.frozen? ⟨p, 1, none⟩ = false :=
  ⟨by rw [cell_of_row w p _ _ _ (0, 0) h.head]; rfl, by rw [cell_of_row w p _ _ _ (0, 0) h.head]; rfl, rowFrozen h.head 0, rowFrozen h.head 1⟩
/-- what a block is to the model -/
inductive Rl
  | no | x | l | o | sv
  | ses (s : Int)
  | own (s : Int)
  | row (s : Int)
def Fr (ρ : Nat → Rl) : Nat → Prop := fun b => ρ b ≠ .no
/-- a block more -/
def rlS (ρ : Nat → Rl) (b : Nat) (r : Rl) : Nat → Rl := fun c => if c = b then r else ρ c
theorem rlS_same (ρ : Nat → Rl) (b : Nat) (r : Rl) : rlS ρ b r b = r := if_pos rfl
theorem rlS_other (ρ : Nat → Rl) {b c : Nat} (r : Rl) (h : c ≠ b) : rlS ρ b r c = ρ c := if_neg h
structure Md (w : World) (X bl bo nl n no : Nat) (fo : Int → Option Value) (ρ : Nat → Rl) (many : Int) (l : FM) (op : Int → Option Ses) : Prop where
  head : w.heap[X]? = some (.cells #[.map (some bl), .map (some bo), .int .i64 many] 101 (0, 0))
  l : Mv w bl nl l
  o : Mp w bo no fo
  rx : ρ X = .x
  rl : ρ bl = .l
  ro : ρ bo = .o
  nob : ∀ s, op s = none → fo s = none
  ses : ∀ s z, op s = some z → ∃ p b u G, fo s = some (.pointer (some ⟨p, 0, none⟩)) ∧ Sm w p b n u G z ∧ ρ p = .ses s ∧ ρ b = .own s ∧ (∀ g, u.ownBlock = some g → ρ g = .row s) ∧ ∀ g ∈ G, ρ g = .sv
  low : ∀ b, Fr ρ b → b < w.heap.size
theorem Md.same {w w' : World} {X bl bo nl n no : Nat} {fo : Int → Option Value} {ρ : Nat → Rl} {many : Int} {l : FM} {op : Int → Option Ses} (h : Md w X bl bo nl n no fo ρ many l op) (hb : ∀ b, Fr ρ b → w'.heap[b]? = w.heap[b]?) : Md w' X bl bo nl n no fo ρ many l op := by
  refine ⟨by rw [hb X (by unfold Fr; rw [h.rx]; simp)]; exact h.head, h.l.same (hb _ (by unfold Fr; rw [h.rl]; simp)), h.o.same (hb _ (by unfold Fr; rw [h.ro]; simp)), h.rx, h.rl, h.ro, h.nob, fun s z e => ?_, fun b hf => ?_⟩
  · obtain ⟨p, b, u, G, k1, k2, k3, k4, k5, k6⟩ := h.ses s z e
    exact ⟨p, b, u, G, k1, k2.same (hb _ (by unfold Fr; rw [k3]; simp)) (hb _ (by unfold Fr; rw [k4]; simp)) (fun g e => hb _ (by unfold Fr; rw [k5 g e]; simp)) (fun g e => hb _ (by unfold Fr; rw [k6 g e]; simp)), k3, k4, k5, k6⟩
  · have h1 := h.low b hf
    have h2 := hb b hf
    rw [Array.getElem?_eq_getElem h1] at h2
    exact (Array.getElem?_eq_some_iff.1 h2).1
theorem Md.below {w w' : World} {X bl bo nl n no : Nat} {fo : Int → Option Value} {ρ : Nat → Rl} {many : Int} {l : FM} {op : Int → Option Ses} (h : Md w X bl bo nl n no fo ρ many l op) (hb : Below w.heap.size w w') : Md w' X bl bo nl n no fo ρ many l op := h.same fun b hf => hb.block b (h.low b hf)
theorem Md.cells {w : World} {X bl bo nl n no : Nat} {fo : Int → Option Value} {ρ : Nat → Rl} {many : Int} {l : FM} {op : Int → Option Ses} (h : Md w X bl bo nl n no fo ρ many l op) : w.cell? ⟨X, 0, none⟩ = some (.map (some bl)) ∧ w.cell? ⟨X, 1, none⟩ = some (.map (some bo)) ∧ w.cell? ⟨X, 2, none⟩ = some (.int .i64 many) :=
  ⟨by rw [cell_of_row w X _ _ _ (0, 0) h.head]; rfl, by rw [cell_of_row w X _ _ _ (0, 0) h.head]; rfl, by rw [cell_of_row w X _ _ _ (0, 0) h.head]; rfl⟩
theorem ptrZero (w : World) : (zeroValue 102).run Try.prog w = .ok (.pointer none) w := by kernel_rfl
/-- whom the map of sessions has -/
theorem Md.look {w : World} {X bl bo nl n no : Nat} {fo : Int → Option Value} {ρ : Nat → Rl} {many : Int} {l : FM} {op : Int → Option Ses} (h : Md w X bl bo nl n no fo ρ many l op) {s : Int} (hs : I64L s) (c : Bool) :
    (Instr.lookup 99 (.map (some bo)) (.int .i64 s) c).run Try.prog w = .ok (lookV c (fo s) (.pointer none)) w := h.o.look Try.underlying99 (ptrZero w) hs c
/-- a session put in: what is not its own is as it was -/
theorem Md.put {w w' : World} {X bl bo nl n no n' no' : Nat} {fo fo' : Int → Option Value} {ρ ρ' : Nat → Rl} {many : Int} {l : FM} {op : Int → Option Ses} (h : Md w X bl bo nl n no fo ρ many l op) {s : Int} {z : Ses}
    (hρ : ∀ b, Fr ρ b → ρ' b = ρ b) (hw : ∀ b, Fr ρ b → ρ b ≠ .ses s → ρ b ≠ .own s → ρ b ≠ .row s → ρ b ≠ .o → w'.heap[b]? = w.heap[b]?)
    (ho : Mp w' bo no' fo') (hfo : ∀ j, j ≠ s → fo' j = fo j) (hn : n ≤ n')
    (hz : ∃ p b u G, fo' s = some (.pointer (some ⟨p, 0, none⟩)) ∧ Sm w' p b n' u G z ∧ ρ' p = .ses s ∧ ρ' b = .own s ∧ (∀ g, u.ownBlock = some g → ρ' g = .row s) ∧ ∀ g ∈ G, ρ' g = .sv)
    (hlow : ∀ b, Fr ρ' b → b < w'.heap.size) : Md w' X bl bo nl n' no' fo' ρ' many l (updM op s (some z)) := by
  have fX : Fr ρ X := by unfold Fr; rw [h.rx]; simp
  have fl : Fr ρ bl := by unfold Fr; rw [h.rl]; simp
  have fo_ : Fr ρ bo := by unfold Fr; rw [h.ro]; simp
  refine ⟨?_, ?_, ho, by rw [hρ _ fX]; exact h.rx, by rw [hρ _ fl]; exact h.rl, by rw [hρ _ fo_]; exact h.ro, fun j e => ?_, fun j y e => ?_, hlow⟩
  · rw [hw X fX (by rw [h.rx]; simp) (by rw [h.rx]; simp) (by rw [h.rx]; simp) (by rw [h.rx]; simp)]; exact h.head
  · exact h.l.same (hw bl fl (by rw [h.rl]; simp) (by rw [h.rl]; simp) (by rw [h.rl]; simp) (by rw [h.rl]; simp))
  · by_cases ej : j = s
    · subst ej; rw [updM_same] at e; simp at e
    · rw [updM_other _ _ ej] at e
      rw [hfo j ej]
      exact h.nob j e
  · by_cases ej : j = s
    · subst ej
      rw [updM_same] at e
      obtain rfl : z = y := by simpa using e
      exact hz
    · rw [updM_other _ _ ej] at e
      obtain ⟨p, b, u, G, k1, k2, k3, k4, k5, k6⟩ := h.ses j y e
      have fp : Fr ρ p := by unfold Fr; rw [k3]; simp
      have fb : Fr ρ b := by unfold Fr; rw [k4]; simp
      have fu : ∀ g, u.ownBlock = some g → Fr ρ g := fun g e => by unfold Fr; rw [k5 g e]; simp
      have fG : ∀ g ∈ G, Fr ρ g := fun g e => by unfold Fr; rw [k6 g e]; simp
      refine ⟨p, b, u, G, by rw [hfo j ej]; exact k1, ((k2.same (hw p fp ?_ ?_ ?_ ?_) (hw b fb ?_ ?_ ?_ ?_) (fun g e => hw g (fu g e) ?_ ?_ ?_ ?_) (fun g e => hw g (fG g e) ?_ ?_ ?_ ?_)).mono hn), by rw [hρ p fp]; exact k3, by rw [hρ b fb]; exact k4, fun g e => by rw [hρ g (fu g e)]; exact k5 g e, fun g e => by rw [hρ g (fG g e)]; exact k6 g e⟩
      all_goals first
        | (rw [k3]; simp [ej])
        | (rw [k4]; simp [ej])
        | (rw [k5 g e]; simp [ej])
        | (rw [k6 g e]; simp [ej])
/-- the sessions' map turned: none begun that was not, and those that are, are as they were -/
theorem Md.cut {w w' : World} {X bl bo nl n no : Nat} {fo fo' : Int → Option Value} {ρ : Nat → Rl} {many : Int} {l : FM} {op op' : Int → Option Ses} (h : Md w X bl bo nl n no fo ρ many l op) {no' : Nat} (hw : w.grownBy w' (some bo))
    (ho : Mp w' bo no' fo') (h1 : ∀ s z, op' s = some z → op s = some z ∧ fo' s = fo s) (h2 : ∀ s, op' s = none → fo' s = none) : Md w' X bl bo nl n no' fo' ρ many l op' := by
  have hb : ∀ b, Fr ρ b → ρ b ≠ .o → w'.heap[b]? = w.heap[b]? := fun b hf hn => hw.block b (h.low b hf) (fun e => hn ((some_eq e) ▸ h.ro))
  have fX : Fr ρ X := by unfold Fr; rw [h.rx]; simp
  have fl : Fr ρ bl := by unfold Fr; rw [h.rl]; simp
  refine ⟨by rw [hb X fX (by rw [h.rx]; simp)]; exact h.head, h.l.same (hb bl fl (by rw [h.rl]; simp)), ho, h.rx, h.rl, h.ro, h2, fun s z e => ?_, fun b hf => Nat.lt_of_lt_of_le (h.low b hf) hw.size⟩
  obtain ⟨e1, e2⟩ := h1 s z e
  obtain ⟨p, b, u, G, k1, k2, k3, k4, k5, k6⟩ := h.ses s z e1
  have fp : Fr ρ p := by unfold Fr; rw [k3]; simp
  have fb : Fr ρ b := by unfold Fr; rw [k4]; simp
  have fu : ∀ g, u.ownBlock = some g → Fr ρ g := fun g e => by unfold Fr; rw [k5 g e]; simp
  have fG : ∀ g ∈ G, Fr ρ g := fun g e => by unfold Fr; rw [k6 g e]; simp
  exact ⟨p, b, u, G, by rw [e2]; exact k1, k2.same (hb p fp (by rw [k3]; simp)) (hb b fb (by rw [k4]; simp)) (fun g e => hb g (fu g e) (by rw [k5 g e]; simp)) (fun g e => hb g (fG g e) (by rw [k6 g e]; simp)), k3, k4, k5, k6⟩
/-- the committed keys turned -/
theorem Md.commit {w w' : World} {X bl bo nl n no nl' : Nat} {fo : Int → Option Value} {ρ : Nat → Rl} {many : Int} {l l' : FM} {op : Int → Option Ses} (h : Md w X bl bo nl n no fo ρ many l op) (hw : w.grownBy w' (some bl)) (hl : Mv w' bl nl' l') : Md w' X bl bo nl' n no fo ρ many l' op := by
  have hb : ∀ b, Fr ρ b → ρ b ≠ .l → w'.heap[b]? = w.heap[b]? := fun b hf hn => hw.block b (h.low b hf) (fun e => hn ((some_eq e) ▸ h.rl))
  have fX : Fr ρ X := by unfold Fr; rw [h.rx]; simp
  have fo_ : Fr ρ bo := by unfold Fr; rw [h.ro]; simp
  refine ⟨by rw [hb X fX (by rw [h.rx]; simp)]; exact h.head, hl, h.o.same (hb bo fo_ (by rw [h.ro]; simp)), h.rx, h.rl, h.ro, h.nob, fun s z e => ?_, fun b hf => Nat.lt_of_lt_of_le (h.low b hf) hw.size⟩
  obtain ⟨p, b, u, G, k1, k2, k3, k4, k5, k6⟩ := h.ses s z e
  have fp : Fr ρ p := by unfold Fr; rw [k3]; simp
  have fb : Fr ρ b := by unfold Fr; rw [k4]; simp
  have fu : ∀ g, u.ownBlock = some g → Fr ρ g := fun g e => by unfold Fr; rw [k5 g e]; simp
  have fG : ∀ g ∈ G, Fr ρ g := fun g e => by unfold Fr; rw [k6 g e]; simp
  exact ⟨p, b, u, G, k1, k2.same (hb p fp (by rw [k3]; simp)) (hb b fb (by rw [k4]; simp)) (fun g e => hb g (fu g e) (by rw [k5 g e]; simp)) (fun g e => hb g (fG g e) (by rw [k6 g e]; simp)), k3, k4, k5, k6⟩
theorem Md.ext {w w' : World} {X bl bo nl n no : Nat} {fo : Int → Option Value} {ρ : Nat → Rl} {many : Int} {l : FM} {op : Int → Option Ses} (h : Md w X bl bo nl n no fo ρ many l op) {b : Nat} (hb : Fr ρ b) (hg : w.grownBy w' (some b)) : Ext (Fr ρ) w (Fr ρ) w' :=
  ⟨hg.os, hg.tape, hg.output, hg.size, fun k hk hn => hg.block k hk fun e => hn ((some_eq e) ▸ hb), fun _ h => .inl h⟩
/-- a session's blocks are its own -/
theorem Md.fX {w : World} {X bl bo nl n no : Nat} {fo : Int → Option Value} {ρ : Nat → Rl} {many : Int} {l : FM} {op : Int → Option Ses} (h : Md w X bl bo nl n no fo ρ many l op) : Fr ρ X ∧ Fr ρ bl ∧ Fr ρ bo :=
  ⟨by unfold Fr; rw [h.rx]; simp, by unfold Fr; rw [h.rl]; simp, by unfold Fr; rw [h.ro]; simp⟩
end Go.Proofs.Ytpgelebmhhcodaa
