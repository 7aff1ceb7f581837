/- The model in new memory, its insides put away; phoenixlaw27.first. -/
import Derived.Test.YtpgelebmhhcodaaMdM
import Derived.Test.YtpgelebmhhcodaaMdG
import Derived.Test.YtpgelebmhhcodaaMdH
namespace Go.Proofs.Ytpgelebmhhcodaa
open Go.RowKit
set_option linter.unusedVariables false

theorem L_small {n : Int} (h1 : -1000000 ≤ n) (h2 : n ≤ 1000000) : I64L n := ⟨by omega, by omega⟩
/-- what is kept is as it was -/
structure Fz (Kp : Nat → Prop) (w0 w : World) : Prop where
  os : w.os = w0.os
  tape : w.tape = w0.tape
  output : w.output = w0.output
  size : w0.heap.size ≤ w.heap.size
  keep : ∀ b, Kp b → b < w0.heap.size ∧ w.heap[b]? = w0.heap[b]?
theorem Fz.refl {Kp : Nat → Prop} {w : World} (h : ∀ b, Kp b → b < w.heap.size) : Fz Kp w w := ⟨rfl, rfl, rfl, Nat.le_refl _, fun b hb => ⟨h b hb, rfl⟩⟩
theorem Fz.below {Kp : Nat → Prop} {w0 w w' : World} (h : Fz Kp w0 w) (hb : Below w.heap.size w w') : Fz Kp w0 w' :=
  ⟨hb.os.trans h.os, hb.tape.trans h.tape, hb.output.trans h.output, Nat.le_trans h.size hb.size, fun b hk => ⟨(h.keep b hk).1, (hb.block b (Nat.lt_of_lt_of_le (h.keep b hk).1 h.size)).trans (h.keep b hk).2⟩⟩
theorem Fz.ext {Kp F F' : Nat → Prop} {w0 w w' : World} (h : Fz Kp w0 w) (hx : Ext F w F' w') (hd : ∀ b, F b → ¬ Kp b) : Fz Kp w0 w' ∧ ∀ b, F' b → ¬ Kp b :=
  ⟨⟨hx.os.trans h.os, hx.tape.trans h.tape, hx.output.trans h.output, Nat.le_trans h.size hx.size, fun b hk => ⟨(h.keep b hk).1, (hx.block b (Nat.lt_of_lt_of_le (h.keep b hk).1 h.size) (fun hf => hd b hf hk)).trans (h.keep b hk).2⟩⟩, fun b hf hk => by
    rcases hx.grow b hf with e | e
    · exact hd b e hk
    · have := (h.keep b hk).1
      have := h.size
      omega⟩
theorem Fz.of_below {w0 w : World} (h : Below w0.heap.size w0 w) : Fz (fun b => b < w0.heap.size) w0 w := ⟨h.os, h.tape, h.output, h.size, fun b hb => ⟨hb, h.block b hb⟩⟩
theorem Fz.to_below {w0 w : World} (h : Fz (fun b => b < w0.heap.size) w0 w) : Below w0.heap.size w0 w := ⟨h.os, h.tape, h.output, h.size, fun b hb => (h.keep b hb).2⟩
/-- a model in memory, outside what is kept -/
def Mo (Kp : Nat → Prop) (w0 w : World) (X nl n no : Nat) (many : Int) (l : FM) (op : Int → Option Ses) : Prop :=
  Fz Kp w0 w ∧ ∃ bl bo fo ρ, Md w X bl bo nl n no fo ρ many l op ∧ ∀ b, Fr ρ b → ¬ Kp b
section
variable {Kp : Nat → Prop} {w0 w : World} {X nl n no : Nat} {many : Int} {l : FM} {op : Int → Option Ses}
theorem Mo.bel (h : Mo (fun b => b < w0.heap.size) w0 w X nl n no many l op) : Below w0.heap.size w0 w := h.1.to_below
theorem Mo.below {w' : World} (h : Mo Kp w0 w X nl n no many l op) (hb : Below w.heap.size w w') : Mo Kp w0 w' X nl n no many l op := by
  obtain ⟨h1, bl, bo, fo, ρ, h2, h3⟩ := h
  exact ⟨h1.below hb, bl, bo, fo, ρ, h2.below hb, h3⟩
theorem Mo.turn {w' : World} {bl bo nl' n' no' : Nat} {fo' : Int → Option Value} {ρ ρ' : Nat → Rl} {l' : FM} {op' : Int → Option Ses} (h1 : Fz Kp w0 w) (h3 : ∀ b, Fr ρ b → ¬ Kp b) (hm : Md w' X bl bo nl' n' no' fo' ρ' many l' op') (hx : Ext (Fr ρ) w (Fr ρ') w') : Mo Kp w0 w' X nl' n' no' many l' op' :=
  ⟨(h1.ext hx h3).1, bl, bo, fo', ρ', hm, (h1.ext hx h3).2⟩
theorem Mo.new (many : Int) (hb : Fz Kp w0 w) : Calls Try.prog 26 #[.int .i64 many] w fun e w' => ∃ X, e = .returned (.pointer (some ⟨X, 0, none⟩)) ∧ Mo Kp w0 w' X 0 0 0 many (fun _ => none) (fun _ => none) ∧ Below w.heap.size w w' :=
  (modelNew many).mono fun e w' ⟨h1, h2, h3⟩ => ⟨_, h1, ⟨hb.below h3, _, _, _, _, h2, fun b hf hk => by
    have k1 := (hb.keep b hk).1
    have k2 := hb.size
    unfold Fr at hf
    rw [rlS_other _ _ (by omega), rlS_other _ _ (by omega), rlS_other _ _ (by omega)] at hf
    simp at hf⟩, h3⟩
theorem Fz.trans {Kp Kq : Nat → Prop} {w0 w1 w2 : World} (h : Fz Kp w0 w1) (k : Fz Kq w1 w2) (hk : ∀ b, Kp b → Kq b) : Fz Kp w0 w2 :=
  ⟨k.os.trans h.os, k.tape.trans h.tape, k.output.trans h.output, Nat.le_trans h.size k.size, fun b hb => ⟨(h.keep b hb).1, (k.keep b (hk b hb)).2.trans (h.keep b hb).2⟩⟩
/-- a second thing made behind a model -/
theorem Mo.beside {w3 : World} (h : Mo Kp w0 w X nl n no many l op) (hb : Below w.heap.size w w3) : Mo (fun b => Kp b ∨ (w.heap.size ≤ b ∧ b < w3.heap.size)) w3 w3 X nl n no many l op := by
  obtain ⟨h1, bl, bo, fo, ρ, h2, h3⟩ := h
  have h4 := h1.size
  have h5 := hb.size
  refine ⟨Fz.refl fun b hk => ?_, bl, bo, fo, ρ, h2.below hb, fun b hf hk => ?_⟩
  · rcases hk with e | e
    · have := (h1.keep b e).1; omega
    · omega
  · rcases hk with e | ⟨e, _⟩
    · exact h3 b hf e
    · have := h2.low b hf
      omega
/-- .. is as it was -/
theorem Mo.carry {w2 w3 : World} (h : Mo (fun b => b < w2.heap.size) w2 w3 X nl n no many l op) (hb : Below w0.heap.size w0 w2) (hf : Fz (fun b => b < w0.heap.size ∨ (w2.heap.size ≤ b ∧ b < w3.heap.size)) w3 w) : Mo (fun b => b < w0.heap.size) w0 w X nl n no many l op := by
  obtain ⟨h1, bl, bo, fo, ρ, h2, h3⟩ := h
  have h4 := hb.size
  have h5 := h1.size
  refine ⟨⟨hf.os.trans (h1.os.trans hb.os), hf.tape.trans (h1.tape.trans hb.tape), hf.output.trans (h1.output.trans hb.output), Nat.le_trans h4 (Nat.le_trans h5 hf.size), fun b hk => ⟨hk, ?_⟩⟩, bl, bo, fo, ρ, h2.same fun b hfb => ?_, fun b hfb hk => ?_⟩
  · rw [(hf.keep b (.inl hk)).2, (h1.keep b (by omega)).2, hb.block b hk]
  · exact (hf.keep b (.inr ⟨Nat.not_lt.1 (h3 b hfb), h2.low b hfb⟩)).2
  · exact h3 b hfb (by omega)
theorem Mo.open_ (h : Mo Kp w0 w X nl n no many l op) {s : Int} (hs : I64L s) : Calls Try.prog 51 #[.pointer (some ⟨X, 0, none⟩), .int .i64 s] w fun e w' => e = .returned (.bool (op s).isSome) ∧ Mo Kp w0 w' X nl n no many l op ∧ Below w.heap.size w w' := by
  obtain ⟨h1, bl, bo, fo, ρ, h2, h3⟩ := h
  exact (modelOpen h2 hs).mono fun e w' ⟨q1, q2⟩ => ⟨q1, Mo.below ⟨h1, bl, bo, fo, ρ, h2, h3⟩ q2, q2⟩
theorem Mo.get (h : Mo Kp w0 w X nl n no many l op) {s k : Int} (hs : I64L s) (hk : I64L k) : Calls Try.prog 47 #[.pointer (some ⟨X, 0, none⟩), .int .i64 s, .int .i64 k] w fun e w' => e = .returned (.tuple #[.int .i64 (seesM l op s k).1, .bool (seesM l op s k).2]) ∧ Mo Kp w0 w' X nl n no many l op ∧ Below w.heap.size w w' := by
  obtain ⟨h1, bl, bo, fo, ρ, h2, h3⟩ := h
  exact (modelGet h2 hs hk).mono fun e w' ⟨q1, q2⟩ => ⟨q1, Mo.below ⟨h1, bl, bo, fo, ρ, h2, h3⟩ q2, q2⟩
theorem Mo.all (h : Mo Kp w0 w X nl n no many l op) (hn : nl ≤ 100000) : ∃ T, EntOf l T ∧ T.length ≤ nl ∧ Calls Try.prog 31 #[.pointer (some ⟨X, 0, none⟩)] w fun e w' => ∃ o c, e = .returned (.slice o T.length c) ∧ En w.heap.size w' (.slice o T.length c) T ∧ Mo Kp w0 w' X nl n no many l op ∧ Below w.heap.size w w' := by
  obtain ⟨h1, bl, bo, fo, ρ, h2, h3⟩ := h
  obtain ⟨T, k1, k2, k3⟩ := modelAll h2 hn
  exact ⟨T, k1, k2, k3.mono fun e w' ⟨o, c, q1, q2, q3⟩ => ⟨o, c, q1, q2, Mo.below ⟨h1, bl, bo, fo, ρ, h2, h3⟩ q3, q3⟩⟩
theorem Mo.beginNo (h : Mo Kp w0 w X nl n no many l op) {s : Int} (hs : I64L s) (hno : s < 0 ∨ many ≤ s ∨ (op s).isSome = true) : Calls Try.prog 27 #[.pointer (some ⟨X, 0, none⟩), .int .i64 s] w fun e w' => e = .returned (.bool false) ∧ Mo Kp w0 w' X nl n no many l op ∧ Below w.heap.size w w' := by
  obtain ⟨h1, bl, bo, fo, ρ, h2, h3⟩ := h
  exact (modelBeginNo h2 hs hno).mono fun e w' ⟨q1, q2⟩ => ⟨q1, Mo.below ⟨h1, bl, bo, fo, ρ, h2, h3⟩ q2, q2⟩
theorem Mo.begin_ (h : Mo Kp w0 w X nl n no many l op) {s : Int} (hs : I64L s) (q0 : 0 ≤ s) (q1 : s < many) (ho : op s = none) (hn : no < 1000000) : Calls Try.prog 27 #[.pointer (some ⟨X, 0, none⟩), .int .i64 s] w fun e w' => e = .returned (.bool true) ∧ Mo Kp w0 w' X nl n (no + 1) many l (updM op s (some sesNew)) ∧ w.heap.size ≤ w'.heap.size := by
  obtain ⟨h1, bl, bo, fo, ρ, h2, h3⟩ := h
  exact (modelBegin h2 hs q0 q1 ho hn).mono fun e w' ⟨q1, fo', ρ', q2, q3⟩ => ⟨q1, Mo.turn h1 h3 q2 q3, q3.size⟩
theorem Mo.putNo (h : Mo Kp w0 w X nl n no many l op) {s k : Int} (hs : I64L s) (v : Int) (ho : op s = none) : Calls Try.prog 29 #[.pointer (some ⟨X, 0, none⟩), .int .i64 s, .int .i64 k, .int .i64 v] w fun e w' => e = .returned (.tuple #[.int .i64 0, .bool false]) ∧ Mo Kp w0 w' X nl n no many l op ∧ Below w.heap.size w w' := by
  obtain ⟨h1, bl, bo, fo, ρ, h2, h3⟩ := h
  exact (modelPutNo h2 hs v ho).mono fun e w' ⟨q1, q2⟩ => ⟨q1, Mo.below ⟨h1, bl, bo, fo, ρ, h2, h3⟩ q2, q2⟩
theorem Mo.deleteNo (h : Mo Kp w0 w X nl n no many l op) {s k : Int} (hs : I64L s) (ho : op s = none) : Calls Try.prog 28 #[.pointer (some ⟨X, 0, none⟩), .int .i64 s, .int .i64 k] w fun e w' => e = .returned (.tuple #[.int .i64 0, .bool false]) ∧ Mo Kp w0 w' X nl n no many l op ∧ Below w.heap.size w w' := by
  obtain ⟨h1, bl, bo, fo, ρ, h2, h3⟩ := h
  exact (modelDeleteNo h2 hs ho).mono fun e w' ⟨q1, q2⟩ => ⟨q1, Mo.below ⟨h1, bl, bo, fo, ρ, h2, h3⟩ q2, q2⟩
theorem Mo.put (h : Mo Kp w0 w X nl n no many l op) {s k : Int} (hs : I64L s) (hk : I64L k) {v : Int} (hv : I64L v) {z : Ses} (ho : op s = some z) (hn : n < 1000000) : Calls Try.prog 29 #[.pointer (some ⟨X, 0, none⟩), .int .i64 s, .int .i64 k, .int .i64 v] w fun e w' => e = .returned (.tuple #[.int .i64 (seesM l op s k).1, .bool (seesM l op s k).2]) ∧ Mo Kp w0 w' X nl (n + 1) no many l (updM op s (some ⟨updM z.own k (some (v, true)), z.saves⟩)) ∧ w.heap.size ≤ w'.heap.size := by
  obtain ⟨h1, bl, bo, fo, ρ, h2, h3⟩ := h
  exact (modelPut h2 hs hk hv ho hn).mono fun e w' ⟨q1, q2, q3⟩ => ⟨q1, Mo.turn h1 h3 q2 q3, q3.size⟩
theorem Mo.delete_ (h : Mo Kp w0 w X nl n no many l op) {s k : Int} (hs : I64L s) (hk : I64L k) {z : Ses} (ho : op s = some z) (hn : n < 1000000) : Calls Try.prog 28 #[.pointer (some ⟨X, 0, none⟩), .int .i64 s, .int .i64 k] w fun e w' => e = .returned (.tuple #[.int .i64 (seesM l op s k).1, .bool (seesM l op s k).2]) ∧ Mo Kp w0 w' X nl (n + 1) no many l (updM op s (some ⟨updM z.own k (some (0, false)), z.saves⟩)) ∧ w.heap.size ≤ w'.heap.size := by
  obtain ⟨h1, bl, bo, fo, ρ, h2, h3⟩ := h
  exact (modelDelete h2 hs hk ho hn).mono fun e w' ⟨q1, q2, q3⟩ => ⟨q1, Mo.turn h1 h3 q2 q3, q3.size⟩
theorem Mo.saveNo (h : Mo Kp w0 w X nl n no many l op) {s : Int} (hs : I64L s) (ho : op s = none) : Calls Try.prog 46 #[.pointer (some ⟨X, 0, none⟩), .int .i64 s] w fun e w' => e = .returned (.int .i64 (-1)) ∧ Mo Kp w0 w' X nl n no many l op ∧ Below w.heap.size w w' := by
  obtain ⟨h1, bl, bo, fo, ρ, h2, h3⟩ := h
  exact (modelSaveNo h2 hs ho).mono fun e w' ⟨q1, q2⟩ => ⟨q1, Mo.below ⟨h1, bl, bo, fo, ρ, h2, h3⟩ q2, q2⟩
theorem Mo.save (h : Mo Kp w0 w X nl n no many l op) {s : Int} (hs : I64L s) {z : Ses} (ho : op s = some z) (hn : z.saves.length ≤ 100000) : Calls Try.prog 46 #[.pointer (some ⟨X, 0, none⟩), .int .i64 s] w fun e w' => e = .returned (.int .i64 z.saves.length) ∧ Mo Kp w0 w' X nl n no many l (updM op s (some ⟨z.own, z.saves ++ [z.own]⟩)) ∧ w.heap.size ≤ w'.heap.size := by
  obtain ⟨h1, bl, bo, fo, ρ, h2, h3⟩ := h
  exact (modelSave h2 hs ho hn).mono fun e w' ⟨q1, ρ', q2, q3⟩ => ⟨q1, Mo.turn h1 h3 q2 q3, q3.size⟩
theorem Mo.backNo (h : Mo Kp w0 w X nl n no many l op) {s t : Int} (hs : I64L s) (ho : ∀ z, op s = some z → t < 0 ∨ (z.saves.length : Int) ≤ t) : Calls Try.prog 50 #[.pointer (some ⟨X, 0, none⟩), .int .i64 s, .int .i64 t] w fun e w' => e = .returned (.bool false) ∧ Mo Kp w0 w' X nl n no many l op ∧ Below w.heap.size w w' := by
  obtain ⟨h1, bl, bo, fo, ρ, h2, h3⟩ := h
  exact (modelBackNo h2 hs ho).mono fun e w' ⟨q1, q2⟩ => ⟨q1, Mo.below ⟨h1, bl, bo, fo, ρ, h2, h3⟩ q2, q2⟩
theorem Mo.back (h : Mo Kp w0 w X nl n no many l op) {s : Int} (hs : I64L s) {z : Ses} (ho : op s = some z) {t : Nat} {m : FM} (hm : z.saves[t]? = some m) (hl : z.saves.length ≤ 100000) : Calls Try.prog 50 #[.pointer (some ⟨X, 0, none⟩), .int .i64 s, .int .i64 t] w fun e w' => e = .returned (.bool true) ∧ Mo Kp w0 w' X nl n no many l (updM op s (some ⟨m, z.saves.take (t + 1)⟩)) ∧ w.heap.size ≤ w'.heap.size := by
  obtain ⟨h1, bl, bo, fo, ρ, h2, h3⟩ := h
  exact (modelBack h2 hs ho hm hl).mono fun e w' ⟨q1, ρ', q2, q3⟩ => ⟨q1, Mo.turn h1 h3 q2 q3, q3.size⟩
theorem Mo.commitNo (h : Mo Kp w0 w X nl n no many l op) {s : Int} (hs : I64L s) (ho : op s = none) : Calls Try.prog 30 #[.pointer (some ⟨X, 0, none⟩), .int .i64 s] w fun e w' => e = .returned (.bool false) ∧ Mo Kp w0 w' X nl n no many l op ∧ Below w.heap.size w w' := by
  obtain ⟨h1, bl, bo, fo, ρ, h2, h3⟩ := h
  exact (modelCommitNo h2 hs ho).mono fun e w' ⟨q1, q2⟩ => ⟨q1, Mo.below ⟨h1, bl, bo, fo, ρ, h2, h3⟩ q2, q2⟩
theorem Mo.commit (h : Mo Kp w0 w X nl n no many l op) {s : Int} (hs : I64L s) {z : Ses} (ho : op s = some z) (hn : nl + n ≤ 100000) : Calls Try.prog 30 #[.pointer (some ⟨X, 0, none⟩), .int .i64 s] w fun e w' => e = .returned (.bool true) ∧ Mo Kp w0 w' X (nl + n) n no many (pruneM (mergeM l z.own)) (updM op s none) ∧ w.heap.size ≤ w'.heap.size := by
  obtain ⟨h1, bl, bo, fo, ρ, h2, h3⟩ := h
  exact (modelCommit h2 hs ho hn).mono fun e w' ⟨q1, q2, q3⟩ => ⟨q1, Mo.turn h1 h3 q2 q3, q3.size⟩
theorem Mo.abort (h : Mo Kp w0 w X nl n no many l op) {s : Int} (hs : I64L s) : Calls Try.prog 48 #[.pointer (some ⟨X, 0, none⟩), .int .i64 s] w fun e w' => e = .returned (.bool (op s).isSome) ∧ Mo Kp w0 w' X nl n no many l (updM op s none) ∧ w.heap.size ≤ w'.heap.size := by
  obtain ⟨h1, bl, bo, fo, ρ, h2, h3⟩ := h
  exact (modelAbort h2 hs).mono fun e w' ⟨q1, q2, q3⟩ => ⟨q1, Mo.turn h1 h3 q2 q3, q3.size⟩
theorem Mo.crash (h : Mo Kp w0 w X nl n no many l op) : Calls Try.prog 49 #[.pointer (some ⟨X, 0, none⟩)] w fun e w' => e = .returned (.tuple #[]) ∧ Mo Kp w0 w' X nl n no many l (fun _ => none) ∧ w.heap.size ≤ w'.heap.size := by
  obtain ⟨h1, bl, bo, fo, ρ, h2, h3⟩ := h
  exact (modelCrash h2).mono fun e w' ⟨q1, q2, q3⟩ => ⟨q1, Mo.turn h1 h3 q2 q3, q3.size⟩
end
theorem EntOf.nil {l : FM} (h : ∀ k, l k = none) {T : List (Int × Int)} (hT : EntOf l T) : T = [] := by
  cases T with
  | nil => rfl
  | cons p T =>
    obtain ⟨i, e⟩ := (hT.2 p.1 p.2).1 (by simp)
    rw [h] at e; simp at e
set_option maxRecDepth 20000 in
set_option maxHeartbeats 2000000 in
theorem modelFirst (w : World) : Calls Try.prog 25 #[] w fun e w' => e = .returned (.bool true) ∧ Below w.heap.size w w' := by
  have HN := Lib.hid (Mo.new (w0 := w) (w := w) 2 (Fz.of_below (Below.refl _ _)))
  go_enter Try.func25, Try.ntmps25
  go_wp2_with fail
  refine HN.out.mono ?_
  clear HN
  rintro e w1 ⟨X, rfl, hm1, _⟩
  obtain ⟨T, hT, _, hall⟩ := hm1.all (by omega)
  have hT0 := EntOf.nil (fun _ => rfl) hT
  subst hT0
  have HA := Lib.hid hall
  clear hall hm1 hT
  go_wp2_with fail
  refine HA.out.mono ?_
  clear HA
  rintro e w2 ⟨o, c, rfl, _, hm2, _⟩
  have HB := Lib.hid (hm2.begin_ (s := 0) (L_small (by omega) (by omega)) (by omega) (by omega) rfl (by omega))
  clear hm2
  go_wp2_with fail
  refine HB.out.mono ?_
  clear HB
  rintro e w3 ⟨rfl, hm3, _⟩
  have HB := Lib.hid (hm3.beginNo (s := 0) (L_small (by omega) (by omega)) (.inr (.inr (by rw [updM_same]; rfl))))
  clear hm3
  go_wp2_with fail
  refine HB.out.mono ?_
  clear HB
  rintro e w4 ⟨rfl, hm4, _⟩
  have ho := hm4.open_ (s := 0) (L_small (by omega) (by omega))
  rw [updM_same] at ho
  simp only [Option.isSome_some] at ho
  have HO := Lib.hid ho
  clear hm4 ho
  go_wp2_with fail
  refine HO.out.mono ?_
  clear HO
  rintro e w5 ⟨rfl, hm5, _⟩
  have ho := hm5.open_ (s := 1) (L_small (by omega) (by omega))
  rw [updM_other _ _ (by omega)] at ho
  simp only [Option.isSome_none] at ho
  have HO := Lib.hid ho
  clear hm5 ho
  go_wp2_with fail
  refine HO.out.mono ?_
  clear HO
  rintro e w6 ⟨rfl, hm6, _⟩
  have HB := Lib.hid hm6.bel
  clear hm6
  go_wp2_with fail
  go_ret
  exact ⟨rfl, HB.out⟩
end Go.Proofs.Ytpgelebmhhcodaa
