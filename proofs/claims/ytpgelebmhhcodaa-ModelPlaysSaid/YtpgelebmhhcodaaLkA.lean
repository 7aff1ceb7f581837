/- Rows of ints, rows of holds, the table of locks, in memory. -/
import Derived.Test.YtpgelebmhhcodaaProg
import Derived.Test.YtpgelebmhhcodaaMasRow
import Derived.Deep.AppendLies
namespace Go.Proofs.Ytpgelebmhhcodaa
open Go.RowKit
set_option linter.unusedVariables false

theorem ownsRow_sameL {w w' : World} {base size n : Nat} {e : TypeId} {v : Value} {xs : List Value} (h : w.ownsRow base e size v n xs) (hb : ∀ b, v.ownBlock = some b → w'.heap[b]? = w.heap[b]?) : w'.ownsRow base e size v n xs := by
  obtain ⟨h1, h2⟩ := h
  refine ⟨h1, ?_⟩
  rcases h2 with h2 | ⟨g, cap, cur, rfl, h3, h4, h5⟩
  · exact .inl h2
  · exact .inr ⟨g, cap, cur, rfl, h3, by rw [hb g rfl]; exact h4, h5⟩

/-- a hold -/
structure HoldD where
  s : Int
  key : Int
  mode : Int
def I64L (n : Int) : Prop := -9223372036854775808 ≤ n ∧ n ≤ 9223372036854775807
structure HoldD.W (h : HoldD) : Prop where
  s : I64L h.s
  key : I64L h.key
  mode : h.mode = 1 ∨ h.mode = 2
def holdCl (h : HoldD) : List Value := [.int .i64 h.s, .int .i64 h.key, .int .i64 h.mode]
def holdV (h : HoldD) : Value := .agg #[.int .i64 h.s, .int .i64 h.key, .int .i64 h.mode]
theorem flatH_len (T : List HoldD) : (T.flatMap holdCl).length = T.length * 3 := by
  induction T with
  | nil => rfl
  | cons x T ih => rw [List.flatMap_cons, List.length_append, ih, List.length_cons]; simp [holdCl]; omega
theorem flatH : ∀ (T : List HoldD) (n i : Nat) (h : HoldD), T[n]? = some h → i < 3 → (T.flatMap holdCl)[n * 3 + i]? = (holdCl h)[i]?
  | [], n, i, r, h, _ => by simp at h
  | x :: T, 0, i, r, h, hi => by
    simp only [List.getElem?_cons_zero, Option.some.injEq] at h
    subst h
    rw [List.flatMap_cons, List.getElem?_append_left (by simp [holdCl]; omega)]
    simp
  | x :: T, n + 1, i, r, h, hi => by
    rw [List.flatMap_cons, List.getElem?_append_right (by simp [holdCl]; omega), ← flatH T n i r (by simpa using h) hi]
    congr 1
    simp [holdCl]
    omega
/-- holds in a row of their own -/
def Ho (base : Nat) (w : World) (v : Value) (T : List HoldD) : Prop := (∀ h ∈ T, h.W) ∧ w.ownsRow base 91 3 v T.length (T.flatMap holdCl)
theorem Ho.nil {base : Nat} {w : World} : Ho base w (.slice none 0 0) [] := ⟨fun _ h => by simp at h, World.ownsRow_nil _ _ _ _⟩
theorem Ho.same {base : Nat} {w w' : World} {v : Value} {T : List HoldD} (h : Ho base w v T) (hb : ∀ b, v.ownBlock = some b → w'.heap[b]? = w.heap[b]?) : Ho base w' v T := ⟨h.1, ownsRow_sameL h.2 hb⟩
theorem Ho.lt {base : Nat} {w : World} {v : Value} {T : List HoldD} (h : Ho base w v T) {b : Nat} (hb : v.ownBlock = some b) : base ≤ b ∧ b < w.heap.size := h.2.lt b hb
theorem Ho.below {base : Nat} {w w' : World} {v : Value} {T : List HoldD} (h : Ho base w v T) (hb : Below w.heap.size w w') : Ho base w' v T := h.same fun b e => hb.block b (h.lt e).2
theorem Ho.form {base : Nat} {w : World} {v : Value} {T : List HoldD} (h : Ho base w v T) :
    ∃ o cap, v = .slice o T.length cap ∧ T.length ≤ cap ∧ cap ≤ maxLen ∧ (o = none → cap = 0 ∧ T = []) ∧ (∀ a, o = some a → ∃ g, a = ⟨g, 0, none⟩ ∧ base ≤ g ∧ g < w.heap.size ∧ (∀ i r, T[i]? = some r → ∀ j, j < 3 → w.cell? ⟨g, i * 3 + j, none⟩ = (holdCl r)[j]?)) := by
  rcases h.2.2 with ⟨rfl, hn⟩ | ⟨g, cap, cur, rfl, hbg, hg, hn, hcm, hcs, ht⟩
  · have : T = [] := List.eq_nil_of_length_eq_zero hn
    subst this
    exact ⟨none, 0, rfl, by simp, by simp [maxLen], fun _ => ⟨rfl, rfl⟩, fun a e => by simp at e⟩
  · refine ⟨some ⟨g, 0, none⟩, cap, rfl, hn, hcm, by simp, fun a e => ⟨g, by simpa using e.symm, hbg, (Array.getElem?_eq_some_iff.1 hg).1, fun i r hr j hj => ?_⟩⟩
    have hi : i < T.length := (List.getElem?_eq_some_iff.1 hr).1
    rw [cell_of_row w g _ _ _ _ hg, ← flatH T i j r hr hj, ← ht, List.getElem?_take, if_pos (by omega)]
    simp
theorem Ho.at_ {base : Nat} {w : World} {o : Option Addr} {n cap : Nat} {T : List HoldD} (h : Ho base w (.slice o n cap) T) {k : Nat} (hk : k < T.length) :
    ∃ g r, o = some ⟨g, 0, none⟩ ∧ base ≤ g ∧ g < w.heap.size ∧ T[k]? = some r ∧ r.W ∧ w.cell? ⟨g, k * 3, none⟩ = some (.int .i64 r.s) ∧ w.cell? ⟨g, k * 3 + 1, none⟩ = some (.int .i64 r.key) ∧ w.cell? ⟨g, k * 3 + 2, none⟩ = some (.int .i64 r.mode) := by
  obtain ⟨o', cap', he, h1, h2, h3, h4⟩ := h.form
  simp only [Value.slice.injEq] at he
  obtain ⟨rfl, _, rfl⟩ := he
  cases o with
  | none => rw [(h3 rfl).2] at hk; simp at hk
  | some a =>
    obtain ⟨g, rfl, hb, hg, hc⟩ := h4 a rfl
    have hr := List.getElem?_eq_getElem hk
    exact ⟨g, T[k], rfl, hb, hg, hr, h.1 _ (List.getElem_mem hk), hc k _ hr 0 (by omega), hc k _ hr 1 (by omega), hc k _ hr 2 (by omega)⟩

/-- the table of locks -/
structure Tb (w : World) (X : Nat) (v : Value) (T : List HoldD) : Prop where
  head : w.heap[X]? = some (.cells #[v] 26 (0, 0))
  own : Ho 0 w v T
  vX : v.ownBlock ≠ some X
  len : T.length ≤ 10000
def Tb.F (X : Nat) (v : Value) : Nat → Prop := fun b => b = X ∨ v.ownBlock = some b
theorem Tb.low {w : World} {X : Nat} {v : Value} {T : List HoldD} (h : Tb w X v T) {b : Nat} (hb : Tb.F X v b) : b < w.heap.size := by
  rcases hb with rfl | e
  · exact (Array.getElem?_eq_some_iff.1 h.head).1
  · exact (h.own.lt e).2
theorem Tb.same {w w' : World} {X : Nat} {v : Value} {T : List HoldD} (h : Tb w X v T) (hb : ∀ b, Tb.F X v b → w'.heap[b]? = w.heap[b]?) : Tb w' X v T :=
  ⟨by rw [hb X (.inl rfl)]; exact h.head, h.own.same fun b e => hb b (.inr e), h.vX, h.len⟩
theorem Tb.below {w w' : World} {X : Nat} {v : Value} {T : List HoldD} (h : Tb w X v T) (hb : Below w.heap.size w w') : Tb w' X v T := h.same fun b hf => hb.block b (h.low hf)
theorem Tb.cell {w : World} {X : Nat} {v : Value} {T : List HoldD} (h : Tb w X v T) : w.cell? ⟨X, 0, none⟩ = some v ∧ w.frozen? ⟨X, 0, none⟩ = false := ⟨by rw [cell_of_row w X _ _ _ (0, 0) h.head]; rfl, rowFrozen h.head 0⟩
theorem Tb.new (w : World) : Tb (w.alloc (.cells #[.slice none 0 0] 26)) w.heap.size (.slice none 0 0) [] := ⟨heap_alloc_new w _, Ho.nil, by simp [Value.ownBlock], by simp⟩

/-- how a session holds a key -/
def modeT (T : List HoldD) (s key : Int) : Int := ((T.find? fun h => h.s == s && h.key == key).map (·.mode)).getD 0
theorem modeT_nil (s key : Int) : modeT [] s key = 0 := rfl

set_option maxRecDepth 20000 in
theorem tabMode {w : World} {X : Nat} {v : Value} {T : List HoldD} (h : Tb w X v T) (s key : Int) :
    Calls Try.prog 18 #[.pointer (some ⟨X, 0, none⟩), .int .i64 s, .int .i64 key] w fun e w' => e = .returned (.int .i64 (modeT T s key)) ∧ Below w.heap.size w w' := by
  obtain ⟨c0, _⟩ := h.cell
  obtain ⟨o, cap, rfl, h1, h2, _, _⟩ := h.own.form
  have HT := Lib.hid h
  have hlen := h.len
  unfold maxLen at h2
  obtain ⟨n, hn⟩ : ∃ n, n = T.length := ⟨_, rfl⟩
  rw [← hn] at h1 hlen c0 HT
  have HN := Lib.hid hn
  obtain ⟨R, hR⟩ : ∃ R, R = modeT T s key := ⟨_, rfl⟩
  rw [← hR]
  have HR : Hid (R = modeT (T.drop 0) s key) := Lib.hid (by rw [List.drop_zero]; exact hR)
  clear h hn hR
  go_enter Try.func18, Try.ntmps18
  go_wp2_with fail
  go_loopw [14] (fun i wr => ∃ k : Nat, i = .int .i64 k ∧ k ≤ n ∧ Hid (Below w.heap.size w wr) ∧ Hid (R = modeT (T.drop k) s key)) (fun i _ => n - (intOf i).toNat)
  case atStart => exact ⟨0, rfl, by omega, Lib.hid (Below.refl _ _), HR⟩
  case round =>
    obtain ⟨k, rfl, hk, HB, HRR⟩ := hrel
    clear HR
    by_cases hkn : (k : Int) < n
    · obtain ⟨g, r, rfl, _, _, hr, hrw, q0, q1, q2⟩ := (HT.out.own.below HB.out).at_ (k := k) (by rw [← HN.out]; omega)
      have hdrop : T.drop k = r :: T.drop (k + 1) := by
        obtain ⟨hlt, he⟩ := List.getElem?_eq_some_iff.1 hr
        rw [List.drop_eq_getElem_cons hlt, he]
      have hmode : modeT (T.drop k) s key = if (r.s == s && r.key == key) = true then r.mode else modeT (T.drop (k + 1)) s key := by
        rw [hdrop]
        unfold modeT
        rw [List.find?_cons]
        cases hc : (r.s == s && r.key == key) <;> simp
      rw [hmode] at HRR
      have hb1 : ∀ o, Below w.heap.size w (wr.alloc o) := fun o => HB.out.alloc HB.out.size o
      have HB1 := Lib.hid hb1
      obtain ⟨rs, rk, rm⟩ := r
      dsimp only at q0 q1 q2 HRR
      clear hr hrw hdrop hmode hb1
      by_cases e1 : rs = s
      · by_cases e2 : rk = key
        · have HX : Hid (R = rm) := Lib.hid (by rw [HRR.out, if_pos (by simp [e1, e2])])
          clear HRR
          subst e1 e2
          go_wp2_with fail
          go_ret
          exact ⟨by rw [HX.out]; rfl, HB1.out _⟩
        · have HX : Hid (R = modeT (T.drop (k + 1)) s key) := Lib.hid (by rw [HRR.out, if_neg (by simp [e2])])
          have b2 : (rk == key) = false := by simp [e2]
          clear HRR
          subst e1
          go_wp2_with fail
          go_roundw
          case rel => exact ⟨k + 1, by go_num, by omega, Lib.hid (HB1.out _), HX⟩
          case measure => simp [intOf]; omega
      · have HX : Hid (R = modeT (T.drop (k + 1)) s key) := Lib.hid (by rw [HRR.out, if_neg (by simp [e1])])
        have b1 : (rs == s) = false := by simp [e1]
        clear HRR
        go_wp2_with fail
        go_roundw
        case rel => exact ⟨k + 1, by go_num, by omega, Lib.hid (HB1.out _), HX⟩
        case measure => simp [intOf]; omega
    · have HX : Hid (R = 0) := Lib.hid (by rw [HRR.out, List.drop_eq_nil_of_le (by rw [← HN.out]; omega)]; rfl)
      go_wp2_with fail
      go_ret
      exact ⟨by rw [HX.out]; rfl, HB.out⟩
end Go.Proofs.Ytpgelebmhhcodaa
