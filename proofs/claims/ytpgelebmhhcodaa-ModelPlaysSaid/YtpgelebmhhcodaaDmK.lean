/- The two models beside each other in memory: each operation at both. -/
import Derived.Test.YtpgelebmhhcodaaDmJ
import Derived.Test.YtpgelebmhhcodaaMdT
namespace Go.Proofs.Ytpgelebmhhcodaa
open Go.RowKit
set_option linter.unusedVariables false

def KK (w0 : World) (K : Nat → Prop) : Nat → Prop := fun b => b < w0.heap.size ∨ K b
structure RR (w0 w : World) (K : Nat → Prop) (X nl n no N : Nat) (l : FM) (op : Int → Option Ses) (P : Nat) (L : List (Int × Int)) (on : Nat → Bool) (mine : Nat → List Pc) (saves : Nat → List Int) : Prop where
  mo : Mo (KK w0 K) w w X nl n no (N : Int) l op
  dx : Dx w P N K L on mine saves
  bel : Below w0.heap.size w0 w
  lo : ∀ b, K b → w0.heap.size ≤ b
section
variable {w0 w : World} {K : Nat → Prop} {X nl n no N : Nat} {l : FM} {op : Int → Option Ses} {P : Nat} {L : List (Int × Int)} {on : Nat → Bool} {mine : Nat → List Pc} {saves : Nat → List Int}
theorem RR.turn1 {w' : World} {nl' n' no' : Nat} {l' : FM} {op' : Int → Option Ses} (h : RR w0 w K X nl n no N l op P L on mine saves) (hm : Mo (KK w0 K) w w' X nl' n' no' (N : Int) l' op') : RR w0 w' K X nl' n' no' N l' op' P L on mine saves := by
  have hf := hm.1
  obtain ⟨h1, bl, bo, fo, ρ, h2, h3⟩ := hm
  obtain ⟨A, B, C, vL, vm, vs, hd⟩ := h.dx
  refine ⟨⟨Fz.refl fun b hk => Nat.lt_of_lt_of_le (hf.keep b hk).1 hf.size, bl, bo, fo, ρ, h2, h3⟩, ⟨A, B, C, vL, vm, vs, hd.same (fun b hk => (hf.keep b (.inr hk)).2) hf.size⟩, ?_, h.lo⟩
  exact ⟨hf.os.trans h.bel.os, hf.tape.trans h.bel.tape, hf.output.trans h.bel.output, Nat.le_trans h.bel.size hf.size, fun b hb => (hf.keep b (.inl hb)).2.trans (h.bel.block b hb)⟩
theorem RR.below {w' : World} (h : RR w0 w K X nl n no N l op P L on mine saves) (hb : Below w.heap.size w w') : RR w0 w' K X nl n no N l op P L on mine saves := h.turn1 (h.mo.below hb)
theorem Dx.low (h : Dx w P N K L on mine saves) : ∀ b, K b → b < w.heap.size := by
  obtain ⟨A, B, C, vL, vm, vs, hd⟩ := h
  exact hd.low
theorem RR.turn2 {w' : World} {K' : Nat → Prop} {L' : List (Int × Int)} {on' : Nat → Bool} {mine' : Nat → List Pc} {saves' : Nat → List Int} (h : RR w0 w K X nl n no N l op P L on mine saves) (hx : Dx w' P N K' L' on' mine' saves') (he : Ext K w K' w') : RR w0 w' K' X nl n no N l op P L' on' mine' saves' := by
  obtain ⟨h1, bl, bo, fo, ρ, h2, h3⟩ := h.mo
  have hlo : ∀ b, K' b → w0.heap.size ≤ b := fun b hk => by
    rcases he.grow b hk with e | e
    · exact h.lo b e
    · exact Nat.le_trans h.bel.size e
  refine ⟨⟨Fz.refl fun b hk => ?_, bl, bo, fo, ρ, h2.same fun b hf => he.block b (h2.low b hf) fun e => h3 b hf (.inr e), fun b hf hk => ?_⟩, hx, ?_, hlo⟩
  · rcases hk with e | e
    · exact Nat.lt_of_lt_of_le e (Nat.le_trans h.bel.size he.size)
    · exact hx.low b e
  · rcases hk with e | e
    · exact h3 b hf (.inl e)
    · rcases he.grow b e with e2 | e2
      · exact h3 b hf (.inr e2)
      · have := h2.low b hf
        omega
  · exact h.bel.trans (he.below h.lo h.bel.size)
end
/-- both, alike -/
def St (w0 w : World) (X P N i : Nat) : Prop := ∃ (K : Nat → Prop) (nl n no : Nat) (l : FM) (op : Int → Option Ses) (L : List (Int × Int)) (on : Nat → Bool) (mine : Nat → List Pc) (saves : Nat → List Int),
  RR w0 w K X nl n no N l op P L on mine saves ∧ op = opsOf N on mine saves ∧ EntOf l L ∧ pruneM l = l ∧ (∀ a, a < N → SvOK (mine a) (saves a) ∧ (mine a).length ≤ i ∧ (saves a).length ≤ i) ∧ nl ≤ 80 * i ∧ n ≤ i ∧ no ≤ i
theorem sv_upd {N i j : Nat} {mine : Nat → List Pc} {saves : Nat → List Int} (h : ∀ a, a < N → SvOK (mine a) (saves a) ∧ (mine a).length ≤ i ∧ (saves a).length ≤ i) {M : List Pc} {S : List Int} (hs : SvOK M S) (h1 : M.length ≤ i + 1) (h2 : S.length ≤ i + 1) :
    ∀ a, a < N → SvOK (upN mine j M a) (upN saves j S a) ∧ (upN mine j M a).length ≤ i + 1 ∧ (upN saves j S a).length ≤ i + 1 := fun a ha => by
  by_cases e : a = j
  · subst e
    rw [upN_same, upN_same]
    exact ⟨hs, h1, h2⟩
  · rw [upN_other _ _ e, upN_other _ _ e]
    obtain ⟨q1, q2, q3⟩ := h a ha
    exact ⟨q1, by omega, by omega⟩
theorem sv_same {N i : Nat} {mine : Nat → List Pc} {saves : Nat → List Int} (h : ∀ a, a < N → SvOK (mine a) (saves a) ∧ (mine a).length ≤ i ∧ (saves a).length ≤ i) :
    ∀ a, a < N → SvOK (mine a) (saves a) ∧ (mine a).length ≤ i + 1 ∧ (saves a).length ≤ i + 1 := fun a ha => by
  obtain ⟨q1, q2, q3⟩ := h a ha
  exact ⟨q1, by omega, by omega⟩
theorem updM_id {α : Type} {f : Int → α} {s : Int} {x : α} (h : f s = x) : updM f s x = f := by
  funext j; unfold updM; split
  · rename_i e; rw [e, h]
  · rfl
section
variable {w0 w : World} {X P N i : Nat}
theorem stBegin (h : St w0 w X P N i) (hi : i < 80) {s : Int} (hs : I64L s) :
    ∃ R : Bool, Calls Try.prog 27 #[.pointer (some ⟨X, 0, none⟩), .int .i64 s] w fun e w' => e = .returned (.bool R) ∧ Calls Try.prog 54 #[.pointer (some ⟨P, 0, none⟩), .int .i64 s] w' fun e w'' => e = .returned (.bool R) ∧ St w0 w'' X P N (i + 1) := by
  obtain ⟨K, nl, n, no, l, op, L, on, mine, saves, hr, rfl, hE, hp, hsv, b1, b2, b3⟩ := h
  by_cases hc : s < 0 ∨ (N : Int) ≤ s ∨ onI N on s = true
  · refine ⟨false, (hr.mo.beginNo hs (by rw [opsOf_isSome]; exact hc)).mono ?_⟩
    rintro e w' ⟨rfl, hm, _⟩
    have hr1 := hr.turn1 hm
    refine ⟨rfl, (refBeginNo hr1.dx hs hc).mono ?_⟩
    rintro e w'' ⟨rfl, hb⟩
    exact ⟨rfl, K, nl, n, no, l, _, L, on, mine, saves, hr1.below hb, rfl, hE, hp, sv_same hsv, by omega, by omega, by omega⟩
  · obtain ⟨j, rfl⟩ : ∃ j : Nat, s = j := ⟨s.toNat, by omega⟩
    have hj : j < N := by omega
    have hof : onI N on j = false := by
      cases e : onI N on j with
      | false => rfl
      | true => exact absurd (.inr (.inr e)) hc
    have hon : on j = false := by rwa [onI_in hj] at hof
    refine ⟨true, (hr.mo.begin_ hs (by omega) (by omega) (opsOf_none hof) (by omega)).mono ?_⟩
    rintro e w' ⟨rfl, hm, _⟩
    have hr1 := hr.turn1 hm
    refine ⟨rfl, (refBegin hr1.dx hj hon).mono ?_⟩
    rintro e w'' ⟨rfl, hx, he⟩
    exact ⟨rfl, K, nl, n, no + 1, l, _, L, _, _, _, hr1.turn2 hx he, (by rw [opsOf_upd on mine saves hj]; rfl), hE, hp, sv_upd hsv SvOK.nil (by simp) (by simp), by omega, by omega, by omega⟩
theorem stGet (h : St w0 w X P N i) (hi : i < 80) {s k : Int} (hs : I64L s) (hk : I64L k) :
    ∃ R : MV, Calls Try.prog 47 #[.pointer (some ⟨X, 0, none⟩), .int .i64 s, .int .i64 k] w fun e w' => e = .returned (.tuple #[.int .i64 R.1, .bool R.2]) ∧ Calls Try.prog 56 #[.pointer (some ⟨P, 0, none⟩), .int .i64 s, .int .i64 k] w' fun e w'' => e = .returned (.tuple #[.int .i64 R.1, .bool R.2]) ∧ St w0 w'' X P N (i + 1) := by
  obtain ⟨K, nl, n, no, l, op, L, on, mine, saves, hr, rfl, hE, hp, hsv, b1, b2, b3⟩ := h
  refine ⟨seesM l (opsOf N on mine saves) s k, (hr.mo.get hs hk).mono ?_⟩
  rintro e w' ⟨rfl, hm, _⟩
  have hr1 := hr.turn1 hm
  have hg := refGet hr1.dx hs hk (fun a ha => by have := (hsv a ha).2.1; omega)
  rw [← seesM_of hE hp N on mine saves s k] at hg
  refine ⟨rfl, hg.mono ?_⟩
  rintro e w'' ⟨rfl, hb⟩
  exact ⟨rfl, K, nl, n, no, l, _, L, on, mine, saves, hr1.below hb, rfl, hE, hp, sv_same hsv, by omega, by omega, by omega⟩
theorem stPut (h : St w0 w X P N i) (hi : i < 80) {s k v : Int} (hs : I64L s) (hk : I64L k) (hv : I64L v) :
    ∃ R : MV, Calls Try.prog 29 #[.pointer (some ⟨X, 0, none⟩), .int .i64 s, .int .i64 k, .int .i64 v] w fun e w' => e = .returned (.tuple #[.int .i64 R.1, .bool R.2]) ∧ Calls Try.prog 62 #[.pointer (some ⟨P, 0, none⟩), .int .i64 s, .int .i64 k, .int .i64 v] w' fun e w'' => e = .returned (.tuple #[.int .i64 R.1, .bool R.2]) ∧ St w0 w'' X P N (i + 1) := by
  obtain ⟨K, nl, n, no, l, op, L, on, mine, saves, hr, rfl, hE, hp, hsv, b1, b2, b3⟩ := h
  by_cases hc : onI N on s = true
  · obtain ⟨j, rfl, hj, hon⟩ := onI_inv hc
    have hse := seesM_of hE hp N on mine saves (j : Int) k
    rw [if_pos hc, Int.toNat_natCast] at hse
    refine ⟨seesM l (opsOf N on mine saves) j k, (hr.mo.put hs hk hv (opsOf_some hj hon) (by omega)).mono ?_⟩
    rintro e w' ⟨rfl, hm, _⟩
    have hr1 := hr.turn1 hm
    have hg := refPut hr1.dx hj hon hs hk hv (fun a ha => by have := (hsv a ha).2.1; omega)
    rw [← hse] at hg
    refine ⟨rfl, hg.mono ?_⟩
    rintro e w'' ⟨rfl, K', hx, he⟩
    have hsv2 := sv_upd (j := j) hsv ((hsv j hj).1.put (k, true, v)) (by have := (hsv j hj).2.1; simp; omega) (by have := (hsv j hj).2.2; omega)
    rw [upN_self] at hsv2
    have ho := opsOf_on on mine saves hj hon (mine j ++ [(k, true, v)]) (saves j)
    rw [upN_self, sesOf_put (hsv j hj).1] at ho
    exact ⟨rfl, K', nl, n + 1, no, l, _, L, _, _, _, hr1.turn2 hx he, ho.symm, hE, hp, hsv2, by omega, by omega, by omega⟩
  · have hof : onI N on s = false := by simpa using hc
    refine ⟨(0, false), (hr.mo.putNo hs v (opsOf_none hof)).mono ?_⟩
    rintro e w' ⟨rfl, hm, _⟩
    have hr1 := hr.turn1 hm
    refine ⟨rfl, (refPutNo hr1.dx hs hof k v).mono ?_⟩
    rintro e w'' ⟨rfl, hb⟩
    exact ⟨rfl, K, nl, n, no, l, _, L, on, mine, saves, hr1.below hb, rfl, hE, hp, sv_same hsv, by omega, by omega, by omega⟩
theorem stDelete (h : St w0 w X P N i) (hi : i < 80) {s k : Int} (hs : I64L s) (hk : I64L k) :
    ∃ R : MV, Calls Try.prog 28 #[.pointer (some ⟨X, 0, none⟩), .int .i64 s, .int .i64 k] w fun e w' => e = .returned (.tuple #[.int .i64 R.1, .bool R.2]) ∧ Calls Try.prog 55 #[.pointer (some ⟨P, 0, none⟩), .int .i64 s, .int .i64 k] w' fun e w'' => e = .returned (.tuple #[.int .i64 R.1, .bool R.2]) ∧ St w0 w'' X P N (i + 1) := by
  obtain ⟨K, nl, n, no, l, op, L, on, mine, saves, hr, rfl, hE, hp, hsv, b1, b2, b3⟩ := h
  by_cases hc : onI N on s = true
  · obtain ⟨j, rfl, hj, hon⟩ := onI_inv hc
    have hse := seesM_of hE hp N on mine saves (j : Int) k
    rw [if_pos hc, Int.toNat_natCast] at hse
    refine ⟨seesM l (opsOf N on mine saves) j k, (hr.mo.delete_ hs hk (opsOf_some hj hon) (by omega)).mono ?_⟩
    rintro e w' ⟨rfl, hm, _⟩
    have hr1 := hr.turn1 hm
    have hg := refDelete hr1.dx hj hon hs hk (fun a ha => by have := (hsv a ha).2.1; omega)
    rw [← hse] at hg
    refine ⟨rfl, hg.mono ?_⟩
    rintro e w'' ⟨rfl, K', hx, he⟩
    have hsv2 := sv_upd (j := j) hsv ((hsv j hj).1.put (k, false, 0)) (by have := (hsv j hj).2.1; simp; omega) (by have := (hsv j hj).2.2; omega)
    rw [upN_self] at hsv2
    have ho := opsOf_on on mine saves hj hon (mine j ++ [(k, false, 0)]) (saves j)
    rw [upN_self, sesOf_put (hsv j hj).1] at ho
    exact ⟨rfl, K', nl, n + 1, no, l, _, L, _, _, _, hr1.turn2 hx he, ho.symm, hE, hp, hsv2, by omega, by omega, by omega⟩
  · have hof : onI N on s = false := by simpa using hc
    refine ⟨(0, false), (hr.mo.deleteNo hs (opsOf_none hof)).mono ?_⟩
    rintro e w' ⟨rfl, hm, _⟩
    have hr1 := hr.turn1 hm
    refine ⟨rfl, (refDeleteNo hr1.dx hs hof k).mono ?_⟩
    rintro e w'' ⟨rfl, hb⟩
    exact ⟨rfl, K, nl, n, no, l, _, L, on, mine, saves, hr1.below hb, rfl, hE, hp, sv_same hsv, by omega, by omega, by omega⟩
theorem sesOf_saves_len (M : List Pc) (S : List Int) : (sesOf M S).saves.length = S.length := by simp [sesOf]
theorem stSave (h : St w0 w X P N i) (hi : i < 80) {s : Int} (hs : I64L s) :
    ∃ R : Int, Calls Try.prog 46 #[.pointer (some ⟨X, 0, none⟩), .int .i64 s] w fun e w' => e = .returned (.int .i64 R) ∧ Calls Try.prog 57 #[.pointer (some ⟨P, 0, none⟩), .int .i64 s] w' fun e w'' => e = .returned (.int .i64 R) ∧ St w0 w'' X P N (i + 1) := by
  obtain ⟨K, nl, n, no, l, op, L, on, mine, saves, hr, rfl, hE, hp, hsv, b1, b2, b3⟩ := h
  by_cases hc : onI N on s = true
  · obtain ⟨j, rfl, hj, hon⟩ := onI_inv hc
    obtain ⟨q1, q2, q3⟩ := hsv j hj
    refine ⟨((saves j).length : Int), (hr.mo.save hs (opsOf_some hj hon) (by rw [sesOf_saves_len]; omega)).mono ?_⟩
    rintro e w' ⟨rfl, hm, _⟩
    have hr1 := hr.turn1 hm
    refine ⟨by rw [sesOf_saves_len], (refSave hr1.dx hj hon hs (by omega) (by omega)).mono ?_⟩
    rintro e w'' ⟨rfl, K', hx, he⟩
    have hsv2 := sv_upd (j := j) hsv q1.save (by omega) (by rw [List.length_append]; simp; omega)
    rw [upN_self] at hsv2
    have ho := opsOf_on on mine saves hj hon (mine j) (saves j ++ [((mine j).length : Int)])
    rw [upN_self, sesOf_save] at ho
    exact ⟨rfl, K', nl, n, no, l, _, L, _, _, _, hr1.turn2 hx he, ho.symm, hE, hp, hsv2, by omega, by omega, by omega⟩
  · have hof : onI N on s = false := by simpa using hc
    refine ⟨-1, (hr.mo.saveNo hs (opsOf_none hof)).mono ?_⟩
    rintro e w' ⟨rfl, hm, _⟩
    have hr1 := hr.turn1 hm
    refine ⟨rfl, (refSaveNo hr1.dx hs hof).mono ?_⟩
    rintro e w'' ⟨rfl, hb⟩
    exact ⟨rfl, K, nl, n, no, l, _, L, on, mine, saves, hr1.below hb, rfl, hE, hp, sv_same hsv, by omega, by omega, by omega⟩
theorem stBack (h : St w0 w X P N i) (hi : i < 80) {s t : Int} (hs : I64L s) :
    ∃ R : Bool, Calls Try.prog 50 #[.pointer (some ⟨X, 0, none⟩), .int .i64 s, .int .i64 t] w fun e w' => e = .returned (.bool R) ∧ Calls Try.prog 58 #[.pointer (some ⟨P, 0, none⟩), .int .i64 s, .int .i64 t] w' fun e w'' => e = .returned (.bool R) ∧ St w0 w'' X P N (i + 1) := by
  obtain ⟨K, nl, n, no, l, op, L, on, mine, saves, hr, rfl, hE, hp, hsv, b1, b2, b3⟩ := h
  by_cases hc : onI N on s = true ∧ 0 ≤ t ∧ t < (saves s.toNat).length
  · obtain ⟨hc1, ht0, ht1⟩ := hc
    obtain ⟨j, rfl, hj, hon⟩ := onI_inv hc1
    rw [Int.toNat_natCast] at ht1
    obtain ⟨t, rfl⟩ : ∃ t' : Nat, t = t' := ⟨t.toNat, by omega⟩
    obtain ⟨q1, q2, q3⟩ := hsv j hj
    obtain ⟨m, hm1, hm2, hm3⟩ := q1.at_ (t := t) (by omega)
    have hz : (sesOf (mine j) (saves j)).saves[t]? = some (ownOf ((mine j).take m)) := by
      unfold sesOf
      dsimp only
      rw [List.getElem?_map, hm1]
      rfl
    refine ⟨true, (hr.mo.back hs (opsOf_some hj hon) hz (by rw [sesOf_saves_len]; omega)).mono ?_⟩
    rintro e w' ⟨rfl, hm, _⟩
    have hr1 := hr.turn1 hm
    refine ⟨rfl, (refBack hr1.dx hj hon hs hm1 hm2 (by omega) (by omega)).mono ?_⟩
    rintro e w'' ⟨rfl, hx, he⟩
    have hsv2 := sv_upd (j := j) hsv (q1.back hm2 hm3) (by rw [List.length_take]; omega) (by rw [List.length_take]; omega)
    have ho := opsOf_on on mine saves hj hon ((mine j).take m) ((saves j).take (t + 1))
    rw [sesOf_back (M := mine j) hm3] at ho
    exact ⟨rfl, K, nl, n, no, l, _, L, _, _, _, hr1.turn2 hx he, ho.symm, hE, hp, hsv2, by omega, by omega, by omega⟩
  · refine ⟨false, (hr.mo.backNo hs (t := t) ?_).mono ?_⟩
    · intro z hz
      cases ho : onI N on s with
      | false => rw [opsOf_none ho] at hz; simp at hz
      | true =>
        obtain ⟨j, rfl, hj, hon⟩ := onI_inv ho
        rw [opsOf_some hj hon] at hz
        obtain rfl : sesOf (mine j) (saves j) = z := by simpa using hz
        rw [sesOf_saves_len]
        rw [Int.toNat_natCast] at hc
        by_cases h0 : t < 0
        · exact .inl h0
        · right
          apply Int.not_lt.1
          exact fun h1 => hc ⟨ho, by omega, h1⟩
    rintro e w' ⟨rfl, hm, _⟩
    have hr1 := hr.turn1 hm
    refine ⟨rfl, (refBackNo hr1.dx hs (t := t) (fun a ha => by have := (hsv a ha).2.2; omega) ?_).mono ?_⟩
    · intro j hsj hj hon
      subst hsj
      rw [Int.toNat_natCast] at hc
      by_cases h0 : t < 0
      · exact .inl h0
      · right
        apply Int.not_lt.1
        exact fun h1 => hc ⟨by rw [onI_in hj]; exact hon, by omega, h1⟩
    rintro e w'' ⟨rfl, hb⟩
    exact ⟨rfl, K, nl, n, no, l, _, L, on, mine, saves, hr1.below hb, rfl, hE, hp, sv_same hsv, by omega, by omega, by omega⟩
theorem stCommit (h : St w0 w X P N i) (hi : i < 80) {s : Int} (hs : I64L s) :
    ∃ R : Bool, Calls Try.prog 30 #[.pointer (some ⟨X, 0, none⟩), .int .i64 s] w fun e w' => e = .returned (.bool R) ∧ Calls Try.prog 59 #[.pointer (some ⟨P, 0, none⟩), .int .i64 s] w' fun e w'' => e = .returned (.bool R) ∧ St w0 w'' X P N (i + 1) := by
  obtain ⟨K, nl, n, no, l, op, L, on, mine, saves, hr, rfl, hE, hp, hsv, b1, b2, b3⟩ := h
  by_cases hc : onI N on s = true
  · obtain ⟨j, rfl, hj, hon⟩ := onI_inv hc
    obtain ⟨q1, q2, q3⟩ := hsv j hj
    obtain ⟨T, hT, hTl, _⟩ := hr.mo.all (by omega)
    obtain rfl : T = L := hT.ext hE
    refine ⟨true, (hr.mo.commit hs (opsOf_some hj hon) (by omega)).mono ?_⟩
    rintro e w' ⟨rfl, hm, _⟩
    have hr1 := hr.turn1 hm
    refine ⟨rfl, (refCommit hr1.dx hj hon hs (by omega)).mono ?_⟩
    rintro e w'' ⟨rfl, K', hx, he⟩
    have hfe := foldl_ent (mine j) l T hE
    rw [foldl_stepF hp] at hfe
    exact ⟨rfl, K', nl + n, n, no, _, _, _, _, _, _, hr1.turn2 hx he, (opsOf_off on mine saves hj).symm, hfe, pruneM_pruneM _, sv_same hsv, by omega, by omega, by omega⟩
  · have hof : onI N on s = false := by simpa using hc
    refine ⟨false, (hr.mo.commitNo hs (opsOf_none hof)).mono ?_⟩
    rintro e w' ⟨rfl, hm, _⟩
    have hr1 := hr.turn1 hm
    refine ⟨rfl, (refCommitNo hr1.dx hs hof).mono ?_⟩
    rintro e w'' ⟨rfl, hb⟩
    exact ⟨rfl, K, nl, n, no, l, _, L, on, mine, saves, hr1.below hb, rfl, hE, hp, sv_same hsv, by omega, by omega, by omega⟩
theorem stAbort (h : St w0 w X P N i) (hi : i < 80) {s : Int} (hs : I64L s) :
    ∃ R : Bool, Calls Try.prog 48 #[.pointer (some ⟨X, 0, none⟩), .int .i64 s] w fun e w' => e = .returned (.bool R) ∧ Calls Try.prog 60 #[.pointer (some ⟨P, 0, none⟩), .int .i64 s] w' fun e w'' => e = .returned (.bool R) ∧ St w0 w'' X P N (i + 1) := by
  obtain ⟨K, nl, n, no, l, op, L, on, mine, saves, hr, rfl, hE, hp, hsv, b1, b2, b3⟩ := h
  have ha := hr.mo.abort hs
  rw [opsOf_isSome] at ha
  refine ⟨onI N on s, ha.mono ?_⟩
  rintro e w' ⟨rfl, hm, _⟩
  have hr1 := hr.turn1 hm
  refine ⟨rfl, ?_⟩
  by_cases hc : onI N on s = true
  · obtain ⟨j, rfl, hj, hon⟩ := onI_inv hc
    rw [hc]
    refine (refAbort hr1.dx hj hon hs).mono ?_
    rintro e w'' ⟨rfl, hx, he⟩
    exact ⟨rfl, K, nl, n, no, l, _, L, _, _, _, hr1.turn2 hx he, (opsOf_off on mine saves hj).symm, hE, hp, sv_same hsv, by omega, by omega, by omega⟩
  · have hof : onI N on s = false := by simpa using hc
    rw [hof]
    rw [updM_id (opsOf_none hof)] at hr1
    refine (refAbortNo hr1.dx hs hof).mono ?_
    rintro e w'' ⟨rfl, hb⟩
    exact ⟨rfl, K, nl, n, no, l, _, L, on, mine, saves, hr1.below hb, rfl, hE, hp, sv_same hsv, by omega, by omega, by omega⟩
theorem stCrash (h : St w0 w X P N i) (hi : i < 80) (hN : N ≤ 1000) :
    Calls Try.prog 49 #[.pointer (some ⟨X, 0, none⟩)] w fun e w' => e = .returned (.tuple #[]) ∧ Calls Try.prog 61 #[.pointer (some ⟨P, 0, none⟩)] w' fun e w'' => e = .returned (.tuple #[]) ∧ St w0 w'' X P N (i + 1) := by
  obtain ⟨K, nl, n, no, l, op, L, on, mine, saves, hr, rfl, hE, hp, hsv, b1, b2, b3⟩ := h
  refine hr.mo.crash.mono ?_
  rintro e w' ⟨rfl, hm, _⟩
  have hr1 := hr.turn1 hm
  refine ⟨rfl, (refCrash hr1.dx (by omega)).mono ?_⟩
  rintro e w'' ⟨rfl, hx, he⟩
  exact ⟨rfl, K, nl, n, no, l, _, L, _, _, _, hr1.turn2 hx he, (opsOf_crash N on mine saves).symm, hE, hp, sv_same hsv, by omega, by omega, by omega⟩
theorem St.below {w' : World} (h : St w0 w X P N i) (hb : Below w.heap.size w w') : St w0 w' X P N i := by
  obtain ⟨K, nl, n, no, l, op, L, on, mine, saves, hr, h1⟩ := h
  exact ⟨K, nl, n, no, l, op, L, on, mine, saves, hr.below hb, h1⟩
def StZ (w0 w : World) (X P N i Z : Nat) : Prop := ∃ (K : Nat → Prop) (nl n no : Nat) (l : FM) (op : Int → Option Ses) (L : List (Int × Int)) (on : Nat → Bool) (mine : Nat → List Pc) (saves : Nat → List Int),
  RR w0 w K X nl n no N l op P L on mine saves ∧ op = opsOf N on mine saves ∧ EntOf l L ∧ pruneM l = l ∧ (∀ a, a < N → SvOK (mine a) (saves a) ∧ (mine a).length ≤ i ∧ (saves a).length ≤ i) ∧ nl ≤ 80 * i ∧ n ≤ i ∧ no ≤ i ∧ K Z
theorem StZ.new {Z : Nat} {w' : World} (h : St w0 w X P N i) (hb : Below w.heap.size w w') (h1 : w.heap.size ≤ Z) (h2 : Z < w'.heap.size) : StZ w0 w' X P N i Z := by
  obtain ⟨K, nl, n, no, l, op, L, on, mine, saves, hr, e1, hE, hp, hsv, b1, b2, b3⟩ := h
  obtain ⟨A, B, C, vL, vm, vs, hd⟩ := hr.dx
  refine ⟨nwK K w w', nl, n, no, l, op, L, on, mine, saves, ⟨(hr.mo.beside hb).weak fun b hk => ?_, ⟨A, B, C, vL, vm, vs, hd.grow hb⟩, hr.bel.trans (hb.mono hr.bel.size), fun b hk => ?_⟩, e1, hE, hp, hsv, b1, b2, b3, .inr ⟨h1, h2⟩⟩
  · rcases hk with e | e | e
    · exact .inl (.inl e)
    · exact .inl (.inr e)
    · exact .inr e
  · rcases hk with e | e
    · exact hr.lo b e
    · exact Nat.le_trans hr.bel.size e.1
theorem StZ.st {Z : Nat} (h : StZ w0 w X P N i Z) : St w0 w X P N i := by
  obtain ⟨K, nl, n, no, l, op, L, on, mine, saves, hr, e1, hE, hp, hsv, b1, b2, b3, _⟩ := h
  exact ⟨K, nl, n, no, l, op, L, on, mine, saves, hr, e1, hE, hp, hsv, b1, b2, b3⟩
theorem stPutZ {Z : Nat} (h : StZ w0 w X P N i Z) (hi : i < 80) {s k v : Int} (hs : I64L s) (hk : I64L k) (hv : I64L v) :
    ∃ R : MV, Calls Try.prog 29 #[.pointer (some ⟨X, 0, none⟩), .int .i64 s, .int .i64 k, .int .i64 v] w fun e w' => e = .returned (.tuple #[.int .i64 R.1, .bool R.2]) ∧ w'.heap[Z]? = w.heap[Z]? ∧ Calls Try.prog 62 #[.pointer (some ⟨P, 0, none⟩), .int .i64 s, .int .i64 k, .int .i64 v] w' fun e w'' => e = .returned (.tuple #[.int .i64 R.1, .bool R.2]) ∧ St w0 w'' X P N (i + 1) := by
  obtain ⟨K, nl, n, no, l, op, L, on, mine, saves, hr, rfl, hE, hp, hsv, b1, b2, b3, hZ⟩ := h
  by_cases hc : onI N on s = true
  · obtain ⟨j, rfl, hj, hon⟩ := onI_inv hc
    have hse := seesM_of hE hp N on mine saves (j : Int) k
    rw [if_pos hc, Int.toNat_natCast] at hse
    refine ⟨seesM l (opsOf N on mine saves) j k, (hr.mo.put hs hk hv (opsOf_some hj hon) (by omega)).mono ?_⟩
    rintro e w' ⟨rfl, hm, _⟩
    have hr1 := hr.turn1 hm
    have hg := refPut hr1.dx hj hon hs hk hv (fun a ha => by have := (hsv a ha).2.1; omega)
    rw [← hse] at hg
    refine ⟨rfl, (hm.1.keep Z (.inr hZ)).2, hg.mono ?_⟩
    rintro e w'' ⟨rfl, K', hx, he⟩
    have hsv2 := sv_upd (j := j) hsv ((hsv j hj).1.put (k, true, v)) (by have := (hsv j hj).2.1; simp; omega) (by have := (hsv j hj).2.2; omega)
    rw [upN_self] at hsv2
    have ho := opsOf_on on mine saves hj hon (mine j ++ [(k, true, v)]) (saves j)
    rw [upN_self, sesOf_put (hsv j hj).1] at ho
    exact ⟨rfl, K', nl, n + 1, no, l, _, L, _, _, _, hr1.turn2 hx he, ho.symm, hE, hp, hsv2, by omega, by omega, by omega⟩
  · have hof : onI N on s = false := by simpa using hc
    refine ⟨(0, false), (hr.mo.putNo hs v (opsOf_none hof)).mono ?_⟩
    rintro e w' ⟨rfl, hm, _⟩
    have hr1 := hr.turn1 hm
    refine ⟨rfl, (hm.1.keep Z (.inr hZ)).2, (refPutNo hr1.dx hs hof k v).mono ?_⟩
    rintro e w'' ⟨rfl, hb⟩
    exact ⟨rfl, K, nl, n, no, l, _, L, on, mine, saves, hr1.below hb, rfl, hE, hp, sv_same hsv, by omega, by omega, by omega⟩
theorem St.bel (h : St w0 w X P N i) : Below w0.heap.size w0 w := by
  obtain ⟨K, nl, n, no, l, op, L, on, mine, saves, hr, h1⟩ := h
  exact hr.bel
/-- what is asked behind each operation -/
theorem St.last (h : St w0 w X P N i) (hi : i ≤ 80) {s : Int} (hs : I64L s) :
    ∃ (b : Bool) (vL : Value) (nT : Nat), (∀ W, Below w.heap.size w W → W.cell? ⟨P, 0, none⟩ = some vL) ∧
      (∀ W, Below w.heap.size w W → Calls Try.prog 51 #[.pointer (some ⟨X, 0, none⟩), .int .i64 s] W fun e w' => e = .returned (.bool b) ∧ Below W.heap.size W w') ∧
      (∀ W, Below w.heap.size w W → Calls Try.prog 63 #[.pointer (some ⟨P, 0, none⟩), .int .i64 s] W fun e w' => e = .returned (.bool b) ∧ Below W.heap.size W w') ∧
      (∀ W, Below w.heap.size w W → Calls Try.prog 31 #[.pointer (some ⟨X, 0, none⟩)] W fun e w' => ∃ o c, e = .returned (.slice o nT c) ∧ Below W.heap.size W w' ∧ (∀ W2, Below w'.heap.size w' W2 → Calls Try.prog 52 #[.slice o nT c, vL] W2 fun e w3 => e = .returned (.bool true) ∧ Below W2.heap.size W2 w3)) := by
  obtain ⟨K, nl, n, no, l, op, L, on, mine, saves, hr, rfl, hE, hp, hsv, b1, b2, b3⟩ := h
  obtain ⟨A, B, C, vL, vm, vs, hd⟩ := hr.dx
  refine ⟨onI N on s, vL, L.length, fun W hb => (hd.below hb).cellP.1, fun W hb => ?_, fun W hb => refOpen (hr.below hb).dx hs, fun W hb => ?_⟩
  · have ho := (hr.below hb).mo.open_ hs
    rw [opsOf_isSome] at ho
    exact ho.mono fun e w' ⟨q1, _, q3⟩ => ⟨q1, q3⟩
  · obtain ⟨T, hT, _, hall⟩ := (hr.below hb).mo.all (by omega)
    obtain rfl : T = L := hT.ext hE
    refine hall.mono ?_
    rintro e w' ⟨o, c, rfl, he, _, hb2⟩
    refine ⟨o, c, rfl, hb2, fun W2 hb3 => ?_⟩
    have hs2 := sameEntries (he.below hb3) ((hd.below (hb.trans (hb2.mono hb.size))).own.below hb3)
    rw [decide_eq_true rfl] at hs2
    exact hs2
/-- both, new -/
theorem St.new {w1 w2 : World} (hm : Mo (fun b => b < w0.heap.size) w0 w1 X 0 0 0 (N : Int) (fun _ => none) (fun _ => none)) (hx : Dx w2 P N (fun b => w1.heap.size ≤ b ∧ b < w2.heap.size) [] (fun _ => false) (fun _ => []) (fun _ => [])) (hb : Below w1.heap.size w1 w2) : St w0 w2 X P N 0 := by
  have h1 := hm.1.to_below
  refine ⟨_, 0, 0, 0, _, _, [], fun _ => false, fun _ => [], fun _ => [], ⟨hm.beside hb, hx, h1.trans (hb.mono h1.size), fun b hk => Nat.le_trans h1.size hk.1⟩, ?_, ?_, ?_, fun a ha => ⟨SvOK.nil, by simp, by simp⟩, by omega, by omega, by omega⟩
  · funext s
    rw [opsOf_none]
    unfold onI; simp
  · exact ⟨List.Pairwise.nil, fun k v => by simp⟩
  · rfl
end
end Go.Proofs.Ytpgelebmhhcodaa
