/- The two models beside each other: plain laws. -/
import Derived.Test.YtpgelebmhhcodaaDmI
namespace Go.Proofs.Ytpgelebmhhcodaa
open Go.RowKit
set_option linter.unusedVariables false

/-- a session, out of what it changed and where it saved -/
def sesOf (M : List Pc) (S : List Int) : Ses := ⟨ownOf M, S.map fun j => ownOf (M.take j.toNat)⟩
def opsOf (N : Nat) (on : Nat → Bool) (mine : Nat → List Pc) (saves : Nat → List Int) : Int → Option Ses := fun s => if onI N on s = true then some (sesOf (mine s.toNat) (saves s.toNat)) else none
theorem opsOf_none {N : Nat} {on : Nat → Bool} {mine : Nat → List Pc} {saves : Nat → List Int} {s : Int} (h : onI N on s = false) : opsOf N on mine saves s = none := by
  unfold opsOf; rw [if_neg (by rw [h]; simp)]
theorem opsOf_some {N : Nat} {on : Nat → Bool} {mine : Nat → List Pc} {saves : Nat → List Int} {i : Nat} (hi : i < N) (h : on i = true) : opsOf N on mine saves i = some (sesOf (mine i) (saves i)) := by
  unfold opsOf; rw [onI_in hi, h]; simp
theorem opsOf_isSome (N : Nat) (on : Nat → Bool) (mine : Nat → List Pc) (saves : Nat → List Int) (s : Int) : (opsOf N on mine saves s).isSome = onI N on s := by
  unfold opsOf
  cases h : onI N on s <;> simp
theorem opsOf_upd {N : Nat} (on : Nat → Bool) (mine : Nat → List Pc) (saves : Nat → List Int) {i : Nat} (hi : i < N) (b : Bool) (M : List Pc) (S : List Int) :
    opsOf N (upN on i b) (upN mine i M) (upN saves i S) = updM (opsOf N on mine saves) i (if b = true then some (sesOf M S) else none) := by
  funext s
  by_cases e : s = (i : Int)
  · subst e
    rw [updM_same]
    unfold opsOf
    rw [onI_in hi, upN_same, Int.toNat_natCast, upN_same, upN_same]
  · rw [updM_other _ _ e]
    unfold opsOf onI
    by_cases h0 : 0 ≤ s ∧ s < N
    · have e2 : s.toNat ≠ i := by omega
      rw [upN_other _ _ e2, upN_other _ _ e2, upN_other _ _ e2]
    · rw [decide_eq_false h0]; simp
theorem opsOf_on {N : Nat} (on : Nat → Bool) (mine : Nat → List Pc) (saves : Nat → List Int) {i : Nat} (hi : i < N) (h : on i = true) (M : List Pc) (S : List Int) :
    opsOf N on (upN mine i M) (upN saves i S) = updM (opsOf N on mine saves) i (some (sesOf M S)) := by
  have := opsOf_upd on mine saves hi true M S
  rw [show upN on i true = on by rw [← h]; exact upN_self on i] at this
  simpa using this
theorem opsOf_off {N : Nat} (on : Nat → Bool) (mine : Nat → List Pc) (saves : Nat → List Int) {i : Nat} (hi : i < N) :
    opsOf N (upN on i false) mine saves = updM (opsOf N on mine saves) i none := by
  have := opsOf_upd on mine saves hi false (mine i) (saves i)
  rw [upN_self, upN_self] at this
  simpa using this
theorem opsOf_crash (N : Nat) (on : Nat → Bool) (mine : Nat → List Pc) (saves : Nat → List Int) : opsOf N (offTo on N) mine saves = fun _ => none := by
  funext s
  refine opsOf_none ?_
  unfold onI offTo
  by_cases h0 : 0 ≤ s ∧ s < N
  · have : s.toNat < N := by omega
    simp [this]
  · rw [decide_eq_false h0]; rfl
/-- saved numbers: rising, none above the changes -/
def SvOK (M : List Pc) (S : List Int) : Prop := S.Pairwise (· ≤ ·) ∧ ∀ j ∈ S, 0 ≤ j ∧ j ≤ M.length
theorem SvOK.nil : SvOK [] [] := ⟨List.Pairwise.nil, fun j h => by simp at h⟩
theorem sesOf_put {M : List Pc} {S : List Int} (h : SvOK M S) (p : Pc) : sesOf (M ++ [p]) S = ⟨updM (sesOf M S).own p.1 (some (p.2.2, p.2.1)), (sesOf M S).saves⟩ := by
  unfold sesOf
  rw [ownOf_snoc]
  congr 1
  refine List.map_congr_left fun j hj => ?_
  rw [List.take_append_of_le_length (by have := (h.2 j hj); omega)]
theorem SvOK.put {M : List Pc} {S : List Int} (h : SvOK M S) (p : Pc) : SvOK (M ++ [p]) S := ⟨h.1, fun j hj => by have := h.2 j hj; rw [List.length_append]; simp; omega⟩
theorem sesOf_save (M : List Pc) (S : List Int) : sesOf M (S ++ [(M.length : Int)]) = ⟨(sesOf M S).own, (sesOf M S).saves ++ [(sesOf M S).own]⟩ := by
  unfold sesOf
  dsimp only
  rw [List.map_append]
  simp
theorem SvOK.save {M : List Pc} {S : List Int} (h : SvOK M S) : SvOK M (S ++ [(M.length : Int)]) := by
  refine ⟨?_, fun j hj => ?_⟩
  · rw [List.pairwise_append]
    exact ⟨h.1, List.pairwise_singleton _ _, fun a ha b hb => by rw [List.mem_singleton.1 hb]; exact (h.2 a ha).2⟩
  · rcases List.mem_append.1 hj with e | e
    · exact h.2 j e
    · rw [List.mem_singleton.1 e]; omega
theorem SvOK.at_ {M : List Pc} {S : List Int} (h : SvOK M S) {t : Nat} (ht : t < S.length) : ∃ j : Nat, S[t]? = some (j : Int) ∧ j ≤ M.length ∧ (∀ x ∈ S.take (t + 1), x ≤ (j : Int)) := by
  have h1 := h.2 S[t] (List.getElem_mem ht)
  refine ⟨S[t].toNat, by rw [List.getElem?_eq_getElem ht]; congr 1; omega, by omega, fun x hx => ?_⟩
  rw [List.take_succ_eq_append_getElem ht] at hx
  rcases List.mem_append.1 hx with e | e
  · have hp := h.1
    rw [← List.take_append_drop t S, List.pairwise_append] at hp
    have hd : S[t] ∈ S.drop t := by rw [List.drop_eq_getElem_cons ht]; exact List.mem_cons_self
    have := hp.2.2 x e _ hd
    omega
  · rw [List.mem_singleton.1 e]; omega
theorem sesOf_back {M : List Pc} {S : List Int} {t j : Nat} (hx : ∀ x ∈ S.take (t + 1), x ≤ (j : Int)) : sesOf (M.take j) (S.take (t + 1)) = ⟨ownOf (M.take j), (sesOf M S).saves.take (t + 1)⟩ := by
  unfold sesOf
  dsimp only
  rw [← List.map_take]
  congr 1
  refine List.map_congr_left fun x hm => ?_
  have := hx x hm
  rw [List.take_take, Nat.min_eq_left (by omega)]
theorem SvOK.back {M : List Pc} {S : List Int} (h : SvOK M S) {t j : Nat} (hj : j ≤ M.length) (hx : ∀ x ∈ S.take (t + 1), x ≤ (j : Int)) : SvOK (M.take j) (S.take (t + 1)) := by
  refine ⟨h.1.sublist (List.take_sublist _ _), fun x hm => ⟨(h.2 x (List.mem_of_mem_take hm)).1, ?_⟩⟩
  rw [List.length_take, Nat.min_eq_left hj]
  exact hx x hm
/-- entries found by their keys -/
theorem lookE_mem : ∀ (L : List (Int × Int)), L.Pairwise (fun p q => p.1 < q.1) → ∀ k v, lookE L k = some v ↔ (k, v) ∈ L
  | [], _, k, v => by simp [lookE]
  | p :: L, h, k, v => by
    obtain ⟨h1, h2⟩ := List.pairwise_cons.1 h
    unfold lookE
    by_cases e : p.1 = k
    · rw [if_pos e, List.mem_cons]
      constructor
      · intro e2
        left
        obtain ⟨a, b⟩ := p
        simp only [Option.some.injEq] at e2
        simp only at e
        rw [e, e2]
      · rintro (e2 | e2)
        · rw [← e2]
        · have := h1 _ e2
          simp only at this
          omega
    · rw [if_neg e, lookE_mem L h2 k v, List.mem_cons]
      constructor
      · exact .inr
      · rintro (e2 | e2)
        · exact absurd (by rw [← e2]) e
        · exact e2
theorem lookE_of {l : FM} {L : List (Int × Int)} (h : EntOf l L) (hp : pruneM l = l) (k : Int) : (lookE L k).map (fun v => (v, true)) = l k := by
  cases e : l k with
  | none =>
    cases e2 : lookE L k with
    | none => rfl
    | some v =>
      obtain ⟨j, hj⟩ := (h.2 k v).1 ((lookE_mem L h.1 k v).1 e2)
      rw [e] at hj; simp at hj
  | some x =>
    obtain ⟨v, j⟩ := x
    have hj : j = true := by
      have h1 := congrFun hp k
      unfold pruneM at h1
      rw [e] at h1
      cases j with
      | true => rfl
      | false => simp at h1
    rw [(lookE_mem L h.1 k v).2 ((h.2 k v).2 ⟨j, e⟩), hj]
    rfl
theorem seesM_of {l : FM} {L : List (Int × Int)} (h : EntOf l L) (hp : pruneM l = l) (N : Nat) (on : Nat → Bool) (mine : Nat → List Pc) (saves : Nat → List Int) (s k : Int) :
    seesM l (opsOf N on mine saves) s k = seesD L (if onI N on s = true then ownOf (mine s.toNat) k else none) k := by
  unfold seesM seesD
  rw [lookE_of h hp k]
  cases ho : onI N on s with
  | false => rw [opsOf_none ho]; simp
  | true =>
    obtain ⟨i, rfl, hi, hon⟩ := onI_inv ho
    rw [opsOf_some hi hon]
    simp [sesOf]
/-- a change, done: as a map -/
def stepF (l : FM) (p : Pc) : FM := fun k => if k = p.1 then (if p.2.1 = true then some (p.2.2, true) else none) else l k
def laidR : List (Int × Int) → Pc → List (Int × Int)
  | [], p => midP p
  | q :: L, p => if q.1 < p.1 then q :: laidR L p else midP p ++ (if q.1 = p.1 then L else q :: L)
theorem laidP_R (p : Pc) : ∀ L : List (Int × Int), laidP L p = laidR L p
  | [] => by unfold laidP; simp [lowN, laidR]
  | q :: L => by
    unfold laidR
    by_cases e : q.1 < p.1
    · rw [if_pos e, ← laidP_R p L]
      unfold laidP
      rw [show lowN (q :: L) p.1 = lowN L p.1 + 1 by simp [lowN, e]]
      rw [List.take_succ_cons, List.getElem?_cons_succ]
      by_cases e2 : (L[lowN L p.1]?).map (·.1) = some p.1
      · rw [if_pos e2, if_pos e2, List.drop_succ_cons]; rfl
      · rw [if_neg e2, if_neg e2, List.drop_succ_cons]; rfl
    · rw [if_neg e]
      unfold laidP
      rw [show lowN (q :: L) p.1 = 0 by simp [lowN, e]]
      by_cases e2 : q.1 = p.1
      · simp [e2]
      · simp [e2]
theorem midP_mem (p : Pc) (k v : Int) : (k, v) ∈ midP p ↔ p.2.1 = true ∧ k = p.1 ∧ v = p.2.2 := by
  unfold midP
  by_cases e : p.2.1 = true
  · simp [e]
  · simp [e]
theorem laidR_mem (p : Pc) : ∀ (L : List (Int × Int)), L.Pairwise (fun a b => a.1 < b.1) → ∀ k v, (k, v) ∈ laidR L p ↔ ((k, v) ∈ L ∧ k ≠ p.1) ∨ (k, v) ∈ midP p
  | [], _, k, v => by simp [laidR]
  | q :: L, h, k, v => by
    obtain ⟨h1, h2⟩ := List.pairwise_cons.1 h
    unfold laidR
    by_cases e : q.1 < p.1
    · rw [if_pos e, List.mem_cons, laidR_mem p L h2 k v, List.mem_cons]
      constructor
      · rintro (e2 | ⟨e2, e3⟩ | e2)
        · exact .inl ⟨.inl e2, by rw [← e2] at e; simp only at e; omega⟩
        · exact .inl ⟨.inr e2, e3⟩
        · exact .inr e2
      · rintro (⟨e2 | e2, e3⟩ | e2)
        · exact .inl e2
        · exact .inr (.inl ⟨e2, e3⟩)
        · exact .inr (.inr e2)
    · rw [if_neg e, List.mem_append]
      by_cases e2 : q.1 = p.1
      · rw [if_pos e2, List.mem_cons]
        constructor
        · rintro (e3 | e3)
          · exact .inr e3
          · have := h1 _ e3
            simp only at this
            exact .inl ⟨.inr e3, by omega⟩
        · rintro (⟨e3 | e3, e4⟩ | e3)
          · exact absurd (by rw [← e2, ← e3]) e4
          · exact .inr e3
          · exact .inl e3
      · rw [if_neg e2, List.mem_cons]
        constructor
        · rintro (e3 | e3 | e3)
          · exact .inr e3
          · exact .inl ⟨.inl e3, by rw [← e3] at e2; exact e2⟩
          · have := h1 _ e3
            simp only at this
            exact .inl ⟨.inr e3, by omega⟩
        · rintro (⟨e3, e4⟩ | e3)
          · exact .inr e3
          · exact .inl e3
theorem midP_key (p : Pc) {q : Int × Int} (h : q ∈ midP p) : q.1 = p.1 := ((midP_mem p q.1 q.2).1 h).2.1
theorem midP_pair (p : Pc) : (midP p).Pairwise (fun a b => a.1 < b.1) := by
  unfold midP; split <;> simp
theorem laidR_rise (p : Pc) : ∀ (L : List (Int × Int)), L.Pairwise (fun a b => a.1 < b.1) → (laidR L p).Pairwise (fun a b => a.1 < b.1)
  | [], _ => midP_pair p
  | q :: L, h => by
    obtain ⟨h1, h2⟩ := List.pairwise_cons.1 h
    unfold laidR
    by_cases e : q.1 < p.1
    · rw [if_pos e, List.pairwise_cons]
      refine ⟨fun r hr => ?_, laidR_rise p L h2⟩
      rcases (laidR_mem p L h2 r.1 r.2).1 hr with ⟨e2, _⟩ | e2
      · exact h1 r e2
      · rw [midP_key p e2]; exact e
    · rw [if_neg e, List.pairwise_append]
      refine ⟨midP_pair p, ?_, fun a ha b hb => ?_⟩
      · split
        · exact h2
        · exact h
      · rw [midP_key p ha]
        by_cases e2 : q.1 = p.1
        · rw [if_pos e2] at hb
          have := h1 b hb
          omega
        · rw [if_neg e2] at hb
          rcases List.mem_cons.1 hb with e3 | e3
          · rw [e3]; omega
          · have := h1 b e3; omega
theorem laid_ent {l : FM} {L : List (Int × Int)} (h : EntOf l L) (p : Pc) : EntOf (stepF l p) (laidP L p) := by
  rw [laidP_R]
  refine ⟨laidR_rise p L h.1, fun k v => ?_⟩
  rw [laidR_mem p L h.1, h.2, midP_mem]
  unfold stepF
  by_cases e : k = p.1
  · by_cases e2 : p.2.1 = true
    · simp [e, e2]
      constructor
      · intro e3; exact e3.symm
      · intro e3; exact e3.symm
    · simp [e, e2]
  · simp [e]
theorem foldl_ent (M : List Pc) : ∀ (l : FM) (L : List (Int × Int)), EntOf l L → EntOf (M.foldl stepF l) (M.foldl laidP L) := by
  induction M with
  | nil => intro l L h; exact h
  | cons p M ih => intro l L h; exact ih _ _ (laid_ent h p)
theorem foldl_stepF {l : FM} (hp : pruneM l = l) (M : List Pc) : M.foldl stepF l = pruneM (mergeM l (ownOf M)) := by
  have key : ∀ n, (M.take n).foldl stepF l = pruneM (mergeM l (ownOf (M.take n))) := fun n => by
    induction n with
    | zero =>
      show l = pruneM (mergeM l (fun _ => none))
      exact hp.symm
    | succ n ih =>
      by_cases hn : n < M.length
      · rw [List.take_succ_eq_append_getElem hn, List.foldl_append, ih, ownOf_snoc]
        funext k
        show stepF (pruneM (mergeM l (ownOf (M.take n)))) M[n] k = _
        unfold stepF pruneM mergeM
        by_cases e : k = M[n].1
        · rw [if_pos e, ← e, updM_same]
          cases M[n].2.1 <;> simp
        · rw [if_neg e, updM_other _ _ e]
      · rw [List.take_of_length_le (by omega)]
        rw [List.take_of_length_le (by omega)] at ih
        exact ih
  have := key M.length
  rwa [List.take_length] at this
theorem pruneM_pruneM (m : FM) : pruneM (pruneM m) = pruneM m := by
  funext k
  unfold pruneM
  cases m k with
  | none => rfl
  | some x =>
    obtain ⟨v, j⟩ := x
    cases j <;> rfl
theorem EntOf.ext {l : FM} {A B : List (Int × Int)} (h1 : EntOf l A) (h2 : EntOf l B) : A = B := ent_ext h1.1 h2.1 fun p => by rw [show p = (p.1, p.2) from rfl, h1.2, h2.2]
end Go.Proofs.Ytpgelebmhhcodaa
