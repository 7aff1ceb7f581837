/- Plain laws on chains of records. No program. -/
import Derived.Test.YtoikdhfihkbcbaaDoorRecP
namespace Go.Proofs.YtoikdhfihkbcbaaDoor
open Go.RowKit
set_option linter.unusedVariables false

/-- the record of a number, in a log -/
def recAtN (base : Int) (L : List RecD) (lsn : Int) : Option RecD := if base < lsn ∧ lsn ≤ base + L.length then L[(lsn - base - 1).toNat]? else none

theorem recAtN_none {base : Int} {L : List RecD} {lsn : Int} (h : lsn ≤ base ∨ base + L.length < lsn) : recAtN base L lsn = none := by unfold recAtN; rw [if_neg (by omega)]
theorem recAtN_some {base : Int} {L : List RecD} {lsn : Int} (h1 : base < lsn) (h2 : lsn ≤ base + L.length) : ∃ r, recAtN base L lsn = some r ∧ r ∈ L ∧ L[(lsn - base - 1).toNat]? = some r := by
  unfold recAtN
  rw [if_pos ⟨h1, h2⟩]
  have hlt : (lsn - base - 1).toNat < L.length := by omega
  exact ⟨L[(lsn - base - 1).toNat], List.getElem?_eq_getElem hlt, List.getElem_mem hlt, List.getElem?_eq_getElem hlt⟩
theorem recAtN_lt {base : Int} {L : List RecD} {lsn : Int} {r : RecD} (h : recAtN base L lsn = some r) : base < lsn ∧ lsn ≤ base + L.length := by
  unfold recAtN at h
  split at h
  · assumption
  · simp at h
theorem recAtN_append {base : Int} {L M : List RecD} {lsn : Int} (h : lsn ≤ base + L.length) : recAtN base (L ++ M) lsn = recAtN base L lsn := by
  unfold recAtN
  by_cases h1 : base < lsn
  · rw [if_pos ⟨h1, by simp; omega⟩, if_pos ⟨h1, h⟩, List.getElem?_append_left (by omega)]
  · rw [if_neg (by omega), if_neg (by omega)]

/-- a Clr, a Commit, an Abort goes on -/
def goesOn (r : RecD) : Prop := r.kind = 3 ∨ r.kind = 4 ∨ r.kind = 5
instance (r : RecD) : Decidable (goesOn r) := by unfold goesOn; exact inferInstance
def onOf (r : RecD) : Int := if r.kind = 3 then r.next else r.prev

/-- the change that is to be undone next; where an error is -/
def normF (base : Int) (L : List RecD) : Nat → Int → Int × Option Int
  | 0, _ => (0, none)
  | n + 1, lsn =>
    if lsn = 0 then (0, none) else
    match recAtN base L lsn with
    | none => (0, some lsn)
    | some r => if r.kind = 2 then (lsn, none) else if r.kind = 1 then (0, none) else if goesOn r then (if onOf r ≥ lsn then (0, some lsn) else normF base L n (onOf r)) else (0, some lsn)
theorem normF_more {base : Int} {L : List RecD} (hb : 0 ≤ base) : ∀ (n m : Nat) (lsn : Int), lsn.toNat < n → lsn.toNat < m → normF base L n lsn = normF base L m lsn := by
  intro n
  induction n with
  | zero => intro m lsn h; omega
  | succ n ih =>
    intro m lsn h1 h2
    obtain ⟨m, rfl⟩ : ∃ k, m = k + 1 := ⟨m - 1, by omega⟩
    unfold normF
    by_cases h0 : lsn = 0
    · rw [if_pos h0, if_pos h0]
    · rw [if_neg h0, if_neg h0]
      cases hr : recAtN base L lsn with
      | none => rfl
      | some r =>
        have hlt := recAtN_lt hr
        dsimp only
        by_cases hge : onOf r ≥ lsn
        · rw [if_pos hge, if_pos hge]
        · rw [if_neg hge, if_neg hge, ih m (onOf r) (by omega) (by omega)]
def norm (base : Int) (L : List RecD) (lsn : Int) : Int × Option Int := normF base L (lsn.toNat + 1) lsn
theorem norm_zero (base : Int) (L : List RecD) : norm base L 0 = (0, none) := by unfold norm normF; rw [if_pos rfl]
theorem norm_none {base : Int} {L : List RecD} {lsn : Int} (h0 : lsn ≠ 0) (h : recAtN base L lsn = none) : norm base L lsn = (0, some lsn) := by unfold norm normF; rw [if_neg h0, h]
theorem norm_set {base : Int} {L : List RecD} {lsn : Int} {r : RecD} (h0 : lsn ≠ 0) (h : recAtN base L lsn = some r) (hk : r.kind = 2) : norm base L lsn = (lsn, none) := by unfold norm normF; rw [if_neg h0, h]; dsimp only; rw [if_pos hk]
theorem norm_begin {base : Int} {L : List RecD} {lsn : Int} {r : RecD} (h0 : lsn ≠ 0) (h : recAtN base L lsn = some r) (hk : r.kind = 1) : norm base L lsn = (0, none) := by unfold norm normF; rw [if_neg h0, h]; dsimp only; rw [if_neg (by omega), if_pos hk]
theorem norm_other {base : Int} {L : List RecD} {lsn : Int} {r : RecD} (h0 : lsn ≠ 0) (h : recAtN base L lsn = some r) (h1 : r.kind ≠ 1) (h2 : r.kind ≠ 2) (h3 : ¬ goesOn r) : norm base L lsn = (0, some lsn) := by unfold norm normF; rw [if_neg h0, h]; dsimp only; rw [if_neg h2, if_neg h1, if_neg h3]
theorem norm_back {base : Int} {L : List RecD} {lsn : Int} {r : RecD} (h0 : lsn ≠ 0) (h : recAtN base L lsn = some r) (hk : goesOn r) (hge : lsn ≤ onOf r) : norm base L lsn = (0, some lsn) := by
  unfold norm normF; rw [if_neg h0, h]; dsimp only; have hk' := hk; unfold goesOn at hk'; rw [if_neg (by omega), if_neg (by omega), if_pos hk, if_pos hge]
theorem norm_on {base : Int} {L : List RecD} {lsn : Int} {r : RecD} (hb : 0 ≤ base) (h0 : lsn ≠ 0) (h : recAtN base L lsn = some r) (hk : goesOn r) (hge : onOf r < lsn) : norm base L lsn = norm base L (onOf r) := by
  have hlt := recAtN_lt h
  have e : norm base L lsn = normF base L lsn.toNat (onOf r) := by
    unfold norm
    conv => lhs; unfold normF
    rw [if_neg h0, h]; dsimp only
    have hk' := hk
    unfold goesOn at hk'
    rw [if_neg (by omega), if_neg (by omega), if_pos hk, if_neg (by omega)]
  rw [e]
  unfold norm
  exact normF_more hb _ _ _ (by omega) (by omega)
/-- what it comes to stands there, and is a change -/
theorem norm_found {base : Int} {L : List RecD} (hb : 0 ≤ base) : ∀ (n : Nat) (lsn : Int), lsn.toNat < n → ∀ k, norm base L lsn = (k, none) → k = 0 ∨ (k ≤ lsn ∧ base < k ∧ ∃ r, recAtN base L k = some r ∧ r.kind = 2) := by
  intro n
  induction n with
  | zero => intro lsn h; omega
  | succ n ih =>
    intro lsn hn k hk
    by_cases h0 : lsn = 0
    · rw [h0, norm_zero] at hk; simp at hk; exact .inl hk.symm
    · cases hr : recAtN base L lsn with
      | none => rw [norm_none h0 hr] at hk; simp at hk
      | some r =>
        have hlt := recAtN_lt hr
        by_cases h2 : r.kind = 2
        · rw [norm_set h0 hr h2] at hk
          simp at hk
          subst hk
          exact .inr ⟨Int.le_refl _, hlt.1, r, hr, h2⟩
        · by_cases h1 : r.kind = 1
          · rw [norm_begin h0 hr h1] at hk; simp at hk; exact .inl hk.symm
          · by_cases h3 : goesOn r
            · by_cases hge : lsn ≤ onOf r
              · rw [norm_back h0 hr h3 hge] at hk; simp at hk
              · rw [norm_on hb h0 hr h3 (by omega)] at hk
                rcases ih (onOf r) (by omega) k hk with h | ⟨h, h'⟩
                · exact .inl h
                · exact .inr ⟨by omega, h'⟩
            · rw [norm_other h0 hr h1 h2 h3] at hk; simp at hk
theorem norm_append {base : Int} {L M : List RecD} (hb : 0 ≤ base) : ∀ (n : Nat) (lsn : Int), lsn.toNat < n → lsn ≤ base + L.length → norm base (L ++ M) lsn = norm base L lsn := by
  intro n
  induction n with
  | zero => intro lsn h; omega
  | succ n ih =>
    intro lsn hn hle
    have he := recAtN_append (M := M) hle
    by_cases h0 : lsn = 0
    · rw [h0, norm_zero, norm_zero]
    · cases hr : recAtN base L lsn with
      | none => rw [norm_none h0 hr, norm_none h0 (he.trans hr)]
      | some r =>
        have hlt := recAtN_lt hr
        rw [hr] at he
        by_cases h2 : r.kind = 2
        · rw [norm_set h0 hr h2, norm_set h0 he h2]
        · by_cases h1 : r.kind = 1
          · rw [norm_begin h0 hr h1, norm_begin h0 he h1]
          · by_cases h3 : goesOn r
            · by_cases hge : lsn ≤ onOf r
              · rw [norm_back h0 hr h3 hge, norm_back h0 he h3 hge]
              · rw [norm_on hb h0 hr h3 (by omega), norm_on hb h0 he h3 (by omega), ih (onOf r) (by omega) (by omega)]
            · rw [norm_other h0 hr h1 h2 h3, norm_other h0 he h1 h2 h3]

/-- the record's way back -/
def prevN (base : Int) (L : List RecD) (k : Int) : Int := ((recAtN base L k).map (·.prev)).getD 0
/-- all changes that are to be undone -/
def chainF (base : Int) (L : List RecD) : Nat → List Int → Int → List Int × Option Int
  | 0, _, _ => ([], none)
  | n + 1, out, next =>
    match norm base L next with
    | (_, some p) => ([], some p)
    | (k, none) => if k = 0 then (out, none) else if prevN base L k ≥ k then ([], some k) else chainF base L n (out ++ [k]) (prevN base L k)
def chain (base : Int) (L : List RecD) (out : List Int) (next : Int) : List Int × Option Int := chainF base L (next.toNat + 1) out next
theorem chainF_more {base : Int} {L : List RecD} (hb : 0 ≤ base) : ∀ (n m : Nat) (out : List Int) (next : Int), next.toNat < n → next.toNat < m → chainF base L n out next = chainF base L m out next := by
  intro n
  induction n with
  | zero => intro m out next h; omega
  | succ n ih =>
    intro m out next h1 h2
    obtain ⟨m, rfl⟩ : ∃ k, m = k + 1 := ⟨m - 1, by omega⟩
    unfold chainF
    cases hn : norm base L next with
    | mk k e =>
      cases e with
      | some p => rfl
      | none =>
        dsimp only
        by_cases h0 : k = 0
        · rw [if_pos h0, if_pos h0]
        · rw [if_neg h0, if_neg h0]
          by_cases hge : prevN base L k ≥ k
          · rw [if_pos hge, if_pos hge]
          · rw [if_neg hge, if_neg hge]
            rcases norm_found hb _ next (Nat.lt_succ_self _) k hn with h | ⟨h, h', _⟩
            · exact absurd h h0
            · exact ih m _ _ (by omega) (by omega)
theorem chain_bad {base : Int} {L : List RecD} {out : List Int} {next k p : Int} (h : norm base L next = (k, some p)) : chain base L out next = ([], some p) := by unfold chain chainF; rw [h]
theorem chain_end {base : Int} {L : List RecD} {out : List Int} {next : Int} (h : norm base L next = (0, none)) : chain base L out next = (out, none) := by unfold chain chainF; rw [h]; dsimp only; rw [if_pos rfl]
theorem chain_loop {base : Int} {L : List RecD} {out : List Int} {next k : Int} (h : norm base L next = (k, none)) (h0 : k ≠ 0) (hge : k ≤ prevN base L k) : chain base L out next = ([], some k) := by unfold chain chainF; rw [h]; dsimp only; rw [if_neg h0, if_pos hge]
theorem chain_on {base : Int} {L : List RecD} {out : List Int} {next k : Int} (hb : 0 ≤ base) (h : norm base L next = (k, none)) (h0 : k ≠ 0) (hlt : prevN base L k < k) : chain base L out next = chain base L (out ++ [k]) (prevN base L k) := by
  have e : chain base L out next = chainF base L next.toNat (out ++ [k]) (prevN base L k) := by
    unfold chain
    conv => lhs; unfold chainF
    rw [h]; dsimp only; rw [if_neg h0, if_neg (by omega)]
  rw [e]
  unfold chain
  rcases norm_found hb _ next (Nat.lt_succ_self _) k h with h | ⟨h, h', _⟩
  · exact absurd h h0
  · exact chainF_more hb _ _ _ _ (by omega) (by omega)
end Go.Proofs.YtoikdhfihkbcbaaDoor
