/- Plain: the modes of a table of locks, behind Take and Free. -/
import Derived.Test.YtpgelebmhhcodaaLkQ
namespace Go.Proofs.Ytpgelebmhhcodaa
open Go.RowKit
set_option linter.unusedVariables false

theorem modeT_some {T : List HoldD} (h : OneH T) {r : HoldD} (hr : r ∈ T) : modeT T r.s r.key = r.mode := by
  unfold modeT
  induction T with
  | nil => simp at hr
  | cons x T ih =>
    unfold OneH at h ih
    rw [List.pairwise_cons] at h
    rw [List.find?_cons]
    rcases List.mem_cons.1 hr with rfl | hr
    · simp
    · have hne := h.1 r hr
      have : (x.s == r.s && x.key == r.key) = false := by
        cases hc : (x.s == r.s && x.key == r.key)
        · rfl
        · simp only [Bool.and_eq_true, beq_iff_eq] at hc; exact absurd hc hne
      rw [this]
      exact ih h.2 hr
theorem modeT_none {T : List HoldD} {s key : Int} (h : ∀ r ∈ T, ¬ (r.s = s ∧ r.key = key)) : modeT T s key = 0 := by
  unfold modeT
  rw [List.find?_eq_none.2 (fun r hr => by simpa using h r hr)]
  rfl
theorem modeT_cases {T : List HoldD} (h : OneH T) (s key : Int) : (modeT T s key = 0 ∧ ∀ r ∈ T, ¬ (r.s = s ∧ r.key = key)) ∨ ∃ r ∈ T, r.s = s ∧ r.key = key ∧ modeT T s key = r.mode := by
  by_cases e : ∃ r ∈ T, r.s = s ∧ r.key = key
  · obtain ⟨r, hr, rfl, rfl⟩ := e
    exact .inr ⟨r, hr, rfl, rfl, modeT_some h hr⟩
  · refine .inl ⟨modeT_none fun r hr hc => e ⟨r, hr, hc⟩, fun r hr hc => e ⟨r, hr, hc⟩⟩
theorem OneH.add {T : List HoldD} (h : OneH T) {x : HoldD} (hx : ∀ r ∈ T, ¬ (r.s = x.s ∧ r.key = x.key)) : OneH (T ++ [x]) := by
  unfold OneH at h ⊢
  refine List.pairwise_append.2 ⟨h, by simp, fun a ha b hb => ?_⟩
  rw [List.mem_singleton.1 hb]
  exact hx a ha
theorem modeT_add {T : List HoldD} (h : OneH T) {x : HoldD} (hx : ∀ r ∈ T, ¬ (r.s = x.s ∧ r.key = x.key)) (o j : Int) : modeT (T ++ [x]) o j = if o = x.s ∧ j = x.key then x.mode else modeT T o j := by
  have h2 := h.add hx
  split
  · rename_i e
    rw [e.1, e.2]
    exact modeT_some h2 (by simp)
  · rename_i e
    rcases modeT_cases h o j with ⟨e1, e2⟩ | ⟨r, hr, rfl, rfl, e1⟩
    · rw [e1]
      refine modeT_none fun r hr hc => ?_
      rcases List.mem_append.1 hr with hr | hr
      · exact e2 r hr hc
      · rw [List.mem_singleton.1 hr] at hc
        exact e ⟨hc.1.symm, hc.2.symm⟩
    · rw [e1]
      exact modeT_some h2 (by simp [hr])
theorem OneH.sk {T U : List HoldD} (h : OneH T) (e : U.map (fun x => (x.s, x.key)) = T.map fun x => (x.s, x.key)) : OneH U := by
  have key : ∀ V : List HoldD, OneH V ↔ (V.map fun x => (x.s, x.key)).Nodup := fun V => by
    unfold OneH List.Nodup
    rw [List.pairwise_map]
    constructor
    · intro g; exact g.imp fun {a b} hab hc => hab ⟨congrArg Prod.fst hc, congrArg Prod.snd hc⟩
    · intro g; exact g.imp fun {a b} hab hc => hab (Prod.ext hc.1 hc.2)
  rw [key, e, ← key]
  exact h
theorem OneH.set {T : List HoldD} (h : OneH T) {k : Nat} {r : HoldD} (hr : T[k]? = some r) (m : Int) : OneH (T.set k ⟨r.s, r.key, m⟩) := by
  refine h.sk ?_
  rw [List.map_set]
  obtain ⟨h1, h2⟩ := List.getElem?_eq_some_iff.1 hr
  refine List.ext_getElem? fun i => ?_
  rw [List.getElem?_set]
  split
  · rename_i e
    subst e
    rw [if_pos (by simpa using h1), List.getElem?_map, hr]
    rfl
  · rfl
theorem modeT_set {T : List HoldD} (h : OneH T) {k : Nat} {r : HoldD} (hr : T[k]? = some r) (m o j : Int) : modeT (T.set k ⟨r.s, r.key, m⟩) o j = if o = r.s ∧ j = r.key then m else modeT T o j := by
  have h2 := h.set hr m
  obtain ⟨g1, g2⟩ := List.getElem?_eq_some_iff.1 hr
  split
  · rename_i e
    rw [e.1, e.2]
    exact modeT_some h2 (List.mem_set g1 _)
  · rename_i e
    rcases modeT_cases h o j with ⟨e1, e2⟩ | ⟨q, hq, rfl, rfl, e1⟩
    · rw [e1]
      refine modeT_none fun x hx hc => ?_
      rcases List.mem_or_eq_of_mem_set hx with hx | rfl
      · exact e2 x hx hc
      · exact e ⟨hc.1.symm, hc.2.symm⟩
    · rw [e1]
      obtain ⟨i, hi⟩ := List.getElem?_of_mem hq
      refine modeT_some h2 (List.mem_of_getElem? (i := i) ?_)
      rw [List.getElem?_set]
      split
      · rename_i e3
        subst e3
        rw [hr] at hi
        simp only [Option.some.injEq] at hi
        subst hi
        exact absurd ⟨rfl, rfl⟩ e
      · exact hi
theorem OneH.free {T : List HoldD} (h : OneH T) (s : Int) : OneH (freeT T s) := by
  unfold OneH freeT at *
  exact h.filter _
theorem modeT_free {T : List HoldD} (h : OneH T) (s o j : Int) : modeT (freeT T s) o j = if o = s then 0 else modeT T o j := by
  have h2 := h.free s
  split
  · rename_i e
    refine modeT_none fun r hr hc => ?_
    have := (List.mem_filter.1 hr).2
    simp [hc.1, e] at this
  · rename_i e
    rcases modeT_cases h o j with ⟨e1, e2⟩ | ⟨q, hq, rfl, rfl, e1⟩
    · rw [e1]
      exact modeT_none fun r hr => e2 r (List.mem_filter.1 hr).1
    · rw [e1]
      exact modeT_some h2 (List.mem_filter.2 ⟨hq, by simpa using e⟩)
/-- Take, by what it does -/
theorem takeT_spec {T : List HoldD} (h : OneH T) (s key mode : Int) : (takeT T s key mode = (false, T) ∧ (isM mode = false ∨ whoL T s key mode ≠ [])) ∨
    (isM mode = true ∧ whoL T s key mode = [] ∧ (takeT T s key mode).1 = true ∧ OneH (takeT T s key mode).2 ∧ (takeT T s key mode).2.length ≤ T.length + 1 ∧
      (∀ o j, modeT (takeT T s key mode).2 o j = if o = s ∧ j = key then max (modeT T s key) mode else modeT T o j) ∧
      ∀ x ∈ (takeT T s key mode).2, (x.s = s ∧ x.key = key) ∨ x ∈ T) := by
  by_cases hc : isM mode = true ∧ whoL T s key mode = []
  · right
    have ht : takeT T s key mode = (true, if idxG s key T 0 < 0 then T ++ [⟨s, key, mode⟩] else setM T (idxG s key T 0).toNat (max (T.getD (idxG s key T 0).toNat ⟨0, 0, 1⟩).mode mode)) := by
      unfold takeT
      rw [if_pos ⟨hc.1, whoT_nil hc.2⟩]
    refine ⟨hc.1, hc.2, by rw [ht], ?_⟩
    rw [ht]
    dsimp only
    have hm : mode = 1 ∨ mode = 2 := by
      have := hc.1
      unfold isM at this
      simpa using this
    rcases idxG_mem s key T 0 with ⟨e, f⟩ | ⟨j, r, e, hr, rfl, rfl⟩
    · rw [e, if_pos (by omega)]
      have hx : ∀ r ∈ T, ¬ (r.s = (⟨s, key, mode⟩ : HoldD).s ∧ r.key = (⟨s, key, mode⟩ : HoldD).key) := f
      refine ⟨h.add hx, by simp, fun o j => ?_, fun x hx => ?_⟩
      · rw [modeT_add h hx, modeT_none f]
        dsimp only
        rw [show max (0 : Int) mode = mode from by omega]
      · rcases List.mem_append.1 hx with hx | hx
        · exact .inr hx
        · rw [List.mem_singleton.1 hx]; exact .inl ⟨rfl, rfl⟩
    · have e3 : ((0 + j : Nat) : Int).toNat = j := by omega
      have e4 : T.getD j ⟨0, 0, 1⟩ = r := by rw [List.getD_eq_getElem?_getD, hr]; rfl
      rw [e, if_neg (by omega), e3, e4, setM_eq hr]
      refine ⟨h.set hr _, by simp, fun o i => ?_, fun x hx => ?_⟩
      · rw [modeT_set h hr, modeT_some h (List.mem_of_getElem? hr)]
      · rcases List.mem_or_eq_of_mem_set hx with hx | rfl
        · exact .inr hx
        · exact .inl ⟨rfl, rfl⟩
  · left
    have hc2 : isM mode = false ∨ whoL T s key mode ≠ [] := by
      by_cases e : isM mode = true
      · exact .inr fun e2 => hc ⟨e, e2⟩
      · exact .inl (by simpa using e)
    exact ⟨takeT_no hc2, hc2⟩

/-- may it be taken? as the law says -/
def mayO (T : List HoldD) (s k m o : Int) : Bool := o == s || (modeT T o k == 0 || (m == 1 && modeT T o k == 1))
def mayT (T : List HoldD) (s k m : Int) (n : Nat) : Bool := (List.range n).all fun o => mayO T s k m o
theorem mayT_succ (T : List HoldD) (s k m : Int) (n : Nat) : mayT T s k m (n + 1) = (mayT T s k m n && mayO T s k m n) := by
  unfold mayT
  rw [List.range_succ, List.all_append]
  simp
theorem mayT_who {T : List HoldD} (h : OneH T) (hW : ∀ r ∈ T, (r.mode = 1 ∨ r.mode = 2) ∧ 0 ≤ r.s ∧ r.s < 4) {s k m : Int} (hm : m = 1 ∨ m = 2) : mayT T s k m 4 = true ↔ whoL T s k m = [] := by
  have hmm : isM m = true := by unfold isM; simpa using hm
  constructor
  · intro hmay
    unfold whoL
    rw [List.map_eq_nil_iff, List.filter_eq_nil_iff]
    intro r hr hway
    unfold wayT at hway
    simp only [Bool.and_eq_true, Bool.or_eq_true, beq_iff_eq, bne_iff_ne, ne_eq] at hway
    obtain ⟨_, rfl, h1, h2⟩ := hway
    obtain ⟨g1, g2, g3⟩ := hW r hr
    have := List.all_eq_true.1 hmay r.s.toNat (List.mem_range.2 (by omega))
    rw [Int.toNat_of_nonneg g2] at this
    unfold mayO at this
    rw [modeT_some h hr] at this
    simp only [Bool.and_eq_true, Bool.or_eq_true, beq_iff_eq] at this
    omega
  · intro hw
    refine List.all_eq_true.2 fun o ho => ?_
    unfold mayO
    simp only [Bool.and_eq_true, Bool.or_eq_true, beq_iff_eq]
    rcases modeT_cases h o k with ⟨e1, _⟩ | ⟨r, hr, h1, h2, h3⟩
    · exact .inr (.inl e1)
    · unfold whoL at hw
      rw [List.map_eq_nil_iff, List.filter_eq_nil_iff] at hw
      have h5 := hw r hr
      unfold wayT at h5
      rw [hmm] at h5
      simp only [Bool.true_and, Bool.and_eq_true, Bool.or_eq_true, beq_iff_eq, bne_iff_ne, ne_eq] at h5
      obtain ⟨g1, g2, g3⟩ := hW r hr
      rw [h3]
      by_cases e : (o : Int) = s
      · exact .inl e
      · right
        rcases g1 with g1 | g1 <;> rcases hm with e2 | e2
        · exact .inr ⟨e2, g1⟩
        · exact absurd ⟨h2, by rw [h1]; exact e, .inl e2⟩ h5
        · exact absurd ⟨h2, by rw [h1]; exact e, .inr g1⟩ h5
        · exact absurd ⟨h2, by rw [h1]; exact e, .inl e2⟩ h5

/-- the modes, in a row -/
def modesL (T : List HoldD) : List Int := (List.range 20).map fun i => modeT T ((i / 5 : Nat) : Int) ((i % 5 : Nat) : Int)
theorem modesL_len (T : List HoldD) : (modesL T).length = 20 := by unfold modesL; simp
theorem modesL_at (T : List HoldD) {o j : Nat} (ho : o < 4) (hj : j < 5) : (modesL T)[o * 5 + j]? = some (modeT T o j) := by
  unfold modesL
  rw [List.getElem?_map, List.getElem?_range (by omega)]
  simp only [Option.map_some, Option.some.injEq]
  rw [show (o * 5 + j) / 5 = o from by omega, show (o * 5 + j) % 5 = j from by omega]
theorem modesL_ext {l : List Int} (hl : l.length = 20) {T : List HoldD} (h : ∀ o j : Nat, o < 4 → j < 5 → l[o * 5 + j]? = some (modeT T o j)) : l = modesL T := by
  refine List.ext_getElem? fun i => ?_
  by_cases hi : i < 20
  · have := h (i / 5) (i % 5) (by omega) (by omega)
    have h2 := modesL_at T (o := i / 5) (j := i % 5) (by omega) (by omega)
    rw [show i / 5 * 5 + i % 5 = i from by omega] at this h2
    rw [this, h2]
  · rw [List.getElem?_eq_none (by omega), List.getElem?_eq_none (by rw [modesL_len]; omega)]
theorem modesL_take {T U : List HoldD} {s k : Nat} {x : Int} (hs : s < 4) (hk : k < 5) (h : ∀ o j : Int, modeT U o j = if o = s ∧ j = k then x else modeT T o j) : (modesL T).set (s * 5 + k) x = modesL U := by
  refine modesL_ext (by rw [List.length_set, modesL_len]) fun o j ho hj => ?_
  rw [List.getElem?_set, h]
  by_cases e : s * 5 + k = o * 5 + j
  · have e1 : o = s := by omega
    have e2 : j = k := by omega
    rw [if_pos e, if_pos (by rw [modesL_len]; omega), if_pos ⟨by omega, by omega⟩]
  · rw [if_neg e, modesL_at T ho hj, if_neg (by omega)]
theorem modesL_free {T : List HoldD} (h : OneH T) {s : Nat} (hs : s < 4) : (((((modesL T).set (s * 5) 0).set (s * 5 + 1) 0).set (s * 5 + 2) 0).set (s * 5 + 3) 0).set (s * 5 + 4) 0 = modesL (freeT T s) := by
  refine modesL_ext (by simp [modesL_len]) fun o j ho hj => ?_
  rw [modeT_free h]
  by_cases e : o = s
  · subst e
    rw [if_pos rfl]
    have : j = 0 ∨ j = 1 ∨ j = 2 ∨ j = 3 ∨ j = 4 := by omega
    rcases this with rfl | rfl | rfl | rfl | rfl <;> simp [List.getElem?_set, modesL_len] <;> omega
  · rw [if_neg (by omega), ← modesL_at T ho hj]
    rw [List.getElem?_set_ne (by omega), List.getElem?_set_ne (by omega), List.getElem?_set_ne (by omega), List.getElem?_set_ne (by omega), List.getElem?_set_ne (by omega)]
/-- what is kept of the holds -/
structure KA (T : List HoldD) : Prop where
  one : OneH T
  lay : ∀ r ∈ T, (r.mode = 1 ∨ r.mode = 2) ∧ 0 ≤ r.s ∧ r.s < 4
theorem KA.nil : KA [] := ⟨by simp [OneH], fun r hr => by simp at hr⟩
theorem KA.free {T : List HoldD} (h : KA T) (s : Int) : KA (freeT T s) := ⟨h.one.free s, fun r hr => h.lay r (List.mem_filter.1 hr).1⟩
theorem modeT_012 {T : List HoldD} (h : KA T) (s k : Int) : modeT T s k = 0 ∨ modeT T s k = 1 ∨ modeT T s k = 2 := by
  rcases modeT_cases h.one s k with ⟨e, _⟩ | ⟨r, hr, _, _, e⟩
  · exact .inl e
  · rw [e]; exact .inr (h.lay r hr).1
theorem KA.take {T : List HoldD} (h : KA T) {s k m : Int} (hm : m = 1 ∨ m = 2) (hs : 0 ≤ s ∧ s < 4) : KA (takeT T s k m).2 := by
  rcases takeT_spec h.one s k m with ⟨e, _⟩ | ⟨_, _, _, h1, _, h2, h3⟩
  · rw [e]; exact h
  · refine ⟨h1, fun x hx => ?_⟩
    rcases h3 x hx with ⟨e1, e2⟩ | hx2
    · have := modeT_some h1 hx
      rw [e1, e2, h2, if_pos ⟨rfl, rfl⟩] at this
      have := modeT_012 h s k
      refine ⟨by omega, by omega⟩
    · exact h.lay x hx2
theorem freeT_len (T : List HoldD) (s : Int) : (freeT T s).length ≤ T.length := List.length_filter_le _ _
end Go.Proofs.Ytpgelebmhhcodaa
