/- Entries in memory (written by a program out of WrA); the keys of a map, sorted. -/
import Derived.Test.YtpgelebmhhcodaaMdE
import Derived.Test.YtpgelebmhhcodaaLkI
namespace Go.Proofs.Ytpgelebmhhcodaa
open Go.RowKit
set_option linter.unusedVariables false

def enCl (p : Int × Int) : List Value := [.int .i64 p.1, .int .i64 p.2]
theorem flatE_len (T : List (Int × Int)) : (T.flatMap enCl).length = T.length * 2 := by
  induction T with
  | nil => rfl
  | cons x T ih => rw [List.flatMap_cons, List.length_append, ih, List.length_cons]; simp [enCl]; omega
theorem flatE : ∀ (T : List (Int × Int)) (n i : Nat) (h : Int × Int), T[n]? = some h → i < 2 → (T.flatMap enCl)[n * 2 + i]? = (enCl h)[i]?
  | [], n, i, r, h, _ => by simp at h
  | x :: T, 0, i, r, h, hi => by
    simp only [List.getElem?_cons_zero, Option.some.injEq] at h
    subst h
    rw [List.flatMap_cons, List.getElem?_append_left (by simp [enCl]; omega)]
    simp
  | x :: T, n + 1, i, r, h, hi => by
    rw [List.flatMap_cons, List.getElem?_append_right (by simp [enCl]; omega), ← flatE T n i r (by simpa using h) hi]
    congr 1
    simp [enCl]
    omega
/-- entries in a row of their own -/
def En (base : Nat) (w : World) (v : Value) (T : List (Int × Int)) : Prop := (∀ p ∈ T, I64L p.1 ∧ I64L p.2) ∧ w.ownsRow base 57 2 v T.length (T.flatMap enCl)
theorem En.nil {base : Nat} {w : World} : En base w (.slice none 0 0) [] := ⟨fun _ h => by simp at h, World.ownsRow_nil _ _ _ _⟩
theorem En.same {base : Nat} {w w' : World} {v : Value} {T : List (Int × Int)} (h : En base w v T) (hb : ∀ b, v.ownBlock = some b → w'.heap[b]? = w.heap[b]?) : En base w' v T := ⟨h.1, ownsRow_sameL h.2 hb⟩
theorem En.lt {base : Nat} {w : World} {v : Value} {T : List (Int × Int)} (h : En base w v T) {b : Nat} (hb : v.ownBlock = some b) : base ≤ b ∧ b < w.heap.size := h.2.lt b hb
theorem En.below {base : Nat} {w w' : World} {v : Value} {T : List (Int × Int)} (h : En base w v T) (hb : Below w.heap.size w w') : En base w' v T := h.same fun b e => hb.block b (h.lt e).2
theorem En.mono {base base' : Nat} {w : World} {v : Value} {T : List (Int × Int)} (h : En base w v T) (hb : base' ≤ base) : En base' w v T := by
  refine ⟨h.1, h.2.1, ?_⟩
  rcases h.2.2 with hn | ⟨g, cap, cur, hv, hbg, hg, r⟩
  · exact .inl hn
  · exact .inr ⟨g, cap, cur, hv, by omega, hg, r⟩
theorem En.grown {base B : Nat} {w0 w w' : World} {v : Value} {T : List (Int × Int)} (h : En base w v T) (hg : w.grownBy w' v.ownBlock) (hb : Below B w0 w) (h1 : B ≤ base) (h2 : B ≤ w.heap.size) : Below B w0 w' :=
  hb.grown hg h2 fun k hk => Nat.le_trans h1 (h.lt hk).1
theorem En.form {base : Nat} {w : World} {v : Value} {T : List (Int × Int)} (h : En base w v T) :
    ∃ o cap, v = .slice o T.length cap ∧ T.length ≤ cap ∧ cap ≤ maxLen ∧ (o = none → cap = 0 ∧ T = []) ∧ (∀ a, o = some a → ∃ g, a = ⟨g, 0, none⟩ ∧ base ≤ g ∧ g < w.heap.size ∧ (∀ i r, T[i]? = some r → ∀ j, j < 2 → w.cell? ⟨g, i * 2 + j, none⟩ = (enCl r)[j]?)) := by
  rcases h.2.2 with ⟨rfl, hn⟩ | ⟨g, cap, cur, rfl, hbg, hg, hn, hcm, hcs, ht⟩
  · have : T = [] := List.eq_nil_of_length_eq_zero hn
    subst this
    exact ⟨none, 0, rfl, by simp, by simp [maxLen], fun _ => ⟨rfl, rfl⟩, fun a e => by simp at e⟩
  · refine ⟨some ⟨g, 0, none⟩, cap, rfl, hn, hcm, by simp, fun a e => ⟨g, by simpa using e.symm, hbg, (Array.getElem?_eq_some_iff.1 hg).1, fun i r hr j hj => ?_⟩⟩
    have hi : i < T.length := (List.getElem?_eq_some_iff.1 hr).1
    rw [cell_of_row w g _ _ _ _ hg, ← flatE T i j r hr hj, ← ht, List.getElem?_take, if_pos (by omega)]
    simp
theorem En.at_ {base : Nat} {w : World} {o : Option Addr} {n cap : Nat} {T : List (Int × Int)} (h : En base w (.slice o n cap) T) {k : Nat} (hk : k < T.length) :
    ∃ g r, o = some ⟨g, 0, none⟩ ∧ T[k]? = some r ∧ I64L r.1 ∧ I64L r.2 ∧ w.cell? ⟨g, k * 2, none⟩ = some (.int .i64 r.1) ∧ w.cell? ⟨g, k * 2 + 1, none⟩ = some (.int .i64 r.2) := by
  obtain ⟨o', cap', he, h1, h2, h3, h4⟩ := h.form
  simp only [Value.slice.injEq] at he
  obtain ⟨rfl, _, rfl⟩ := he
  cases o with
  | none => rw [(h3 rfl).2] at hk; simp at hk
  | some a =>
    obtain ⟨g, rfl, hb, hg, hc⟩ := h4 a rfl
    have hr := List.getElem?_eq_getElem hk
    have hw := h.1 _ (List.getElem_mem hk)
    exact ⟨g, T[k], rfl, hr, hw.1, hw.2, hc k _ hr 0 (by omega), hc k _ hr 1 (by omega)⟩
theorem entInfo : (Try.prog.info? 57).map (fun i => (i.zero, i.size, i.bytes)) = some (some (.agg #[.int .i64 0, .int .i64 0]), 2, 16) := by kernel_rfl
theorem ent_laid (a b : Int) (w : World) : (Instr.buildSlice 54 1 #[(0, .agg #[.int .i64 a, .int .i64 b])]).run Try.prog w = .ok (.slice (some ⟨w.heap.size, 0, none⟩) 1 1) (w.alloc (.cells #[.int .i64 a, .int .i64 b] 57)) := by kernel_rfl
/-- append of one entry that was just laid -/
theorem En.append1 {base : Nat} {w : World} {v : Value} {T : List (Int × Int)} (h : En base w v T) (a b : Int) (ha : I64L a) (hb : I64L b) (hbase : base ≤ w.heap.size) (hn : T.length ≤ 100000) :
    ∃ gb cap w', (Builtin.append_ #[54, 54] 54 #[v, .slice (some ⟨w.heap.size, 0, none⟩) 1 1]).run Try.prog (w.alloc (.cells #[.int .i64 a, .int .i64 b] 57)) = .ok (.slice (some ⟨gb, 0, none⟩) (T.length + 1) cap) w' ∧
      En base w' (.slice (some ⟨gb, 0, none⟩) (T.length + 1) cap) (T ++ [(a, b)]) ∧ (w.alloc (.cells #[.int .i64 a, .int .i64 b] 57)).grownBy w' v.ownBlock ∧ (v.ownBlock = some gb ∨ gb = w.heap.size + 1) := by
  obtain ⟨i0, hi0, hz0, hz1, hz2⟩ := info_parts entInfo
  have hb1 : Below w.heap.size w (w.alloc (.cells #[.int .i64 a, .int .i64 b] 57)) := (Below.refl _ _).alloc (Nat.le_refl _) _
  obtain ⟨gb, cap, w', hrun, hown, hgrow, hat, hlt⟩ := run_append_lies (P := Try.prog) (w.alloc (.cells #[.int .i64 a, .int .i64 b] 57)) 54 54 base 57 i0 _ 2 16 Try.underlying54 hi0 hz0 hz1 hz2 rfl (by omega)
    v T.length _ (h.below hb1).2 ⟨w.heap.size, 0, none⟩ 1 1 (enCl (a, b)) rfl (World.news_of_block (cs := (enCl (a, b)).toArray) (t := 57) (fr := (0, 0)) (heap_alloc_new w _)) (fun u hu => by
      simp only [enCl, List.mem_cons, List.not_mem_nil, or_false] at hu
      rcases hu with rfl | rfl <;> rfl) (by omega) (by simp [maxLen]; omega) (by omega) (by simp; omega) _ rfl
  exact ⟨gb, cap, w', hrun, ⟨fun x hx => by
      rcases List.mem_append.1 hx with hx | hx
      · exact h.1 x hx
      · rw [List.mem_singleton.1 hx]; exact ⟨ha, hb⟩, by rw [List.length_append, List.flatMap_append]; simpa using hown⟩, hgrow, by simpa using hat⟩

theorem sortsA (m : Nat) : AnyZI.SortsIn Try.prog Try.sortedA_ren Fence.wide m :=
  ⟨fun blk off cap ss W hH hblk hsz => callsIn_wide.2 (Try.slices_Sort_int blk off cap ss W hH hblk hsz), fun p cap W => callsIn_wide.2 (Try.slices_Sort_int_none p cap W)⟩
theorem mem_intKeys {D : DataW Value} {es : List (Lit × DataW Value)} (hD : D = .map es) (hk : ∀ p ∈ es, ∃ x, p.1 = .int .i64 x) (x : Int) : x ∈ intKeys D ↔ Go.Maps.has D (kL x) = true := by
  subst hD
  show x ∈ es.map (fun p => Go.intOf p.1) ↔ es.any (fun p => p.1.sameKey (kL x)) = true
  rw [List.mem_map, List.any_eq_true]
  constructor
  · rintro ⟨p, hp, rfl⟩
    obtain ⟨a, ha⟩ := hk p hp
    exact ⟨p, hp, by rw [ha]; simp [Lit.sameKey, Go.intOf, kL]⟩
  · rintro ⟨p, hp, hs⟩
    obtain ⟨a, ha⟩ := hk p hp
    rw [ha] at hs
    exact ⟨p, hp, by rw [ha]; simpa [Lit.sameKey, Go.intOf, kL] using hs⟩
theorem keysMv {w : World} {b n : Nat} {m : FM} (h : Mv w b n m) (hn : n ≤ 1000000) :
    ∃ K : List Int, K.Pairwise (· < ·) ∧ (∀ x, x ∈ K ↔ (m x).isSome = true) ∧ K.length ≤ n ∧
      (Calls Try.prog 80 #[.map (some b)] w fun e w' => e = .returned (.func (.func 97) #[] #[.pointer (some ⟨w.heap.size, 0, none⟩)]) ∧ w' = w.alloc (.cells #[.map (some b)] 98)) ∧
      (Calls Try.prog 79 #[.func (.func 97) #[] #[.pointer (some ⟨w.heap.size, 0, none⟩)]] (w.alloc (.cells #[.map (some b)] 98)) fun e w' => ∃ o c, e = .returned (.slice o K.length c) ∧ Oi w.heap.size w' (.slice o K.length c) K ∧ Below w.heap.size w w') := by
  have hkey := h.mp
  obtain ⟨⟨⟨D, hown, hD⟩, hout⟩, _⟩ := h
  obtain ⟨es, hDe, hpw, _⟩ := hown.entries ilaw
  obtain ⟨es', hDe', hko⟩ := hown.keysOf
  obtain rfl : es = es' := by rw [hDe] at hDe'; simpa using hDe'
  have hk : ∀ p ∈ es, ∃ x, p.1 = .int .i64 x := fun p hp => by
    obtain ⟨v, hv⟩ := hko p hp
    obtain ⟨x, _, hx, _⟩ := kL_inv hv
    exact ⟨x, hx⟩
  have hmem := mem_intKeys hDe hk
  have hsome : ∀ x, x ∈ intKeys D ↔ (m x).isSome = true := fun x => by
    rw [hmem]
    have e2 : (m x).isSome = (mV m x).isSome := by unfold mV; cases m x <;> rfl
    by_cases hx : I64L x
    · rw [e2, ← hD x hx]
      unfold getV
      cases hh : Go.Maps.has D (kL x) with
      | false => simp
      | true =>
        rw [if_pos rfl]
        obtain ⟨es2, clock, hb, F, hs, rfl⟩ := hown
        have hl := Go.Maps.fit_look (P := Try.prog) (w := w) false ilaw Try.underlying98 (valZero w) hb F (kL_of hx)
        rcases hl with ⟨_, _, hat⟩ | ⟨e0, y, _, _, _, hR, hat, _⟩
        · rw [Go.Maps.has_false_of_atKey hat] at hh; simp at hh
        · have hy : y = (.held e0.val, []) := by unfold hv at hR; simpa using hR.symm
          rw [hat, hy]
          simp
    · rw [e2, hout x hx]
      constructor
      · intro hh
        rw [← hmem] at hh
        exact absurd (L_of_wf (intKeys_wf hown Try.underlying3 x hh)) hx
      · simp
  have hnd : (intKeys D).Nodup := by
    rw [hDe]
    show (es.map fun p => Go.intOf p.1).Nodup
    refine List.pairwise_map.2 (hpw.imp_of_mem fun {p q} hp' hq' hne e => hne ?_)
    obtain ⟨a, ha⟩ := hk p hp'
    obtain ⟨b, hb⟩ := hk q hq'
    rw [ha, hb] at e ⊢
    exact congrArg _ e
  have hsz : Maps.size D ≤ n := by
    obtain ⟨es2, clock, hb, F, hs, rfl⟩ := hown
    simpa [Maps.size, length_sorted] using hs
  have hlen : (intKeys D).length = Maps.size D := by rw [hDe]; simp [intKeys, Maps.size]
  have hbl := hown.lt
  have hseq : SeqGives Fence.wide 2 Try.prog 97 #[.pointer (some ⟨w.heap.size, 0, none⟩)] encZ (fun ss => ss.Perm (intKeys D)) (Maps.size D) (w.alloc (.cells #[.map (some b)] 98)) :=
    AnyZI.keys_gives (ρ := Try.keysA_ren) { Try.keysA with } Fence.wide _ trivial rfl (by omega) w.heap.size b n D _ (by simp) (by simp) (by
      obtain ⟨es, clock, hb, Ft, hs, hD⟩ := hown
      exact ⟨es, clock, (Below.heap_alloc _ _ b hbl).trans hb, Ft, hs, hD⟩)
  have cS := AnyZI.sorted_in Try.sortedA Fence.wide 5 trivial trivial trivial trivial rfl (by omega) (sortsA _) (enters_of Try.func69 (by kernel_rfl) rfl) 97 #[.pointer (some ⟨w.heap.size, 0, none⟩)] trivial (enters_of Try.func97 (by kernel_rfl) rfl) _ (Maps.size D) (by unfold maxLen; omega) (by omega) _ hseq
  change CallsIn _ _ Try.prog 79 _ _ _ at cS
  have cK : Calls Try.prog 80 #[.map (some b)] w fun e w' => e = .returned (.func (.func 97) #[] #[.pointer (some ⟨w.heap.size, 0, none⟩)]) ∧ w' = w.alloc (.cells #[.map (some b)] 98) := callsIn_wide.1 (AnyZI.keys_in Try.keysA Fence.wide 5 trivial rfl (some b) w)
  have tr : ∀ a b c : Int, leI a b = true → leI b c = true → leI a c = true := fun a b c h1 h2 => by simp only [leI, decide_eq_true_eq] at *; exact Int.le_trans h1 h2
  have tot : ∀ a b : Int, (leI a b || leI b a) = true := fun a b => by simp only [leI, Bool.or_eq_true, decide_eq_true_eq]; exact Int.le_total a b
  have hperm := List.mergeSort_perm (intKeys D) leI
  refine ⟨(intKeys D).mergeSort leI, ?_, fun x => by rw [hperm.mem_iff]; exact hsome x, by rw [hperm.length_eq, hlen]; exact hsz, cK, (callsIn_wide.1 cS).mono fun e w' ⟨v, ss, q1, q2, q3, q4, q5⟩ => ?_⟩
  · have h1 := List.pairwise_mergeSort tr tot (intKeys D)
    have h2 : ((intKeys D).mergeSort leI).Nodup := hperm.nodup_iff.2 hnd
    refine (h1.and h2).imp fun {a b} hab => ?_
    have e1 : a ≤ b := by simpa [leI] using hab.1
    have e2 : a ≠ b := hab.2
    omega
  · have hms : (ss.mergeSort fun x y => decide (x ≤ y)) = (intKeys D).mergeSort leI := mergeSort_of_perm_i q2
    have hl2 : ss.length = ((intKeys D).mergeSort leI).length := by rw [hperm.length_eq, q2.length_eq]
    have hB1 : Below w.heap.size w w' := ((Below.refl _ w).alloc (Nat.le_refl _) _).trans (q5.mono (by simp))
    rw [hms, hl2] at q3
    have hoi : Oi w.heap.size w' v ((intKeys D).mergeSort leI) := by
      refine ⟨fun x hx => intKeys_wf hown Try.underlying3 x (hperm.mem_iff.1 hx), ?_⟩
      have := ownsRow_base_a q3 (base' := w.heap.size) (by simp)
      exact this
    obtain ⟨o, c, rfl, _⟩ := hoi.form
    exact ⟨o, c, q1, hoi, hB1⟩
end Go.Proofs.Ytpgelebmhhcodaa
