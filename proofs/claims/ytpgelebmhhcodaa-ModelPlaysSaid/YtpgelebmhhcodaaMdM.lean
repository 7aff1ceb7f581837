/- Contract of the model: All. -/
import Derived.Test.YtpgelebmhhcodaaMdN
namespace Go.Proofs.Ytpgelebmhhcodaa
open Go.RowKit
set_option linter.unusedVariables false

/-- the committed keys, as they stand -/
def EntOf (l : FM) (T : List (Int × Int)) : Prop := T.Pairwise (fun p q => p.1 < q.1) ∧ ∀ k v, (k, v) ∈ T ↔ ∃ i, l k = some (v, i)
def entL (m : FM) (K : List Int) : List (Int × Int) := K.map fun k => (k, ((m k).getD (0, false)).1)
theorem entL_of {m : FM} {K : List Int} (h1 : K.Pairwise (· < ·)) (h2 : ∀ x, x ∈ K ↔ (m x).isSome = true) : EntOf m (entL m K) := by
  refine ⟨List.pairwise_map.2 h1, fun k v => ?_⟩
  unfold entL
  rw [List.mem_map]
  constructor
  · rintro ⟨x, hx, e⟩
    simp only [Prod.mk.injEq] at e
    obtain ⟨rfl, rfl⟩ := e
    have := (h2 x).1 hx
    cases e2 : m x with
    | none => rw [e2] at this; simp at this
    | some y => exact ⟨y.2, rfl⟩
  · rintro ⟨i, e⟩
    exact ⟨k, (h2 k).2 (by rw [e]; rfl), by rw [e]; rfl⟩
theorem ent_ext : ∀ {S T : List (Int × Int)}, S.Pairwise (fun p q => p.1 < q.1) → T.Pairwise (fun p q => p.1 < q.1) → (∀ p, p ∈ S ↔ p ∈ T) → S = T
  | [], [], _, _, _ => rfl
  | [], y :: T, _, _, h => by have := (h y).2 (by simp); simp at this
  | x :: S, [], _, _, h => by have := (h x).1 (by simp); simp at this
  | x :: S, y :: T, hS, hT, h => by
    rw [List.pairwise_cons] at hS hT
    have hxy : x = y := by
      rcases List.mem_cons.1 ((h x).1 (by simp)) with e | e
      · exact e
      · rcases List.mem_cons.1 ((h y).2 (by simp)) with e2 | e2
        · exact e2.symm
        · have h1 := hT.1 x e
          have h2 := hS.1 y e2
          omega
    subst hxy
    congr 1
    refine ent_ext hS.2 hT.2 fun p => ?_
    constructor
    · intro hp
      rcases List.mem_cons.1 ((h p).1 (by simp [hp])) with e | e
      · subst e; have := hS.1 p hp; omega
      · exact e
    · intro hp
      rcases List.mem_cons.1 ((h p).2 (by simp [hp])) with e | e
      · subst e; have := hT.1 p hp; omega
      · exact e
theorem EntOf.one {l : FM} {S T : List (Int × Int)} (h : EntOf l S) (h' : EntOf l T) : S = T := ent_ext h.1 h'.1 fun ⟨k, v⟩ => by rw [h.2, h'.2]
set_option maxRecDepth 20000 in
set_option maxHeartbeats 2000000 in
theorem modelAll {w : World} {X bl bo nl n no : Nat} {fo : Int → Option Value} {ρ : Nat → Rl} {many : Int} {l : FM} {op : Int → Option Ses} (h : Md w X bl bo nl n no fo ρ many l op) (hn : nl ≤ 100000) :
    ∃ T, EntOf l T ∧ T.length ≤ nl ∧ Calls Try.prog 31 #[.pointer (some ⟨X, 0, none⟩)] w fun e w' => ∃ o c, e = .returned (.slice o T.length c) ∧ En w.heap.size w' (.slice o T.length c) T ∧ Below w.heap.size w w' := by
  obtain ⟨K, hK1, hK2, hK3, hck, hcs⟩ := keysMv h.l (by omega)
  refine ⟨entL l K, entL_of hK1 hK2, by unfold entL; rw [List.length_map]; exact hK3, ?_⟩
  have hlen : (entL l K).length = K.length := by unfold entL; rw [List.length_map]
  rw [hlen]
  obtain ⟨m, hm⟩ : ∃ m, m = K.length := ⟨_, rfl⟩
  rw [← hm] at hcs hK3 hlen ⊢
  have hwf : ∀ k ∈ K, I64L k := fun k hk => by
    have := (hK2 k).1 hk
    cases e : l k with
    | none => rw [e] at this; simp at this
    | some x => exact h.l.key e
  obtain ⟨c0, _⟩ := h.cells
  have HM := Lib.hid hm
  have HLEN := Lib.hid hlen
  have HCK := Lib.hid hck
  have HCS := Lib.hid hcs
  have HWF := Lib.hid hwf
  have HH := Lib.hid h
  clear hK1 hK2 hck hcs hm hlen hwf h
  go_enter Try.func31, Try.ntmps31
  go_wp2_with fail
  refine HCK.out.mono ?_
  clear HCK
  rintro e w1 ⟨rfl, rfl⟩
  go_wp2_with fail
  refine HCS.out.mono ?_
  clear HCS c0
  rintro e w2 ⟨oK, cK, rfl, hok, hb2⟩
  have HOK := Lib.hid hok
  have HB2 := Lib.hid hb2
  clear hok hb2
  go_wp2_with fail
  go_loopw [3, 5, 13] (fun s3 _ s13 wr => ∃ i : Nat, s13 = .int .i64 i ∧ i ≤ m ∧ Hid (Below w2.heap.size w2 wr) ∧ ∃ o5 c5, s3 = .slice o5 i c5 ∧ Hid (En w2.heap.size wr (.slice o5 i c5) ((entL l K).take i))) (fun _ _ s13 _ => m - (intOf s13).toNat)
  case atStart => exact ⟨0, rfl, by omega, Lib.hid (Below.refl _ _), none, 0, rfl, Lib.hid En.nil⟩
  case round =>
    obtain ⟨i, rfl, hi, HB, o5, c5, rfl, HS⟩ := hrel
    have hbw : Below w.heap.size w wr := HB2.out.trans (HB.out.mono HB2.out.size)
    by_cases him : (i : Int) < m
    · have hiK : i < K.length := by rw [← HM.out]; omega
      obtain ⟨hwfK, oK', cK', he, q1, q2, q3, q4⟩ := (HOK.out.ns : Ns .i64 w2 (.slice oK m cK) K)
      simp only [Value.slice.injEq] at he
      obtain ⟨rfl, -, rfl⟩ := he
      obtain ⟨aK, x, rfl, hc, hx, _⟩ := Ns.at_ hwfK q4 hiK
      have hxo := hx.out
      have hc2 := (HB.out.cell (Below.lt hc)).trans hc
      have hget : K[i]? = some x := by rw [List.getElem?_eq_getElem hiK, ← getD_lt (d := 0) hiK, hxo]
      have hxL := HWF.out x (List.mem_of_getElem? hget)
      have hmd := HH.out.below hbw
      have hlk := hmd.l.look hxL
      obtain ⟨c0, _⟩ := hmd.cells
      have hvL : I64L ((l x).getD (0, false)).1 := by
        cases e : l x with
        | none => exact ⟨by simp, by simp⟩
        | some y => exact hmd.l.wf x y e
      have hent : (entL l K)[i]? = some (x, ((l x).getD (0, false)).1) := by unfold entL; rw [List.getElem?_map, hget]; rfl
      obtain ⟨⟨v, b⟩, hv⟩ : ∃ y, y = (l x).getD (0, false) := ⟨_, rfl⟩
      rw [← hv] at hlk hvL hent
      unfold vE at hlk
      dsimp only at hlk hvL hent
      have hst : (entL l K).take (i + 1) = (entL l K).take i ++ [(x, v)] := by rw [List.take_add_one, hent]; rfl
      have hli : ((entL l K).take i).length = i := by rw [List.length_take, HLEN.out]; omega
      obtain ⟨gb, cap6, w6, hrun, ho6, hg6, _⟩ := HS.out.append1 x v hxL hvL HB.out.size (by rw [hli]; omega)
      rw [← hst, hli] at ho6
      rw [hli] at hrun
      have hb2 : Below w2.heap.size w2 (wr.alloc (.cells #[.int .i64 x, .int .i64 v] 57)) := HB.out.alloc HB.out.size _
      have hb1 : Below wr.heap.size wr (wr.alloc (.cells #[.int .i64 x, .int .i64 v] 57)) := (Below.refl _ _).alloc (Nat.le_refl _) _
      have HB6 := Lib.hid ((HS.out.below hb1).grown hg6 hb2 (Nat.le_refl _) hb2.size)
      have HO6 := Lib.hid ho6
      have hlaid := ent_laid x v
      have hfd : ∀ W : World, (Instr.field 108 (.agg #[.int .i64 v, .bool b]) 0).run Try.prog W = .ok (.int .i64 v) W := fun _ => by kernel_rfl
      clear hc hx hxo hget hmd hvL hent hv hst hli ho6 hg6 hb2 hb1 q4 hwfK q3 hbw HS
      go_wp2_with (first | (at_builtin; refine Lib.wpList_append_run _ rfl _ _ _ _ rfl _ _ rfl rfl _ _ hrun ?_))
      go_roundw
      case rel =>
        exact ⟨i + 1, by go_num, by omega, HB6, _, _, rfl, HO6⟩
      case measure => simp [intOf]; omega
    · obtain rfl : i = m := by omega
      have hT : (entL l K).take i = entL l K := List.take_of_length_le (by rw [HLEN.out]; omega)
      rw [hT] at HS
      have hsz := HB2.out.size
      go_wp2_with fail
      go_ret
      exact ⟨_, _, rfl, HS.out.mono hsz, hbw⟩
end Go.Proofs.Ytpgelebmhhcodaa
