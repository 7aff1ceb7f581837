/- The walk of the law LockKeys. -/
import Derived.Test.YtoikdhfihkbcbaaLLockModes
import Derived.Test.YtoikdhfihkbcbaaLkQ
import Derived.Test.YtoikdhfihkbcbaaNum
namespace Go.Proofs.Ytoikdhfihkbcbaa
open Go.RowKit
set_option linter.unusedVariables false

/-- what is held, and the flags beside it -/
structure KI (T : List HoldD) (bs : List Bool) : Prop where
  lay : ∀ h ∈ T, h.mode = 2 ∧ ((h.s = 0 ∧ 0 ≤ h.key ∧ h.key < 20) ∨ (h.s = 1 ∧ 20 ≤ h.key ∧ h.key < 40))
  len : bs.length = 80
  flag : ∀ s c : Nat, s < 2 → c < 40 → (bs.getD (s * 40 + c) false = true ↔ ∃ h ∈ T, h.s = s ∧ h.key = c)
theorem zero240 (W : World) : (zeroValue 45).run Try.prog W = .ok (.agg (List.replicate 80 (Value.bool false)).toArray) W := by kernel_rfl
theorem bit31 : ∀ i : Nat, i < 31 → bits BinOp.and IntKind.i64 (i : Int) 1 = ((i % 2 : Nat) : Int) := by decide +kernel
theorem KI.nil : KI [] (List.replicate 80 false) := ⟨fun h hm => by simp at hm, by simp, fun s c hs hc => by
  constructor
  · intro h
    rw [List.getD_eq_getElem?_getD, List.getElem?_replicate] at h
    split at h <;> simp at h
  · rintro ⟨h, hm, _⟩; simp at hm⟩
theorem getD_set {bs : List Bool} {i j : Nat} (hi : i < bs.length) : (bs.set i true).getD j false = if i = j then true else bs.getD j false := by
  rw [List.getD_eq_getElem?_getD, List.getElem?_set, List.getD_eq_getElem?_getD]
  split
  · rename_i e; subst e; simp [hi]
  · rfl
theorem KI.take {T : List HoldD} {bs : List Bool} (h : KI T bs) {s k : Nat} (hs : s < 2) (hk : k < 20) :
    KI (takeT T s (20 * s + k) 2).2 (bs.set (s * 40 + (20 * s + k)) true) ∧ (takeT T s (20 * s + k) 2).2.length ≤ T.length + 1 := by
  have hw : whoL T s (20 * s + k) 2 = [] := by
    unfold whoL
    rw [List.map_eq_nil_iff, List.filter_eq_nil_iff]
    intro x hx
    have := (h.lay x hx).2
    unfold wayT
    simp [isM]
    intro e1
    omega
  have ht : (takeT T s (20 * s + k) 2).2 = if idxG s (20 * s + k) T 0 < 0 then T ++ [⟨s, 20 * s + k, 2⟩] else setM T (idxG s (20 * s + k) T 0).toNat (max (T.getD (idxG s (20 * s + k) T 0).toNat ⟨0, 0, 1⟩).mode 2) := by
    unfold takeT
    rw [if_pos ⟨rfl, whoT_nil hw⟩]
  have hflag : ∀ (U : List HoldD), (∀ x, (∃ h ∈ U, h.s = (x : HoldD).s ∧ h.key = x.key) ↔ ((∃ h ∈ T, h.s = x.s ∧ h.key = x.key) ∨ (x.s = s ∧ x.key = 20 * s + k))) → ∀ s' c : Nat, s' < 2 → c < 40 → ((bs.set (s * 40 + (20 * s + k)) true).getD (s' * 40 + c) false = true ↔ ∃ h ∈ U, h.s = s' ∧ h.key = c) := by
    intro U hU s' c hs' hc
    rw [getD_set (by rw [h.len]; omega)]
    have h1 := hU ⟨s', c, 0⟩
    dsimp only at h1
    rw [h1, ← h.flag s' c hs' hc]
    by_cases e : s * 40 + (20 * s + k) = s' * 40 + c
    · rw [if_pos e]
      have : s = s' := by omega
      subst this
      simp
      right
      omega
    · rw [if_neg e]
      constructor
      · exact .inl
      · rintro (h2 | h2)
        · exact h2
        · exfalso; apply e; omega
  rw [ht]
  rcases idxG_mem s (20 * s + k) T 0 with ⟨e, f⟩ | ⟨j, r, e, hr, f1, f2⟩
  · rw [e, if_pos (by omega)]
    refine ⟨⟨fun x hx => ?_, by rw [List.length_set]; exact h.len, hflag _ fun x => ?_⟩, by simp⟩
    · rcases List.mem_append.1 hx with hx | hx
      · exact h.lay x hx
      · rw [List.mem_singleton.1 hx]
        refine ⟨rfl, ?_⟩
        dsimp only
        omega
    · constructor
      · rintro ⟨y, hy, e1, e2⟩
        rcases List.mem_append.1 hy with hy | hy
        · exact .inl ⟨y, hy, e1, e2⟩
        · rw [List.mem_singleton.1 hy] at e1 e2
          exact .inr ⟨e1.symm, e2.symm⟩
      · rintro (⟨y, hy, e1, e2⟩ | ⟨e1, e2⟩)
        · exact ⟨y, List.mem_append.2 (.inl hy), e1, e2⟩
        · exact ⟨_, List.mem_append.2 (.inr (List.mem_singleton.2 rfl)), e1.symm, e2.symm⟩
  · have hm := (h.lay r (List.mem_of_getElem? hr)).1
    rw [e, if_neg (by omega)]
    have e3 : ((0 + j : Nat) : Int).toNat = j := by omega
    have e4 : T.getD j ⟨0, 0, 1⟩ = r := by rw [List.getD_eq_getElem?_getD, hr]; rfl
    rw [e3, e4, hm, show max (2 : Int) 2 = r.mode from by rw [hm]; rfl, setM_same hr]
    refine ⟨⟨h.lay, by rw [List.length_set]; exact h.len, hflag _ fun x => ?_⟩, by omega⟩
    constructor
    · exact .inl
    · rintro (h2 | ⟨e1, e2⟩)
      · exact h2
      · exact ⟨r, List.mem_of_getElem? hr, by rw [f1, e1], by rw [f2, e2]⟩

/-- the numbers that have a flag -/
def flagged (bs : List Bool) (s n : Nat) : List Int := ((List.range n).filter fun c => bs.getD (s * 40 + c) false).map Int.ofNat
theorem flagged_succ (bs : List Bool) (s n : Nat) : flagged bs s (n + 1) = flagged bs s n ++ (if bs.getD (s * 40 + n) false = true then [(n : Int)] else []) := by
  unfold flagged
  rw [List.range_succ, List.filter_append, List.map_append]
  congr 1
  rw [List.filter_cons]
  split <;> simp
theorem flagged_mem (bs : List Bool) (s n : Nat) (x : Int) : x ∈ flagged bs s n ↔ ∃ c : Nat, c < n ∧ bs.getD (s * 40 + c) false = true ∧ x = c := by
  unfold flagged
  simp only [List.mem_map, List.mem_filter, List.mem_range]
  constructor
  · rintro ⟨c, ⟨h1, h2⟩, rfl⟩; exact ⟨c, h1, h2, rfl⟩
  · rintro ⟨c, h1, h2, rfl⟩; exact ⟨c, ⟨h1, h2⟩, rfl⟩
theorem flagged_rise (bs : List Bool) (s : Nat) : ∀ n, (flagged bs s n).Pairwise (· < ·)
  | 0 => by simp [flagged]
  | n + 1 => by
    rw [flagged_succ]
    refine List.pairwise_append.2 ⟨flagged_rise bs s n, by split <;> simp, fun x hx y hy => ?_⟩
    obtain ⟨c, h1, _, rfl⟩ := (flagged_mem bs s n x).1 hx
    split at hy
    · rw [List.mem_singleton.1 hy]; omega
    · simp at hy
theorem flagged_pre (bs : List Bool) (s : Nat) : ∀ (m n : Nat), n ≤ m → ∃ l, flagged bs s m = flagged bs s n ++ l
  | 0, n, h => ⟨[], by obtain rfl : n = 0 := by omega
                       simp⟩
  | m + 1, n, h => by
    by_cases e : n = m + 1
    · subst e; exact ⟨[], by simp⟩
    · obtain ⟨l, hl⟩ := flagged_pre bs s m n (by omega)
      exact ⟨l ++ _, by rw [flagged_succ, hl, List.append_assoc]⟩
theorem flagged_at {bs : List Bool} {s n : Nat} (hn : n < 40) (hb : bs.getD (s * 40 + n) false = true) : (flagged bs s n).length < (flagged bs s 40).length ∧ (flagged bs s 40).getD (flagged bs s n).length 0 = n := by
  obtain ⟨l, hl⟩ := flagged_pre bs s 40 (n + 1) (by omega)
  rw [flagged_succ bs s n, if_pos hb] at hl
  rw [hl]
  refine ⟨by simp, ?_⟩
  simp [List.getD]
theorem KI.keys {T : List HoldD} {bs : List Bool} (h : KI T bs) {s : Nat} (hs : s < 2) : keysT (fun h => h.s == (s : Int)) T = flagged bs s 40 := by
  refine rise_ext _ _ (keysT_rise _ _) (flagged_rise _ _ _) fun x => ?_
  rw [keysT_mem, flagged_mem]
  constructor
  · rintro ⟨r, hr, h1, rfl⟩
    have h1 : r.s = s := by simpa using h1
    have := (h.lay r hr).2
    obtain ⟨c, hc⟩ : ∃ c : Nat, r.key = c := ⟨r.key.toNat, by omega⟩
    exact ⟨c, by omega, (h.flag s c hs (by omega)).2 ⟨r, hr, h1, hc⟩, hc⟩
  · rintro ⟨c, hc, hb, rfl⟩
    obtain ⟨r, hr, h1, h2⟩ := (h.flag s c hs hc).1 hb
    exact ⟨r, hr, by simpa using h1, h2⟩
theorem KI.held {T : List HoldD} {bs : List Bool} (h : KI T bs) : keysT (fun h => h.mode == 2) T = flagged bs 0 40 ++ flagged bs 1 40 := by
  rw [← h.keys (s := 0) (by omega), ← h.keys (s := 1) (by omega)]
  refine rise_ext _ _ (keysT_rise _ _) (List.pairwise_append.2 ⟨keysT_rise _ _, keysT_rise _ _, fun x hx y hy => ?_⟩) fun x => ?_
  · obtain ⟨r, hr, h1, rfl⟩ := (keysT_mem _ _ _).1 hx
    obtain ⟨q, hq, h2, rfl⟩ := (keysT_mem _ _ _).1 hy
    have h1 : r.s = 0 := by simpa using h1
    have h2 : q.s = 1 := by simpa using h2
    have := (h.lay r hr).2
    have := (h.lay q hq).2
    omega
  · rw [List.mem_append, keysT_mem, keysT_mem, keysT_mem]
    constructor
    · rintro ⟨r, hr, _, h2⟩
      rcases (h.lay r hr).2 with ⟨e, _⟩ | ⟨e, _⟩
      · exact .inl ⟨r, hr, by simp [e], h2⟩
      · exact .inr ⟨r, hr, by simp [e], h2⟩
    · rintro (⟨r, hr, _, h2⟩ | ⟨r, hr, _, h2⟩)
      · exact ⟨r, hr, by simp [(h.lay r hr).1], h2⟩
      · exact ⟨r, hr, by simp [(h.lay r hr).1], h2⟩
theorem KI.free0 {T : List HoldD} {bs : List Bool} (h : KI T bs) : keysT (fun h => h.s == 0) (freeT T 0) = [] ∧ keysT (fun h => h.s == 1) (freeT T 0) = flagged bs 1 40 ∧ keysT (fun h => h.mode == 2) (freeT T 0) = flagged bs 1 40 := by
  rw [← h.keys (s := 1) (by omega)]
  refine ⟨?_, keysT_eq fun x => ?_, keysT_eq fun x => ?_⟩
  · refine rise_ext _ _ (keysT_rise _ _) (by simp) fun x => ?_
    rw [keysT_mem]
    constructor
    · rintro ⟨r, hr, h1, _⟩
      have := (List.mem_filter.1 hr).2
      simp [h1] at this
    · intro hx; simp at hx
  · constructor
    · rintro ⟨r, hr, h1, h2⟩
      exact ⟨r, (List.mem_filter.1 hr).1, h1, h2⟩
    · rintro ⟨r, hr, h1, h2⟩
      have h1' : r.s = 1 := by simpa using h1
      exact ⟨r, List.mem_filter.2 ⟨hr, by simp [h1']⟩, h1, h2⟩
  · constructor
    · rintro ⟨r, hr, h1, h2⟩
      have h3 := List.mem_filter.1 hr
      have h4 : ¬ r.s = 0 := by simpa using h3.2
      have := (h.lay r h3.1).2
      have h5 : r.s = 1 := by omega
      exact ⟨r, h3.1, by simp [h5], h2⟩
    · rintro ⟨r, hr, h1, h2⟩
      have h1' : r.s = 1 := by simpa using h1
      exact ⟨r, List.mem_filter.2 ⟨hr, by simp [h1']⟩, by simp [(h.lay r hr).1], h2⟩

set_option maxRecDepth 20000 in
set_option maxHeartbeats 4000000 in
theorem lockKeys_walk {w : World} {v0 : Value} {l : List Int} (h0 : Ns .i64 w v0 l) :
    Calls Try.prog 7 #[v0] w fun e w' => e = .returned (.bool true) ∧ Below w.heap.size w w' := by
  have HF := Lib.hid (lockFirst w)
  obtain ⟨hwf, o, cap, rfl, h1, h2, h3, h4⟩ := h0
  have HN0 : Hid (Ns .i64 w (.slice o l.length cap) l) := Lib.hid ⟨hwf, o, cap, rfl, h1, h2, h3, h4⟩
  obtain ⟨n, hn⟩ : ∃ n, n = l.length := ⟨_, rfl⟩
  rw [← hn] at h1 HN0 ⊢
  have hcl : ∀ k, k < n → ∃ a x, o = some a ∧ w.cell? (a.add k) = some (.int .i64 x) ∧ I64L x := fun k hk => by
    obtain ⟨a, x, ha, hc, _, hx⟩ := Ns.at_ hwf h4 (k := k) (by omega)
    exact ⟨a, x, ha, hc, wf_i64 hx⟩
  have HC := Lib.hid hcl
  unfold maxLen at h2
  clear hwf h3 h4 hn hcl HN0
  by_cases hl : (n : Int) > 30
  · go_enter Try.func7, Try.ntmps7
    go_wp2_with fail
    refine HF.out.mono ?_
    clear HF
    rintro e w1 ⟨rfl, hb1⟩
    have HB1 := Lib.hid hb1
    clear hb1
    go_wp2_with fail
    go_ret
    exact ⟨rfl, HB1.out⟩
  · go_enter Try.func7, Try.ntmps7
    go_wp2_with fail
    refine HF.out.mono ?_
    clear HF
    rintro e w1 ⟨rfl, hb1⟩
    have HT0 : Hid (TW w (w1.alloc (.cells #[.slice none 0 0] 26)) w1.heap.size (.slice none 0 0) []) := Lib.hid (TW.new hb1)
    have HTR := Lib.hid (TR.new HT0.out 45 ((List.replicate 80 false).map Value.bool))
    have hz := zero240
    obtain ⟨zs, hzs⟩ : ∃ zs, zs = (List.replicate 80 (Value.bool false)).toArray := ⟨_, rfl⟩
    rw [← hzs] at hz
    rw [List.map_replicate, ← hzs, ← List.map_replicate] at HTR
    clear hb1 hzs HT0
    go_upto_region 8 with fail
    generalize (w1.alloc (.cells #[.slice none 0 0] 26)).alloc (.cells zs 45) = w2 at HTR ⊢
    rw [show (w1.alloc (.cells #[.slice none 0 0] 26)).heap.size = w1.heap.size + 1 from by simp] at HTR
    generalize w1.heap.size = X at HTR ⊢
    have HKI := Lib.hid KI.nil
    generalize List.replicate 80 false = bs0 at HTR HKI
    clear hz
    generalize (X + 1) = B at HTR ⊢
    go_wp2_with fail
    go_loopw [6] (fun s6 wr => ∃ (i : Nat) (v : Value) (T : List HoldD) (bs : List Bool), s6 = .int .i64 i ∧ i ≤ n ∧ Hid (TR w wr X v T B 45 (bs.map Value.bool)) ∧ Hid (KI T bs) ∧ T.length ≤ i) (fun s6 _ => n - (intOf s6).toNat)
    case atStart => exact ⟨0, _, _, _, rfl, by omega, HTR, HKI, by simp⟩
    case round =>
      obtain ⟨i, v, T, bs, rfl, hi, HT, HK, hTl⟩ := hrel
      clear HTR HKI
      by_cases hin : (i : Int) < n
      · obtain ⟨a, x, rfl, hc, hx⟩ := HC.out i (by omega)
        have hc2 := (HT.out.tw.bel.cell (Below.lt hc)).trans hc
        obtain ⟨k, hk⟩ : ∃ k : Nat, x % 20 = k := ⟨(x % 20).toNat, by omega⟩
        have hk20 : k < 20 := by omega
        have hnum := number x 20 wr (by omega) (by omega) hx.1 hx.2
        rw [hk] at hnum
        have HNUM := Lib.hid hnum
        have hbit := bit31 i (by omega)
        obtain ⟨s, hs⟩ : ∃ s : Nat, i % 2 = s := ⟨_, rfl⟩
        have hs2 : s < 2 := by omega
        rw [hs] at hbit
        obtain ⟨hKI, hlen⟩ := HK.out.take hs2 hk20
        have htk := tabTake HT.out.tw.tb s (20 * s + k) 2 (I64L_small (by omega) (by omega)) (I64L_small (by omega) (by omega)) (by omega)
        have HTK := Lib.hid htk
        have HKI2 := Lib.hid hKI
        clear hc hx hk hnum hs hKI htk
        go_wp2_with fail
        refine HNUM.out.mono ?_
        clear HNUM
        rintro e w3 ⟨rfl, rfl⟩
        go_wp2_with fail
        refine HTK.out.mono ?_
        clear HTK
        rintro e w3 ⟨rfl, v3, ht3, hx3⟩
        have HT3 := Lib.hid (HT.out.turn ht3 hx3)
        obtain ⟨b0, hb0⟩ : ∃ b0, bs[s * 40 + (20 * s + k)]? = some b0 := ⟨_, List.getElem?_eq_getElem (by rw [HK.out.len]; omega)⟩
        obtain ⟨g1, g2⟩ := HT3.out.cell (i := s * 40 + (20 * s + k)) (c := .bool b0) (by rw [List.getElem?_map, hb0]; rfl)
        have hput := HT3.out.put (s * 40 + (20 * s + k)) (.bool true)
        rw [show (bs.map Value.bool).set (s * 40 + (20 * s + k)) (.bool true) = (bs.set (s * 40 + (20 * s + k)) true).map Value.bool from by rw [List.map_set]] at hput
        have HPUT := Lib.hid hput
        clear ht3 hx3 hput hb0 HT HK
        generalize takeT T s (20 * s + k) 2 = R at HPUT HKI2 HT3 hlen ⊢
        go_wp2_with fail
        go_roundw
        case rel => exact ⟨i + 1, v3, R.2, _, by go_num, by omega, HPUT, HKI2, by omega⟩
        case measure => simp [intOf]; omega
      · obtain rfl : i = n := by omega
        have hfl : ∀ s, (flagged bs s 40).length ≤ 40 := fun s => by
          unfold flagged
          rw [List.length_map]
          exact Nat.le_trans (List.length_filter_le _ _) (by simp)
        have HFL := Lib.hid hfl
        clear hfl HC
        go_wp2_with fail
        go_loopw [9] (fun s9 wr => ∃ s : Nat, s9 = .int .i64 s ∧ s ≤ 2 ∧ Hid (TR w wr X v T B 45 (bs.map Value.bool))) (fun s9 _ => 2 - (intOf s9).toNat)
        case atStart => exact ⟨0, rfl, by omega, HT⟩
        case round =>
          obtain ⟨s, rfl, hs, HS⟩ := hrel
          clear HT
          by_cases hsn : (s : Int) < 2
          · have hk := tabKeys HS.out.tw.tb s
            rw [HK.out.keys (by omega)] at hk
            have HKK := Lib.hid hk
            clear hk
            go_wp2_with fail
            refine HKK.out.mono ?_
            clear HKK
            rintro e w4 ⟨⟨o4, rfl, hn4⟩, hb4⟩
            have HT4 := Lib.hid (HS.out.below hb4)
            obtain ⟨hw4, o5, c5, he5, _, hc5, _, hcl5⟩ := hn4
            simp only [Value.slice.injEq] at he5
            obtain ⟨rfl, _, rfl⟩ := he5
            have hcl := fun k hk => Ns.at_ hw4 hcl5 (k := k) hk
            obtain ⟨m, hm⟩ : ∃ m, m = (flagged bs s 40).length := ⟨_, rfl⟩
            rw [← hm] at hcl hc5 ⊢
            have HCL := Lib.hid hcl
            have HM := Lib.hid hm
            have hm40 : m ≤ 40 := by rw [hm]; exact HFL.out s
            clear hw4 hc5 hcl5 hcl hm hb4 HS
            go_wp2_with fail
            go_loopw [10, 12] (fun s10 s12 wr => ∃ j k : Nat, s10 = .int .i64 j ∧ s12 = .int .i64 k ∧ k ≤ 40 ∧ j ≤ k ∧ Hid (j = (flagged bs s k).length) ∧ w4 = wr) (fun _ s12 _ => 40 - (intOf s12).toNat)
            case atStart => exact ⟨0, 0, rfl, rfl, by omega, by omega, Lib.hid rfl, rfl⟩
            case round =>
              obtain ⟨j, k, rfl, rfl, hk, hjk, HJ, rfl⟩ := hrel
              by_cases hkn : (k : Int) < 40
              · obtain ⟨b0, hb0⟩ : ∃ b0, bs[s * 40 + k]? = some b0 := ⟨_, List.getElem?_eq_getElem (by rw [HK.out.len]; omega)⟩
                obtain ⟨g1, _⟩ := HT4.out.cell (i := s * 40 + k) (c := .bool b0) (by rw [List.getElem?_map, hb0]; rfl)
                have hgd : bs.getD (s * 40 + k) false = b0 := by rw [List.getD_eq_getElem?_getD, hb0]; rfl
                have hsu := flagged_succ bs s k
                rw [hgd] at hsu
                cases b0 with
                | false =>
                  rw [if_neg (by simp), List.append_nil] at hsu
                  have HJ2 : Hid (j = (flagged bs s (k + 1)).length) := Lib.hid (by rw [hsu]; exact HJ.out)
                  clear hsu hgd hb0 HJ
                  go_wp2_with fail
                  go_roundw
                  case rel => exact ⟨j, k + 1, rfl, by go_num, by omega, by omega, HJ2, trivial⟩
                  case measure => simp [intOf]; omega
                | true =>
                  rw [if_pos rfl] at hsu
                  obtain ⟨hat1, hat2⟩ := flagged_at (by omega) hgd
                  rw [← HJ.out, ← HM.out] at hat1
                  rw [← HJ.out] at hat2
                  obtain ⟨a, x, rfl, hx1, hx2, _⟩ := HCL.out j hat1
                  rw [show x = (k : Int) from by rw [← hat2]; exact hx2.out.symm] at hx1
                  have HJ2 : Hid (j + 1 = (flagged bs s (k + 1)).length) := Lib.hid (by rw [hsu, List.length_append, ← HJ.out]; rfl)
                  clear hsu hgd hb0 HJ hx2 hat2
                  go_wp2_with fail
                  go_roundw
                  case rel => exact ⟨j + 1, k + 1, by go_num, by go_num, by omega, by omega, HJ2, trivial⟩
                  case measure => simp [intOf]; omega
              · obtain rfl : k = 40 := by omega
                obtain rfl : j = m := by rw [HJ.out, HM.out]
                clear HJ
                go_wp2_with fail
                go_roundw
                case rel => exact ⟨s + 1, by go_num, by omega, HT4⟩
                case measure => simp [intOf]; omega
          · obtain rfl : s = 2 := by omega
            have hk0 := fun (W : World) (u : Value) (ht : Tb W X u T) => tabKeys ht 0
            have hk1 := fun (W : World) (u : Value) (ht : Tb W X u T) => tabKeys ht 1
            have hk2 := fun (W : World) (u : Value) (ht : Tb W X u T) => tabHeld ht
            obtain ⟨hf0, hf1, hf2⟩ := HK.out.free0
            have hj0 := fun (W : World) (u : Value) (ht : Tb W X u (freeT T 0)) => tabKeys ht 0
            have hj1 := fun (W : World) (u : Value) (ht : Tb W X u (freeT T 0)) => tabKeys ht 1
            have hj2 := fun (W : World) (u : Value) (ht : Tb W X u (freeT T 0)) => tabHeld ht
            have e0 := HK.out.keys (s := 0) (by omega)
            have e1 := HK.out.keys (s := 1) (by omega)
            rw [show ((0 : Nat) : Int) = 0 from rfl] at e0
            rw [show ((1 : Nat) : Int) = 1 from rfl] at e1
            have e2 := HK.out.held
            simp only [e0] at hk0
            simp only [e1] at hk1
            simp only [e2, List.length_append] at hk2
            simp only [hf0] at hj0
            simp only [hf1] at hj1
            simp only [hf2] at hj2
            have l0 := HFL.out 0
            have l1 := HFL.out 1
            generalize flagged bs 0 40 = F0 at hk0 hk2 l0
            generalize flagged bs 1 40 = F1 at hk1 hk2 hj1 hj2 l1
            have HK0 := Lib.hid hk0
            have HK1 := Lib.hid hk1
            have HK2 := Lib.hid hk2
            have HJ0 := Lib.hid hj0
            have HJ1 := Lib.hid hj1
            have HJ2 := Lib.hid hj2
            have HT0 := HS
            clear hk0 hk1 hk2 hj0 hj1 hj2 e0 e1 e2 hf0 hf1 hf2 HS HK HFL
            go_wp2_with fail
            refine (HK1.out _ _ HT0.out.tw.tb).mono ?_
            rintro e w5 ⟨⟨o5, rfl, _⟩, hb5⟩
            have HT5 := Lib.hid (HT0.out.below hb5)
            clear hb5 HT0
            go_wp2_with fail
            refine (HK2.out _ _ HT5.out.tw.tb).mono ?_
            rintro e w6 ⟨⟨o6, rfl, _⟩, hb6⟩
            have HT6 := Lib.hid (HT5.out.below hb6)
            clear hb6 HT5
            go_wp2_with fail
            refine (HK0.out _ _ HT6.out.tw.tb).mono ?_
            rintro e w7 ⟨⟨o7, rfl, _⟩, hb7⟩
            have HT7 := Lib.hid (HT6.out.below hb7)
            clear hb7 HT6
            go_wp2_with fail
            refine (tabFree HT7.out.tw.tb 0).mono ?_
            rintro e w8 ⟨rfl, v8, ht8, hx8⟩
            have HT8 := Lib.hid (HT7.out.turn ht8 hx8)
            clear ht8 hx8 HT7
            go_wp2_with fail
            refine (HJ0.out _ _ HT8.out.tw.tb).mono ?_
            rintro e w9 ⟨⟨o9, rfl, _⟩, hb9⟩
            have HT9 := Lib.hid (HT8.out.below hb9)
            clear hb9 HT8
            go_wp2_with fail
            refine (HJ1.out _ _ HT9.out.tw.tb).mono ?_
            rintro e w10 ⟨⟨o10, rfl, _⟩, hb10⟩
            have HT10 := Lib.hid (HT9.out.below hb10)
            clear hb10 HT9
            go_wp2_with fail
            refine (HJ2.out _ _ HT10.out.tw.tb).mono ?_
            rintro e w11 ⟨⟨o11, rfl, _⟩, hb11⟩
            have HT11 := Lib.hid (HT10.out.below hb11)
            clear hb11 HT10
            go_wp2_with fail
            go_ret
            exact ⟨by simp, HT11.out.tw.bel⟩
end Go.Proofs.Ytoikdhfihkbcbaa
