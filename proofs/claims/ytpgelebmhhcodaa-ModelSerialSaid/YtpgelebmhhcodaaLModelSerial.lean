/- The walk of the law ModelSerial. -/
import Derived.Test.YtpgelebmhhcodaaMdQ
import Derived.Test.YtpgelebmhhcodaaNum
import Derived.Test.YtpgelebmhhcodaaLrS
import Derived.IntWalk
import Derived.BigQuiet
namespace Go.Proofs.Ytpgelebmhhcodaa
open Go.RowKit
set_option linter.unusedVariables false

/-- what a session's changes come to -/
def toC (l own : FM) : Int → Option Int := fun k => match own k with
  | some (v, true) => some v
  | some (_, false) => none
  | none => (l k).map (·.1)
def GoodL (l : FM) : Prop := ∀ k v i, l k = some (v, i) → i = true
theorem GoodL.prune (m : FM) : GoodL (pruneM m) := fun k v i h => by
  unfold pruneM at h
  cases e : m k with
  | none => rw [e] at h; simp at h
  | some x =>
    obtain ⟨a, b⟩ := x
    rw [e] at h
    cases b
    · simp at h
    · simp at h; exact h.2
theorem toC_commit (l own : FM) : toC (pruneM (mergeM l own)) (fun _ => none) = toC l own ∨ ¬ GoodL l := by
  by_cases hg : GoodL l
  · left
    funext k
    unfold toC pruneM mergeM
    cases e : own k with
    | some x =>
      obtain ⟨a, b⟩ := x
      cases b <;> simp
    | none =>
      cases e2 : l k with
      | none => simp
      | some x =>
        obtain ⟨a, b⟩ := x
        have := hg k a b e2
        subst this
        simp
  · exact .inr hg
theorem toC_put (l own : FM) (k v : Int) : toC l (updM own k (some (v, true))) = updM (toC l own) k (some v) := by
  funext j
  unfold toC updM
  by_cases e : j = k <;> simp [e]
theorem toC_del (l own : FM) (k : Int) : toC l (updM own k (some (0, false))) = updM (toC l own) k none := by
  funext j
  unfold toC updM
  by_cases e : j = k <;> simp [e]
theorem sees_toC {l : FM} {op : Int → Option Ses} {s : Int} {z : Ses} (hg : GoodL l) (ho : op s = some z) (k : Int) : (seesM l op s k).2 = (toC l z.own k).isSome ∧ ∀ x, toC l z.own k = some x → (seesM l op s k).1 = x := by
  unfold seesM toC
  rw [ho]
  dsimp only
  cases e : z.own k with
  | some x =>
    obtain ⟨a, b⟩ := x
    cases b <;> simp
  | none =>
    cases e2 : l k with
    | none => simp
    | some x =>
      obtain ⟨a, b⟩ := x
      have := hg k a b e2
      subst this
      simp
theorem zeroB : (#[.bool false, .bool false, .bool false, .bool false, .bool false, .bool false, .bool false, .bool false, .bool false, .bool false] : Array Value) = rowF 10 fun _ => .bool false := rfl
theorem zeroI : (#[.int .i64 0, .int .i64 0, .int .i64 0, .int .i64 0, .int .i64 0, .int .i64 0, .int .i64 0, .int .i64 0, .int .i64 0, .int .i64 0] : Array Value) = rowF 10 fun _ => .int .i64 0 := rfl
/-- the arrays tell what the keys have -/
structure SerB (l own : FM) (f g : Nat → Value) (V : Nat → Int) : Prop where
  good : GoodL l
  f : ∀ k : Nat, k < 10 → f k = .bool (toC l own k).isSome
  g : ∀ k : Nat, k < 10 → g k = .int .i64 (V k)
  v : ∀ k : Nat, k < 10 → ∀ x, toC l own k = some x → V k = x
  keys : ∀ k, (toC l own k).isSome = true → 0 ≤ k ∧ k < 10
theorem SerB.del {l own : FM} {f g : Nat → Value} {V : Nat → Int} (h : SerB l own f g V) {k : Nat} (hk : k < 10) : SerB l (updM own k (some (0, false))) (updN f k (.bool false)) g V := by
  refine ⟨h.good, fun j hj => ?_, h.g, fun j hj x hx => ?_, fun j hj => ?_⟩
  · rw [toC_del]
    by_cases e : j = k
    · subst e; rw [updN_same, updM_same]; rfl
    · rw [updN_other _ _ e, updM_other _ _ (by omega)]; exact h.f j hj
  · rw [toC_del] at hx
    by_cases e : j = k
    · subst e; rw [updM_same] at hx; simp at hx
    · rw [updM_other _ _ (by omega)] at hx; exact h.v j hj x hx
  · rw [toC_del] at hj
    by_cases e : j = (k : Int)
    · omega
    · rw [updM_other _ _ e] at hj; exact h.keys j hj
theorem SerB.put {l own : FM} {f g : Nat → Value} {V : Nat → Int} (h : SerB l own f g V) {k : Nat} (hk : k < 10) (y : Int) : SerB l (updM own k (some (y, true))) (updN f k (.bool true)) (updN g k (.int .i64 y)) (fun j => if j = k then y else V j) := by
  refine ⟨h.good, fun j hj => ?_, fun j hj => ?_, fun j hj x hx => ?_, fun j hj => ?_⟩
  · rw [toC_put]
    by_cases e : j = k
    · subst e; rw [updN_same, updM_same]; rfl
    · rw [updN_other _ _ e, updM_other _ _ (by omega)]; exact h.f j hj
  · by_cases e : j = k
    · subst e; rw [updN_same, if_pos rfl]
    · rw [updN_other _ _ e, if_neg e]; exact h.g j hj
  · rw [toC_put] at hx
    by_cases e : j = k
    · subst e; rw [updM_same] at hx; rw [if_pos rfl]; simpa using hx
    · rw [updM_other _ _ (by omega)] at hx; rw [if_neg e]; exact h.v j hj x hx
  · rw [toC_put] at hj
    by_cases e : j = (k : Int)
    · omega
    · rw [updM_other _ _ e] at hj; exact h.keys j hj
theorem SerB.commit {l own : FM} {f g : Nat → Value} {V : Nat → Int} (h : SerB l own f g V) : SerB (pruneM (mergeM l own)) (fun _ => none) f g V := by
  have e : toC (pruneM (mergeM l own)) (fun _ => none) = toC l own := (toC_commit l own).resolve_right (fun hn => hn h.good)
  exact ⟨GoodL.prune _, fun k hk => by rw [e]; exact h.f k hk, h.g, fun k hk x hx => h.v k hk x (by rw [← e]; exact hx), fun k hk => h.keys k (by rw [← e]; exact hk)⟩
/-- where it stands ahead of the i-th -/
structure SerI (n E i : Nat) (l own : FM) (op : Int → Option Ses) (f g : Nat → Value) (V : Nat → Int) : Prop where
  b : SerB l own f g V
  idle : (i = n ∨ i % E = 0) → own = (fun _ => none) ∧ op = fun _ => none
  busy : ¬ (i = n ∨ i % E = 0) → op = updM (fun _ => none) ((i / E % 3 : Nat) : Int) (some ⟨own, []⟩)
theorem SerI.start (n E : Nat) : SerI n E 0 (fun _ => none) (fun _ => none) (fun _ => none) (fun _ => .bool false) (fun _ => .int .i64 0) (fun _ => 0) :=
  ⟨⟨fun k v i h => by simp at h, fun k hk => rfl, fun k hk => rfl, fun k hk x h => by simp [toC] at h, fun k h => by simp [toC] at h⟩, fun _ => ⟨rfl, rfl⟩, fun h => absurd (.inr (Nat.zero_mod _)) h⟩
theorem updM_nil {α : Type} (k : Int) : updM (fun _ => (none : Option α)) k none = fun _ => none := by
  funext j; unfold updM; split <;> rfl
theorem mod_last {E i : Nat} (hE : 0 < E) (h : i % E = E - 1) : (i + 1) % E = 0 := by
  have h1 := Nat.div_add_mod i E
  have h2 : i + 1 = E * (i / E + 1) := by rw [Nat.mul_add, Nat.mul_one]; omega
  rw [h2]; exact Nat.mul_mod_right _ _
theorem mod_next {E i : Nat} (hE : 0 < E) (h : ¬ i % E = E - 1) : (i + 1) % E ≠ 0 ∧ (i + 1) / E = i / E := by
  have h1 := Nat.div_add_mod i E
  have h3 := Nat.mod_lt i hE
  have h2 : i + 1 = E * (i / E) + (i % E + 1) := by omega
  generalize i / E = d at h2 ⊢
  generalize i % E = r at h2 h3 h
  refine ⟨?_, ?_⟩
  · rw [h2, Nat.mul_add_mod, Nat.mod_eq_of_lt (by omega)]; omega
  · rw [h2, Nat.mul_add_div hE, Nat.div_eq_of_lt (by omega)]; rfl
theorem wrapL (n : Int) : I64L (wrap64 n) := wf_i64 (wrap64_wf n)
set_option maxRecDepth 20000 in
set_option maxHeartbeats 8000000 in
theorem modelSerial_walk {w : World} {u : Value} {ls : List Int} {ev v : Int} (h0 : Ns .i64 w u ls) (h1 : I64L ev) (h2 : I64L v) :
    Calls Try.prog 6 #[u, .int .i64 ev, .int .i64 v] w fun e w' => e = .returned (.bool true) ∧ Below w.heap.size w w' := by
  have HF := Lib.hid (modelFirst w)
  have H0 := Lib.hid h0
  have H1 := Lib.hid h1
  have H2 := Lib.hid h2
  obtain ⟨_, o0, c0, rfl, q1, q2, _⟩ := h0
  unfold maxLen at q2
  obtain ⟨n, hn⟩ : ∃ n, n = ls.length := ⟨_, rfl⟩
  rw [← hn] at q1 H0 ⊢
  have HN := Lib.hid hn
  clear hn h1 h2
  by_cases hl : (n : Int) > 40
  · go_enter Try.func6, Try.ntmps6
    go_wp2_with fail
    refine HF.out.mono ?_
    clear HF
    rintro e w1 ⟨rfl, hb1⟩
    have HB1 := Lib.hid hb1
    clear hb1
    go_wp2_with fail
    go_ret
    exact ⟨rfl, HB1.out⟩
  · go_enter Try.func6, Try.ntmps6
    go_wp2_with fail
    refine HF.out.mono ?_
    clear HF
    rintro e w1 ⟨rfl, hb1⟩
    obtain ⟨E0, hE⟩ : ∃ E : Nat, ev % 9 = E := ⟨(ev % 9).toNat, by omega⟩
    have hE1 : E0 < 9 := by omega
    have nr := number ev 9 w1 (by omega) (by omega) H1.out.1 H1.out.2
    rw [hE] at nr
    have NR := Lib.hid nr
    have HNN := Lib.hid (Mo.new 3 (Fz.of_below hb1))
    clear nr hE hb1 H1
    go_wp2_with fail
    refine NR.out.mono ?_
    clear NR
    rintro e w1' ⟨rfl, rfl⟩
    go_wp2_with fail
    refine HNN.out.mono ?_
    clear HNN
    rintro e w2 ⟨X, rfl, hm2, _⟩
    have HQ := Lib.hid (TQ.new hm2 49 50 10 (fun _ => .bool false) (fun _ => .int .i64 0))
    clear hm2
    go_upto_region 12 with fail
    rw [← zeroB, ← zeroI] at HQ
    generalize ((w2.alloc (.cells #[.bool false, .bool false, .bool false, .bool false, .bool false, .bool false, .bool false, .bool false, .bool false, .bool false] 49)).alloc (.cells #[.int .i64 0, .int .i64 0, .int .i64 0, .int .i64 0, .int .i64 0, .int .i64 0, .int .i64 0, .int .i64 0, .int .i64 0, .int .i64 0] 50)) = w3 at HQ ⊢
    generalize hB : w2.heap.size + 1 = B at HQ ⊢
    generalize w2.heap.size = A at HQ hB ⊢
    clear hB
    obtain ⟨E, hE⟩ : ∃ E, E = E0 + 1 := ⟨_, rfl⟩
    have hE2 : ((E0 : Int) + 1) = (E : Int) := by omega
    have hE3 : 0 < E := by omega
    have hE4 : E ≤ 9 := by omega
    rw [hE2]
    clear hE hE1 hE2
    go_wp2_with fail
    go_loopw [11] (fun s11 wr => ∃ (i : Nat) (f g : Nat → Value) (nl n' no : Nat) (l own : FM) (op : Int → Option Ses) (V : Nat → Int), s11 = .int .i64 i ∧ i ≤ n ∧ Hid (TQ w wr A B 49 50 10 f g X nl n' no 3 l op) ∧ Hid (SerI n E i l own op f g V) ∧ nl ≤ 100 * i ∧ n' ≤ i ∧ no ≤ i) (fun s11 _ => n - (intOf s11).toNat)
    case atStart => exact ⟨0, _, _, _, _, _, _, _, _, _, rfl, by omega, HQ, Lib.hid (SerI.start n E), by omega, by omega, by omega⟩
    case round =>
      obtain ⟨i, f, g, nl, n', no, l, own, op, V, rfl, hi, HQi, HSi, hnl, hn', hno⟩ := hrel
      clear HQ
      by_cases hin : (i : Int) < n
      · obtain ⟨q, hq⟩ : ∃ q, q = i / E % 3 := ⟨_, rfl⟩
        have e12 : (wrap64 ((i : Int) / (E : Int))).tmod 3 = (q : Int) := by
          have h1 : (i : Int) / (E : Int) = ((i / E : Nat) : Int) := (Int.natCast_ediv i E).symm
          have h2 : i / E ≤ i := Nat.div_le_self i E
          rw [h1]
          generalize i / E = d at hq h2 ⊢
          rw [show wrap64 (d : Int) = (d : Int) from IntWalk.wrap64_in _ (by omega), hq]
          exact (Int.ofNat_tmod d 3).symm
        have hq3 : q < 3 := by rw [hq]; exact Nat.mod_lt _ (by omega)
        have HQE := Lib.hid hq
        clear hq
        go_upto_region 16 with fail
        clear e12
        go_cut [53] from 44 to 53 (fun s53 wx => s53 = .bool false ∧ ∃ no2 op2, no2 ≤ i + 1 ∧ Hid (TQ w wx A B 49 50 10 f g X nl n' no2 3 l op2) ∧ Hid (op2 = updM (fun _ => none) (q : Int) (some ⟨own, []⟩)))
        case first =>
          by_cases hmod : i % E = 0
          · have t1 : (i : Int).tmod (E : Int) = 0 := by rw [← Int.ofNat_tmod, hmod]; rfl
            have t2 : (i : Int) % (E : Int) = 0 := by rw [← Int.natCast_emod, hmod]; rfl
            obtain ⟨ho1, ho2⟩ := HSi.out.idle (.inr hmod)
            have hbg := HQi.out.mo.begin_ (s := (q : Int)) (L_small (by omega) (by omega)) (by omega) (by omega) (by rw [ho2]) (by omega)
            rw [ho2] at hbg
            have HBG := Lib.hid hbg
            have HO1 := Lib.hid ho1
            clear ho1 ho2 hbg hmod
            go_wp2_with fail
            refine HBG.out.mono ?_
            clear HBG
            rintro e w4 ⟨rfl, hm4, _⟩
            have HQ4 := Lib.hid (HQi.out.turn hm4)
            have HOP : Hid (updM (fun _ => none) (q : Int) (some sesNew) = updM (fun _ => none) (q : Int) (some ⟨own, []⟩)) := Lib.hid (by rw [HO1.out]; rfl)
            clear hm4 HQi
            go_wp2_with fail
            go_meet
            exact ⟨rfl, _, _, by omega, HQ4, HOP⟩
          · have t0 : ¬ ((i : Int) % (E : Int) = 0) := by rw [← Int.natCast_emod]; generalize i % E = d at hmod ⊢; omega
            have t1 : ((i : Int).tmod (E : Int) == 0) = false := by rw [← Int.ofNat_tmod]; generalize i % E = d at hmod ⊢; simp; omega
            have t2 : ((i : Int) % (E : Int) == 0) = false := by simpa using t0
            have hbu := HSi.out.busy (by omega)
            rw [← HQE.out] at hbu
            have HBU := Lib.hid hbu
            clear hbu hmod
            go_wp2_with fail
            go_meet
            exact ⟨rfl, _, _, by omega, HQi, HBU⟩
        case rest =>
          obtain ⟨rfl, no2, op2, hno2, HQ2, HOP2⟩ := hcut
          clear HQi
          obtain ⟨oA, x, rfl, cx, _, hxw⟩ : ∃ oA x, o0 = some oA ∧ w.cell? (oA.add i) = some (.int .i64 x) ∧ ls[i]? = some x ∧ I64L x := by
            obtain ⟨hwf, o', c', he, _, _, _, h4⟩ := H0.out
            simp only [Value.slice.injEq] at he
            obtain ⟨rfl, -, -⟩ := he
            obtain ⟨a, x, ha, hc, hx, hxw⟩ := Ns.at_ hwf h4 (k := i) (by rw [← HN.out]; omega)
            have hi2 : i < ls.length := by rw [← HN.out]; omega
            exact ⟨a, x, ha, hc, by rw [List.getElem?_eq_getElem hi2, ← getD_lt (d := 0) hi2, hx.out], wf_i64 hxw⟩
          have d0 := (HQ2.out.bel.cell (Below.lt cx)).trans cx
          obtain ⟨k, hk⟩ : ∃ k : Nat, x % 10 = k := ⟨(x % 10).toNat, by omega⟩
          have hk10 : k < 10 := by omega
          have nk := fun W => number x 10 W (by omega) (by omega) hxw.1 hxw.2
          simp only [hk] at nk
          have NK := Lib.hid nk
          have CX := Lib.hid cx
          clear nk hk hxw cx
          go_wp2_with fail
          refine (NK.out _).mono ?_
          clear NK
          rintro e w5 ⟨rfl, rfl⟩
          go_upto_if 64 with fail
          have HSB := Lib.hid HSi.out.b
          obtain ⟨ca, ca2⟩ := HQ2.out.cellA hk10
          clear d0
          go_cut [14, 15, 16, 17] from 34 to 139 (fun s14 s15 s16 s17 wx => ∃ f2 g2 own2 V2, Hid (TQ w wx A B 49 50 10 f2 g2 X nl (n' + 1) no2 3 l (updM (fun _ => none) (q : Int) (some ⟨own2, []⟩))) ∧ Hid (SerB l own2 f2 g2 V2))
          case first =>
            have hqL : I64L (q : Int) := L_small (by omega) (by omega)
            have hkL : I64L (k : Int) := L_small (by omega) (by omega)
            have hsees := sees_toC (s := (q : Int)) (op := op2) (z := ⟨own, []⟩) HSB.out.good (by rw [HOP2.out]; exact updM_same _ _ _) (k : Int)
            have HSE := Lib.hid hsees
            have hfk := HSB.out.f k hk10
            have hgk := HSB.out.g k hk10
            have hvk := HSB.out.v k hk10
            cases hbit : (bits BinOp.and IntKind.i64 x 3 == 0) with
            | true =>
              have hdel := HQ2.out.mo.delete_ (k := (k : Int)) hqL hkL (z := ⟨own, []⟩) (by rw [HOP2.out]; exact updM_same _ _ _) (by omega)
              obtain ⟨sv, hsv⟩ : ∃ sv, sv = seesM l op2 q k := ⟨_, rfl⟩
              rw [← hsv] at hdel HSE
              obtain ⟨s1, s2⟩ := sv
              have HDL := Lib.hid hdel
              clear hsees hdel hsv ca ca2
              go_wp2_with fail
              refine HDL.out.mono ?_
              clear HDL
              rintro e w6 ⟨rfl, hm6, _⟩
              have hq6 := HQ2.out.turn hm6
              rw [HOP2.out, updM_upd] at hq6
              obtain ⟨ca, ca2⟩ := hq6.cellA hk10
              obtain ⟨cb, cb2⟩ := hq6.cellB hk10
              rw [hfk] at ca
              rw [hgk] at cb
              have HQ7 := Lib.hid (hq6.setA k (.bool false))
              have HB7 := Lib.hid (HSB.out.del hk10)
              obtain ⟨hs2, hs1⟩ := HSE.out
              try dsimp only at hs1 hs2
              cases hC : toC l own k with
              | none =>
                rw [hC] at ca hs2
                simp only [Option.isSome_none] at ca hs2
                subst hs2
                clear hm6 hq6 hs1 hvk hfk hgk HSE
                go_wp2_with fail
                go_meet
                exact ⟨_, _, _, _, HQ7, HB7⟩
              | some y =>
                rw [hC] at ca hs2
                simp only [Option.isSome_some] at ca hs2
                subst hs2
                have hs1y := hs1 y hC
                have hvy := hvk y hC
                subst hs1y
                rw [hvy] at cb
                clear hm6 hq6 hs1 hvk hfk hgk HSE
                go_wp2_with fail
                go_meet
                exact ⟨_, _, _, _, HQ7, HB7⟩
            | false =>
              have hput := fun y (hy : I64L y) => HQ2.out.mo.put (k := (k : Int)) hqL hkL hy (z := ⟨own, []⟩) (by rw [HOP2.out]; exact updM_same _ _ _) (by omega)
              obtain ⟨sv, hsv⟩ : ∃ sv, sv = seesM l op2 q k := ⟨_, rfl⟩
              rw [← hsv] at hput HSE
              obtain ⟨s1, s2⟩ := sv
              have HPT := Lib.hid hput
              clear hsees hput hsv ca ca2
              go_wp2_with fail
              refine (HPT.out _ (wrapL _)).mono ?_
              clear HPT
              rintro e w6 ⟨rfl, hm6, _⟩
              have hq6 := HQ2.out.turn hm6
              rw [HOP2.out, updM_upd] at hq6
              obtain ⟨ca, ca2⟩ := hq6.cellA hk10
              obtain ⟨cb, cb2⟩ := hq6.cellB hk10
              rw [hfk] at ca
              rw [hgk] at cb
              have hq7 := hq6.setA k (.bool true)
              obtain ⟨cb3, cb4⟩ := hq7.cellB hk10
              rw [hgk] at cb3
              have HQ8 := Lib.hid (hq7.setB k (.int .i64 (wrap64 (v + (i : Int)))))
              have HB8 := Lib.hid (HSB.out.put hk10 (wrap64 (v + (i : Int))))
              obtain ⟨hs2, hs1⟩ := HSE.out
              try dsimp only at hs1 hs2
              cases hC : toC l own k with
              | none =>
                rw [hC] at ca hs2
                simp only [Option.isSome_none] at ca hs2
                subst hs2
                clear hm6 hq6 hq7 hs1 hvk hfk hgk HSE
                go_wp2_with fail
                go_meet
                exact ⟨_, _, _, _, HQ8, HB8⟩
              | some y =>
                rw [hC] at ca hs2
                simp only [Option.isSome_some] at ca hs2
                subst hs2
                have hs1y := hs1 y hC
                have hvy := hvk y hC
                subst hs1y
                rw [hvy] at cb cb3
                clear hm6 hq6 hq7 hs1 hvk hfk hgk HSE
                go_wp2_with fail
                go_meet
                exact ⟨_, _, _, _, HQ8, HB8⟩
          case rest =>
            obtain ⟨f2, g2, own2, V2, HQ9, HB9⟩ := hcut
            clear HQ2 HOP2 HSB HSi ca ca2
            have hqL : I64L (q : Int) := L_small (by omega) (by omega)
            obtain ⟨m, hm⟩ : ∃ m, m = i % E := ⟨_, rfl⟩
            have em : (i : Int).tmod (E : Int) = (m : Int) := by rw [hm]; exact (Int.ofNat_tmod i E).symm
            have em2 : (i : Int) % (E : Int) = (m : Int) := by rw [hm]; exact (Int.natCast_emod i E).symm
            have HMM := Lib.hid hm
            have hmE : m < E := by rw [hm]; exact Nat.mod_lt _ hE3
            have hcm := HQ9.out.mo.commit hqL (z := ⟨own2, []⟩) (updM_same _ _ _) (by omega)
            rw [updM_upd, updM_nil] at hcm
            have HCM := Lib.hid hcm
            clear hm hcm
            by_cases h1 : m = E - 1
            · have b1 : ((m : Int) == (E : Int) - 1) = true := by simp; omega
              have HI1 : Hid (SerI n E (i + 1) (pruneM (mergeM l own2)) (fun _ => none) (fun _ => none) f2 g2 V2) := Lib.hid ⟨HB9.out.commit, fun _ => ⟨rfl, rfl⟩, fun h => absurd (Or.inr (mod_last hE3 (by rw [← HMM.out]; exact h1))) h⟩
              clear h1 HQE
              go_wp2_with fail
              refine HCM.out.mono ?_
              clear HCM
              rintro e w6 ⟨rfl, hm6, _⟩
              have HQ10 := Lib.hid (HQ9.out.turn hm6)
              clear hm6 HQ9
              go_wp2_with fail
              go_roundw
              case rel => exact ⟨i + 1, _, _, _, _, _, _, _, _, _, by go_num, by omega, HQ10, HI1, by omega, by omega, by omega⟩
              case measure => simp [intOf]; omega
            · have b1 : ((m : Int) == (E : Int) - 1) = false := by simp; omega
              by_cases h2 : i = n - 1
              · have b2 : ((i : Int) == (n : Int) - 1) = true := by simp; omega
                have HI1 : Hid (SerI n E (i + 1) (pruneM (mergeM l own2)) (fun _ => none) (fun _ => none) f2 g2 V2) := Lib.hid ⟨HB9.out.commit, fun _ => ⟨rfl, rfl⟩, fun h => absurd (Or.inl (by omega)) h⟩
                clear h1 h2 HQE
                go_wp2_with fail
                refine HCM.out.mono ?_
                clear HCM
                rintro e w6 ⟨rfl, hm6, _⟩
                have HQ10 := Lib.hid (HQ9.out.turn hm6)
                clear hm6 HQ9
                go_wp2_with fail
                go_roundw
                case rel => exact ⟨i + 1, _, _, _, _, _, _, _, _, _, by go_num, by omega, HQ10, HI1, by omega, by omega, by omega⟩
                case measure => simp [intOf]; omega
              · have b2 : ((i : Int) == (n : Int) - 1) = false := by simp; omega
                obtain ⟨hn1, hn2⟩ := mod_next hE3 (i := i) (by rw [← HMM.out]; exact h1)
                have HI1 : Hid (SerI n E (i + 1) l own2 (updM (fun _ => none) (q : Int) (some ⟨own2, []⟩)) f2 g2 V2) := Lib.hid ⟨HB9.out, fun h => absurd h (by rintro (h | h) <;> omega), fun _ => by rw [hn2, ← HQE.out]⟩
                clear h1 h2 HCM hn1 hn2 HQE
                go_wp2_with fail
                go_roundw
                case rel => exact ⟨i + 1, _, _, _, _, _, _, _, _, _, by go_num, by omega, HQ9, HI1, by omega, by omega, by omega⟩
                case measure => simp [intOf]; omega
      · obtain rfl : i = n := by omega
        obtain ⟨ho1, ho2⟩ := HSi.out.idle (.inl rfl)
        have hb0 := HSi.out.b
        rw [ho1] at hb0
        obtain ⟨T, hT, hTl, hall⟩ := HQi.out.mo.all (by omega)
        have HA := Lib.hid hall
        have HT := Lib.hid hT
        have HB0 := Lib.hid hb0
        clear ho1 ho2 hb0 hall hT HSi
        go_wp2_with fail
        refine HA.out.mono ?_
        clear HA
        rintro e w8 ⟨o8, c8, rfl, he8, hm8, _⟩
        have HQ8 := Lib.hid (HQi.out.turn hm8)
        have HE8 := Lib.hid he8
        obtain ⟨N, hN⟩ : ∃ N, N = T.length := ⟨_, rfl⟩
        rw [← hN] at HE8 hTl ⊢
        have HNT := Lib.hid hN
        have hk0 : cntE T 0 = 0 := cntE_zero fun p hp => by
          obtain ⟨j, hj⟩ := (HT.out.2 p.1 p.2).1 hp
          exact (HB0.out.keys p.1 (by unfold toC; dsimp only; rw [hj]; rfl)).1
        have hk10 : cntE T 10 = N := by
          rw [hN]
          exact cntE_all fun p hp => by
            obtain ⟨j, hj⟩ := (HT.out.2 p.1 p.2).1 hp
            exact (HB0.out.keys p.1 (by unfold toC; dsimp only; rw [hj]; rfl)).2
        have HK0 := Lib.hid hk0
        have HK10 := Lib.hid hk10
        clear hm8 he8 HQi hN hk0 hk10
        go_wp2_with fail
        go_loopw [19, 20] (fun s19 s20 wx => ∃ k c : Nat, s20 = .int .i64 k ∧ s19 = .int .i64 c ∧ k ≤ 10 ∧ c ≤ N ∧ Hid (c = cntE T k) ∧ Hid (Below w8.heap.size w8 wx)) (fun _ s20 _ => 10 - (intOf s20).toNat)
        case atStart => exact ⟨0, 0, rfl, rfl, by omega, by omega, Lib.hid HK0.out.symm, Lib.hid (Below.refl _ _)⟩
        case round =>
          obtain ⟨k, c, rfl, rfl, hk, hc, HC, HBX⟩ := hrel
          have HQx := Lib.hid (HQ8.out.below HBX.out)
          by_cases hk1 : (k : Int) < 10
          · have hk2 : k < 10 := by omega
            obtain ⟨ca, _⟩ := HQx.out.cellA hk2
            obtain ⟨cb, _⟩ := HQx.out.cellB hk2
            rw [HB0.out.f k hk2] at ca
            rw [HB0.out.g k hk2] at cb
            have hvk := HB0.out.v k hk2
            obtain ⟨hn1, hn2⟩ := cntE_next HT.out.1 (k : Int)
            cases hl2 : l k with
            | none =>
              have hC : toC l (fun _ => none) k = none := by unfold toC; dsimp only; rw [hl2]; rfl
              rw [hC] at ca
              simp only [Option.isSome_none] at ca
              have HC2 : Hid (c = cntE T ((k + 1 : Nat) : Int)) := Lib.hid (by
                rw [HC.out]
                exact (hn2 fun v hv => by
                  obtain ⟨j, hj⟩ := (HT.out.2 _ _).1 hv
                  rw [hl2] at hj; simp at hj).symm)
              clear hn1 hn2 hvk hC
              go_wp2_with fail
              go_roundw
              case rel => exact ⟨k + 1, c, by go_num, rfl, by omega, hc, HC2, HBX⟩
              case measure => simp [intOf]; omega
            | some y =>
              obtain ⟨y, j⟩ := y
              have hC : toC l (fun _ => none) k = some y := by unfold toC; dsimp only; rw [hl2]; rfl
              rw [hC] at ca
              simp only [Option.isSome_some] at ca
              rw [hvk y hC] at cb
              have hmem : ((k : Int), y) ∈ T := (HT.out.2 _ _).2 ⟨j, hl2⟩
              have hat := cntE_at HT.out.1 hmem
              rw [← HC.out] at hat
              have hcN : c < N := by rw [HNT.out]; exact (List.getElem?_eq_some_iff.1 hat).1
              have HC2 : Hid (c + 1 = cntE T ((k + 1 : Nat) : Int)) := Lib.hid (by rw [HC.out]; exact (hn1 ⟨y, hmem⟩).symm)
              obtain ⟨g8, r, rfl, hr, _, _, p0, p1⟩ := HE8.out.at_ (k := c) (by rw [← HNT.out]; exact hcN)
              rw [hat] at hr
              obtain rfl : ((k : Int), y) = r := by simpa using hr
              dsimp only at p0 p1
              have d0 := (HBX.out.cell (Below.lt p0)).trans p0
              have d1 := (HBX.out.cell (Below.lt p1)).trans p1
              have hd : decide ((N : Int) ≤ (c : Int)) = false := by simp; omega
              have hdr := bdrew w8.heap.size
              clear hn1 hn2 hvk hC hmem hat hr p0 p1
              go_wp2_with fail
              go_quiet (fail)
              go_wp2_with fail
              go_roundw
              case rel => exact ⟨k + 1, c + 1, by go_num, by go_num, by omega, by omega, HC2, Lib.hid (HBX.out.trans (bdrew _ _ _))⟩
              case measure => simp [intOf]; omega
          · obtain rfl : k = 10 := by omega
            obtain rfl : c = N := by rw [HC.out]; exact HK10.out
            go_wp2_with fail
            go_ret
            exact ⟨rfl, HQx.out.bel⟩
end Go.Proofs.Ytpgelebmhhcodaa
