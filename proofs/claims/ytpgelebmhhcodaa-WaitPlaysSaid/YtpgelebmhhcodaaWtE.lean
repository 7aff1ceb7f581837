/- Contract of the graph: Gone. -/
import Derived.Test.YtpgelebmhhcodaaWtD
namespace Go.Proofs.Ytpgelebmhhcodaa
open Go.RowKit
set_option linter.unusedVariables false

/-- the graph's map, ranged over: left: which keys are to come -/
def Rgs (w : World) (b r n : Nat) (f : Int → Option Value) (left : Lit → Bool) (cnt : Nat) : Prop := ∃ D, w.ranges Try.prog 3 hv b r n D left cnt ∧ ∀ k, I64L k → getV D k = f k
theorem Rgs.start {w : World} {b n : Nat} {f : Int → Option Value} (h : Mp w b n f) :
    ∃ w' left cnt, (Instr.range 37 (.map (some b))).run Try.prog w = .ok (.pointer (some ⟨w.heap.size, 0, none⟩)) w' ∧ Rgs w' b w.heap.size n f left cnt ∧ w.grownBy w' none ∧ (∀ k, left (kL k) = (f k).isSome ∨ ¬ I64L k) := by
  obtain ⟨⟨D, h1, h2⟩, h3⟩ := h
  obtain ⟨w', hrun, hrg, hg, _⟩ := h1.range ilaw Try.underlying37
  refine ⟨w', _, _, hrun, ⟨D, hrg, h2⟩, hg, fun k => ?_⟩
  by_cases hk : I64L k
  · left
    rw [← h2 k hk]
    unfold getV
    cases hh : Go.Maps.has D (kL k) with
    | false => rw [if_neg (by simp)]; rfl
    | true =>
      rw [if_pos rfl]
      obtain ⟨es, clock, hb, F, hs, rfl⟩ := h1
      have hl := Go.Maps.fit_look (P := Try.prog) (w := w) false ilaw Try.underlying37 (rowsZero w) hb F (kL_of hk)
      rcases hl with ⟨_, _, hat⟩ | ⟨e0, y, _, _, _, hR, hat, _⟩
      · rw [Go.Maps.has_false_of_atKey hat] at hh; simp at hh
      · have hy : y = (.held e0.val, []) := by unfold hv at hR; simpa using hR.symm
        rw [hat, hy]
        rfl
  · exact .inr hk
theorem Rgs.step {w : World} {b r n : Nat} {f : Int → Option Value} {left : Lit → Bool} {cnt : Nat} (h : Rgs w b r n f left cnt) :
    (cnt = 0 ∧ (∀ k, left k = false) ∧ ∀ ty, (Instr.next (.pointer (some ⟨r, 0, none⟩)) false ty).run Try.prog w = .ok (.tuple #[.bool false]) w) ∨
    ∃ x v w' cnt', I64L x ∧ f x = some v ∧ left (kL x) = true ∧ (∀ ty, (Instr.next (.pointer (some ⟨r, 0, none⟩)) false ty).run Try.prog w = .ok (.tuple #[.bool true, .int .i64 x, v]) w') ∧
      Rgs w' b r n f (fun z => left z && !z.sameKey (kL x)) cnt' ∧ cnt' < cnt ∧ w.grownBy w' (some r) ∧ (Instr.entry (.pointer (some ⟨r, 0, none⟩))).run Try.prog w' = .ok (.tuple #[.int .i64 x, v]) w' := by
  obtain ⟨D, hrg, hD⟩ := h
  rcases hrg.next ilaw 0 with ⟨h0, hl, hrun⟩ | ⟨key, v, kl, y, w', cnt', hkey, hlk, hvv, hat, hrun, hrg', hlt, hg, _, hen⟩
  · exact .inl ⟨h0, hl, fun ty => hrun⟩
  · obtain ⟨x, rfl, rfl, hx⟩ := kL_inv hkey
    have hy : y = (.held v, []) := by unfold hv at hvv; simpa using hvv.symm
    rw [hy] at hat
    exact .inr ⟨x, v, w', cnt', hx, by rw [← hD x hx, getV_some hat], hlk, fun ty => hrun, ⟨D, hrg', hD⟩, hlt, hg, hen⟩
theorem Rgs.left_eq {w : World} {b r n : Nat} {f : Int → Option Value} {left : Lit → Bool} {cnt : Nat} (h : Rgs w b r n f left cnt) : w.rangeLeft b r = cnt := by
  obtain ⟨D, hrg, _⟩ := h
  exact hrg.left_eq
theorem Rgs.mp {w : World} {b r n : Nat} {f : Int → Option Value} {left : Lit → Bool} {cnt : Nat} (h : Rgs w b r n f left cnt) (ho : ∀ k, ¬ I64L k → f k = none) : Mp w b n f := by
  obtain ⟨D, hrg, hD⟩ := h
  exact ⟨⟨D, hrg.owns, hD⟩, ho⟩
theorem Rgs.kept {w w' : World} {b r n : Nat} {f : Int → Option Value} {left : Lit → Bool} {cnt : Nat} {row : Option Nat} (h : Rgs w b r n f left cnt) (hg : w.grownBy w' row) (hb : some b ≠ row) (hr : some r ≠ row) : Rgs w' b r n f left cnt := by
  obtain ⟨D, hrg, hD⟩ := h
  exact ⟨D, hrg.kept hg hb hr, hD⟩
theorem Rgs.iter {w : World} {b r n : Nat} {f : Int → Option Value} {left : Lit → Bool} {cnt : Nat} (h : Rgs w b r n f left cnt) : ∃ since seen c0, w.heap[r]? = some (.mapIter (some b) since seen c0) := by
  obtain ⟨D, ⟨es, clock, since, seen, c0, _, _, _, _, hr, _⟩, _⟩ := h
  exact ⟨since, seen, c0, hr⟩
theorem Rgs.store {w w2 : World} {b r n : Nat} {f : Int → Option Value} {left : Lit → Bool} {cnt : Nat} (h : Rgs w b r n f left cnt) {x : Int} (hx : I64L x) {v0 v : Value} (hf : f x = some v0)
    (hrun : (Instr.mapUpdate 37 (.map (some b)) (.int .i64 x) v).run Try.prog w = .ok () w2) : Rgs w2 b r n (updM f x (some v)) left cnt := by
  obtain ⟨D, hrg, hD⟩ := h
  have hhas : Go.Maps.has D (kL x) = true := by
    have := hD x hx
    rw [hf] at this
    unfold getV at this
    cases hh : Go.Maps.has D (kL x) with
    | true => rfl
    | false => rw [hh, if_neg (by simp)] at this; simp at this
  obtain ⟨w3, hrun3, hrg3, _⟩ := ranges_store hrg ilaw Try.underlying37 (kL_of hx) (show hv v = some (.held v, []) from rfl) hhas
  rw [hrun] at hrun3
  obtain rfl : w2 = w3 := by simpa using hrun3
  have hm := (hrg.owns.tidy ilaw).isMap
  refine ⟨_, hrg3, fun k hk => ?_⟩
  by_cases e : k = x
  · subst e; rw [getV_put_same hm, updM_same]
  · rw [getV_put_other e, updM_other _ _ e, hD k hk]

/-- whom each waits for, in the midst of Gone -/
def goneM (M : Int → List Int) (s : Int) (left : Lit → Bool) : Int → List Int := fun k => if left (kL k) = true then M k else delI (M k) s
theorem goneM_start {M : Int → List Int} {s : Int} {f : Int → Option Value} {left : Lit → Bool} (hl : ∀ k, left (kL k) = (f k).isSome ∨ ¬ I64L k) (hn : ∀ k, f k = none → M k = []) (hk : ∀ k, ¬ I64L k → f k = none) : goneM M s left = M := by
  funext k
  unfold goneM
  split
  · rfl
  · rename_i e
    have : f k = none := by
      rcases hl k with h1 | h1
      · rw [h1] at e
        cases hf : f k with
        | none => rfl
        | some v => rw [hf] at e; simp at e
      · exact hk k h1
    rw [hn k this]
    rfl
theorem goneM_step (M : Int → List Int) (s : Int) (left : Lit → Bool) (x : Int) : goneM M s (fun z => left z && !z.sameKey (kL x)) = updM (goneM M s left) x (delI (M x) s) := by
  funext k
  unfold goneM updM
  by_cases e : k = x
  · subst e
    have h1 : (kL k).sameKey (kL k) = true := by rw [kL_same]; simp
    simp [h1]
  · have h1 : (kL k).sameKey (kL x) = false := by rw [kL_same]; simp [e]
    simp [h1, e]
theorem goneM_end (M : Int → List Int) (s : Int) {left : Lit → Bool} (h : ∀ k, left k = false) : goneM M s left = fun k => delI (M k) s := by
  funext k
  unfold goneM
  rw [h, if_neg (by simp)]

set_option maxRecDepth 20000 in
set_option maxHeartbeats 4000000 in
theorem graphGone {w : World} {X : Nat} {mo : Option Nat} {n : Nat} {f : Int → Option Value} {M : Int → List Int} (h : Gr w X mo n f M) {s : Int} (hs : I64L s) (hl : ∀ k, (M k).length ≤ 1000) (hn : n < 100000) :
    Calls Try.prog 41 #[.pointer (some ⟨X, 0, none⟩), .int .i64 s] w fun e w' => e = .returned (.tuple #[]) ∧ ∃ f', Gr w' X mo n f' (fun k => delI (updM M s [] k) s) ∧ Ext (Gr.F X mo f) w (Gr.F X mo f') w' := by
  have HH := Lib.hid h
  obtain ⟨W1, hW1⟩ : ∃ W, W = w.alloc (.cells #[.int .i64 s] 3) := ⟨_, rfl⟩
  have hb1 : Below w.heap.size w W1 := by rw [hW1]; exact (Below.refl _ _).alloc (Nat.le_refl _) _
  have d3 : W1.cell? ⟨w.heap.size, 0, none⟩ = some (.int .i64 s) := by rw [hW1]; simp [go_sem]
  have hXlt := h.low (.inl rfl)
  obtain ⟨A, hA⟩ : ∃ A, A = w.heap.size := ⟨_, rfl⟩
  rw [← hA] at d3
  have hcl := graphClear (h.below hb1) hs
  have hlow : ∀ b, Gr.F X mo f b → b < A := fun b hb => by rw [hA]; exact h.low hb
  have HCL := Lib.hid hcl
  have HW1 := Lib.hid hW1
  have HB1 := Lib.hid hb1
  have HA := Lib.hid hA
  have HD3 := Lib.hid d3
  have HLOW := Lib.hid hlow
  have HLL := Lib.hid hl
  obtain ⟨M2, hM2⟩ : ∃ M2, M2 = updM M s [] := ⟨_, rfl⟩
  rw [← hM2]
  have HM2 := Lib.hid hM2
  clear hM2 h hs hW1 hb1 hcl hXlt hA hlow hl
  go_enter Try.func41, Try.ntmps41
  go_upto_region 1 with fail
  rw [← HW1.out, ← HA.out]
  go_wp2_with fail
  refine HCL.out.mono ?_
  clear HCL d3
  rintro e w2 ⟨rfl, hg2, hx2⟩
  rw [← HM2.out] at hg2
  have hx2' : Ext (Gr.F X mo f) w (Gr.F X mo (updM f s none)) w2 := (Ext.of_below HB1.out).trans hx2
  have hlow2 : ∀ b, Gr.F X mo (updM f s none) b → b < A := fun b hb => by
    rcases hx2'.grow b hb with h1 | h1
    · exact HLOW.out b h1
    · rcases hb with e | e | ⟨j, x, e1, e2⟩
      · exact HLOW.out b (.inl e)
      · exact HLOW.out b (.inr (.inl e))
      · by_cases ej : j = s
        · subst ej; rw [updM_same] at e1; simp at e1
        · rw [updM_other _ _ ej] at e1
          exact HLOW.out b (.inr (.inr ⟨j, x, e1, e2⟩))
  have hd2 : w2.cell? ⟨A, 0, none⟩ = some (.int .i64 s) := (World.cell?_of_block (a := ⟨A, 0, none⟩) (hx2.block A (Below.lt HD3.out) (fun e => absurd (HLOW.out A e) (Nat.lt_irrefl _)))).trans HD3.out
  have HX2 := Lib.hid hx2'
  have HG2 := Lib.hid hg2
  have HLOW2 := Lib.hid hlow2
  have hl2 : ∀ k, (M2 k).length ≤ 1000 := fun k => by
    rw [HM2.out]
    unfold updM; split
    · simp
    · exact HLL.out k
  have HL2 := Lib.hid hl2
  obtain ⟨c0, c1⟩ := hg2.cell
  have hA2 := HX2.out.size
  rw [← HA.out] at hA2
  clear hg2 hx2 hx2' hlow2 HLL HLOW hl2 HW1 HB1 HD3
  generalize updM f s none = f2 at HX2 HG2 HLOW2
  cases mo with
  | none =>
    have hrg := run_range_nilMap (P := Try.prog) w2 37 3 34 Try.underlying37
    have hnx : ∀ ty, (Instr.next (.pointer (some ⟨w2.heap.size, 0, none⟩)) false ty).run Try.prog (w2.alloc (.mapIter none 0 #[] 0)) = _ := fun ty => run_next_nilMap w2 ty 0 0 #[]
    go_wp2_with fail
    refine wp_loop_rounds 1 ?_
    rw [rounds_succ]
    go_wp2_with fail
    have hb3 : Below w2.heap.size w2 (w2.alloc (.mapIter none 0 #[] 0)) := (Below.refl _ _).alloc (Nat.le_refl _) _
    have hM : (fun k => delI (M2 k) s) = M2 := by
      funext k
      rw [HG2.out.no k (HG2.out.nilM k)]
      rfl
    exact bodyPost_end (results_none rfl _ _ _) rfl ⟨rfl, f2, by rw [hM]; exact HG2.out.below hb3, HX2.out.trans (Ext.of_below hb3)⟩
  | some b =>
    obtain ⟨w3, left, cnt, hrun, hrg, hg3, hleft⟩ := Rgs.start HG2.out.map
    have hM := goneM_start (s := s) hleft HG2.out.no HG2.out.map.out
    have hb3 : Below w2.heap.size w2 w3 := ⟨hg3.os, hg3.tape, hg3.output, hg3.size, fun k hk => hg3.block k hk (by simp)⟩
    have HG3 : Hid (Gr w3 X (some b) n f2 (goneM M2 s left)) := Lib.hid (by rw [hM]; exact HG2.out.below hb3)
    have HX3 : Hid (Ext (Gr.F X (some b) f) w (Gr.F X (some b) f2) w3) := Lib.hid (HX2.out.trans (Ext.of_below hb3))
    have HR3 := Lib.hid hrg
    have hd3 := (hb3.cell (Below.lt hd2)).trans hd2
    obtain ⟨r, hr⟩ : ∃ r, r = w2.heap.size := ⟨_, rfl⟩
    rw [← hr] at hrun HR3
    have hrA : A < r := by rw [hr]; exact Below.lt hd2
    clear hrg hg3 hleft hM hb3 HG2 HX2 hd2 hr
    have HRW2 : Hid (∀ k v g, f2 k = some v → v.ownBlock = some g → g < A) := Lib.hid (fun k v g e1 e2 => HLOW2.out g (.inr (.inr ⟨k, v, e1, e2⟩)))
    clear HLOW2
    go_wp2_with fail
    go_loopw [4, 5] (fun _ _ wr => ∃ f' left cnt, Hid (Gr wr X (some b) n f' (goneM M2 s left)) ∧ Hid (Rgs wr b r n f' left cnt) ∧ Hid (Ext (Gr.F X (some b) f) w (Gr.F X (some b) f') wr) ∧ Hid (∀ k v g, f' k = some v → v.ownBlock = some g → g < A) ∧ wr.cell? ⟨A, 0, none⟩ = some (.int .i64 s)) (fun _ _ wr => wr.rangeLeft b r)
    case atStart => exact ⟨_, _, _, HG3, HR3, HX3, HRW2, hd3⟩
    case round =>
      obtain ⟨f', left, cnt, HG, HR, HX, HRW, hdA⟩ := hrel
      clear HG3 HR3 HX3 HRW2 hd3 c0
      obtain ⟨c0, _⟩ := HG.out.cell
      rcases HR.out.step with ⟨h0, hl0, hrun⟩ | ⟨x, v, w4, cnt', hx, hfx, hlx, hrun, hR4, hlt, hg4, hen⟩
      · have hfin := goneM_end M2 s hl0
        clear hl0 h0
        go_wp2_with fail
        exact bodyPost_end (results_none rfl _ _ _) rfl ⟨rfl, f', by rw [← hfin]; exact HG.out, HX.out⟩
      · obtain ⟨since, seen, c9, hit⟩ := HR.out.iter
        have hnr : ∀ g, Gr.F X (some b) f' g → g ≠ r := fun g hf e => by
          subst e
          rcases hf with rfl | h3 | ⟨k, y, e1, e2⟩
          · have := HG.out.head; rw [hit] at this; simp at this
          · obtain rfl : b = g := by simpa using h3
            obtain ⟨es, c, hm⟩ := HG.out.map.form
            rw [hit] at hm; simp at hm
          · obtain ⟨cur, hc⟩ := (HG.out.own k y e1).blk e2
            rw [hit] at hc; simp at hc
        have hG4 : Gr w4 X (some b) n f' (goneM M2 s left) := HG.out.same fun g hf => hg4.block g (HG.out.low hf) (fun e => hnr g hf (by simpa using e))
        have hX4 : Ext (Gr.F X (some b) f) w (Gr.F X (some b) f') w4 := HX.out.out hg4 (fun g e => .inr (by have := HA.out; have e2 : r = g := (by simpa using e); omega))
        have hdA4 : w4.cell? ⟨A, 0, none⟩ = some (.int .i64 s) := (World.cell?_of_block (a := ⟨A, 0, none⟩) (hg4.block A (Below.lt hdA) (fun e => by have e2 : A = r := (by simpa using e); omega))).trans hdA
        have hvo := hG4.own x v hfx
        have hMx : goneM M2 s left x = M2 x := by unfold goneM; rw [if_pos hlx]
        rw [hMx] at hvo
        have hbd : Below w4.heap.size w4 w4.drew := (Below.refl _ _).drew
        have hpA : v.ownBlock ≠ some A := fun e => absurd (HRW.out x v A hfx e) (Nat.lt_irrefl _)
        have hdel := deleteGone (hvo.below hbd) (by have := HL2.out x; omega) s ⟨A, 0, none⟩ ((hbd.cell (Below.lt hdA4)).trans hdA4) hpA
        have hrv : v.ownBlock ≠ some r := fun e => hnr r (.inr (.inr ⟨x, v, hfx, e⟩)) rfl
        have hbv : v.ownBlock ≠ some b := hG4.rowB hfx
        have hXv : v.ownBlock ≠ some X := hG4.rowX hfx
        have hap : ∀ k u g, k ≠ x → f' k = some u → v.ownBlock = some g → u.ownBlock ≠ some g := fun k u g ek e1 e2 e3 => ek (HG.out.apart k x u v g e1 hfx e3 e2)
        have hout := HG.out.map.out
        have HP := Lib.hid (fun (w5 : World) (v' : Value) (hv' : v'.ownBlock = v.ownBlock) (ho' : Oi 0 w5 v' (delI (M2 x) s)) (hg5 : w4.drew.grownBy w5 v.ownBlock) => by
          have hR5 : Rgs w5 b r n f' (fun z => left z && !z.sameKey (kL x)) cnt' := (hR4.kept (grownBy_below (r := none) hbd) (by simp) (by simp)).kept hg5 (fun e => hbv e.symm) (fun e => hrv e.symm)
          have hH5 : GrH w5 X b n f' (goneM M2 s left) x := by
            have h0 : ∀ g, Gr.F X (some b) f' g → v.ownBlock ≠ some g → w5.heap[g]? = w4.heap[g]? := fun g hf hne => (hg5.block g (hG4.low hf) (fun e => hne e.symm)).trans rfl
            exact ⟨(h0 X (.inl rfl) hXv).trans hG4.head, hR5.mp hout, fun k u ek e1 => (hG4.own k u e1).same fun g e2 => h0 g (.inr (.inr ⟨k, u, e1, e2⟩)) (fun e3 => hap k u g ek e1 e3 e2), fun k _ e1 => hG4.no k e1, hG4.apart⟩
          obtain ⟨w6, q1, q2, q3, q4⟩ := hH5.put hx (by omega) ho' (fun g e k u ek e1 e2 => hap k u g ek e1 (by rw [← hv']; exact e) e2)
          have hR6 := hR5.store hx hfx q1
          rw [← goneM_step] at q2
          have hG6 := q2.setN (hR6.mp q2.map.out)
          have hX5 : Ext (Gr.F X (some b) f) w (Gr.F X (some b) f') w5 := (hX4.out (grownBy_below (r := none) hbd) (fun g e => by simp at e)).out hg5 (fun g e => .inl (.inr (.inr ⟨x, v, hfx, e⟩)))
          have hX6 := hX5.put q3 (s := x) (v := v') (fun g e => .inl (.inr (.inr ⟨x, v, hfx, by rw [← hv']; exact e⟩)))
          have hA5 : w5.cell? ⟨A, 0, none⟩ = some (.int .i64 s) := (World.cell?_of_block (a := ⟨A, 0, none⟩) (hg5.block A (Below.lt hdA4) (fun e => hpA e.symm))).trans hdA4
          have hAb : b ≠ A := fun e => by
            obtain ⟨es, c, hm⟩ := hG4.map.form
            have := hdA4
            unfold World.cell? at this
            rw [← e] at this
            dsimp only at this
            rw [hm] at this
            simp at this
          have hA6 : w6.cell? ⟨A, 0, none⟩ = some (.int .i64 s) := (World.cell?_of_block (a := ⟨A, 0, none⟩) (q3.block A (Below.lt hA5) (fun e => hAb (by simpa using e.symm)))).trans hA5
          have hRW6 : ∀ k u g, updM f' x (some v') k = some u → u.ownBlock = some g → g < A := fun k u g e1 e2 => by
            by_cases ek : k = x
            · subst ek
              rw [updM_same] at e1
              obtain rfl : v' = u := by simpa using e1
              exact HRW.out k v g hfx (by rw [← hv']; exact e2)
            · rw [updM_other _ _ ek] at e1
              exact HRW.out k u g e1 e2
          exact (⟨w6, q1, hG6.cell.1, hG6, hR6, hX6, hRW6, hA6⟩ : ∃ w6, (Instr.mapUpdate 37 (.map (some b)) (.int .i64 x) v').run Try.prog w5 = .ok () w6 ∧ w6.cell? ⟨X, 0, none⟩ = some (.map (some b)) ∧ Gr w6 X (some b) n (updM f' x (some v')) (goneM M2 s (fun z => left z && !z.sameKey (kL x))) ∧ Rgs w6 b r n (updM f' x (some v')) (fun z => left z && !z.sameKey (kL x)) cnt' ∧ Ext (Gr.F X (some b) f) w (Gr.F X (some b) (updM f' x (some v'))) w6 ∧ (∀ k u g, updM f' x (some v') k = some u → u.ownBlock = some g → g < A) ∧ w6.cell? ⟨A, 0, none⟩ = some (.int .i64 s)))
        obtain ⟨e0, _⟩ := hG4.cell
        have HKP := Lib.hid (fun (w5 : World) (hg5 : w4.drew.grownBy w5 v.ownBlock) => (World.cell?_of_block (a := ⟨X, 0, none⟩) (hg5.block X (Below.lt e0) (fun e => hXv e.symm))).trans e0)
        have HDEL := Lib.hid hdel
        have HLT := Lib.hid hlt
        have hmf : ∀ (fn : Fn) (first cap : Array Value) (w : World), (Instr.makeFunc fn first cap).run Try.prog w = .ok (.func fn first cap) w := fun _ _ _ _ => rfl
        obtain ⟨o9, cp9, rfl, _⟩ := hvo.form
        clear hit hnr hG4 hX4 hdA4 hvo hMx hbd hpA hdel hrv hbv hXv hap hout hR4 hg4 hlt hfx hlx hx hdA
        generalize hlM : (M2 x).length = lM at HDEL hrun hen HP HKP
        clear hlM
        go_wp2_with fail
        go_region_held3 (fun W' => W'.cell? ⟨X, 0, none⟩ = some (.map (some b)))
          (first | exact hk6 | exact HKP.out _ hg5 | exact HKP.out _ (World.grownBy.refl _ _) | go_keep)
          ((first | (go_at_call 70; with_reducible refine HDEL.out.mono ?_; rintro en w5 ⟨v', rfl, hv', ho', hg5⟩; obtain ⟨w6, hrun6, hk6, hq6, hr6, hx6, hw6, ha6⟩ := HP.out w5 v' hv' ho' hg5)))
        have HQ6 := Lib.hid hq6
        have HR6 := Lib.hid hr6
        have HX6 := Lib.hid hx6
        have HW6 := Lib.hid hw6
        clear hq6 hr6 hx6 hw6 ho' hv' hg5
        go_wp2_with fail
        go_roundw
        case rel => exact ⟨_, _, cnt', HQ6, HR6, HX6, HW6, ha6⟩
        case measure => rw [HR6.out.left_eq, HR.out.left_eq]; exact HLT.out
end Go.Proofs.Ytpgelebmhhcodaa
