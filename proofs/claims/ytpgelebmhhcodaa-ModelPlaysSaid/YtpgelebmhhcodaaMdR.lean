/- Ranging over a map of the model's values; maps.Copy. -/
import Derived.Test.YtpgelebmhhcodaaMdA
namespace Go.Proofs.Ytpgelebmhhcodaa
open Go.RowKit
set_option linter.unusedVariables false

def Rm (w : World) (b r n : Nat) (m : FM) (left : Lit → Bool) (cnt : Nat) : Prop := (∃ D, w.ranges Try.prog 3 hv b r n D left cnt ∧ ∀ k, I64L k → getV D k = mV m k) ∧ ∀ k x, m k = some x → I64L k ∧ I64L x.1
theorem Rm.start {w : World} {b n : Nat} {m : FM} (h : Mv w b n m) :
    ∃ w' left cnt, (Instr.range 98 (.map (some b))).run Try.prog w = .ok (.pointer (some ⟨w.heap.size, 0, none⟩)) w' ∧ Rm w' b w.heap.size n m left cnt ∧ w.grownBy w' none ∧ w'.heap.size = w.heap.size + 1 ∧ (∀ k, left (kL k) = (m k).isSome ∨ ¬ I64L k) ∧ cnt ≤ n := by
  obtain ⟨⟨⟨D, h1, h2⟩, h3⟩, h4⟩ := h
  obtain ⟨w', hrun, hrg, hg, hsz⟩ := h1.range ilaw Try.underlying98
  refine ⟨w', _, _, hrun, ⟨⟨D, hrg, h2⟩, fun k x e => ⟨?_, h4 k x e⟩⟩, hg, hsz, fun k => ?_, ?_⟩
  · by_cases hk : I64L k
    · exact hk
    · have := h3 k hk
      unfold mV at this
      rw [e] at this
      simp at this
  · by_cases hk : I64L k
    · left
      have e2 : (m k).isSome = (mV m k).isSome := by unfold mV; cases m k <;> rfl
      rw [e2, ← h2 k hk]
      unfold getV
      cases hh : Go.Maps.has D (kL k) with
      | false => rw [if_neg (by simp)]; rfl
      | true =>
        rw [if_pos rfl]
        obtain ⟨es, clock, hb, F, hs, rfl⟩ := h1
        have hl := Go.Maps.fit_look (P := Try.prog) (w := w) false ilaw Try.underlying98 (valZero w) hb F (kL_of hk)
        rcases hl with ⟨_, _, hat⟩ | ⟨e0, y, _, _, _, hR, hat, _⟩
        · rw [Go.Maps.has_false_of_atKey hat] at hh; simp at hh
        · have hy : y = (.held e0.val, []) := by unfold hv at hR; simpa using hR.symm
          rw [hat, hy]
          rfl
    · exact .inr hk
  · obtain ⟨es, clock, hb, F, hs, rfl⟩ := h1
    simpa [Maps.size, length_sorted] using hs
theorem Rm.step {w : World} {b r n : Nat} {m : FM} {left : Lit → Bool} {cnt : Nat} (h : Rm w b r n m left cnt) :
    (cnt = 0 ∧ (∀ k, left k = false) ∧ ∀ ty, (Instr.next (.pointer (some ⟨r, 0, none⟩)) false ty).run Try.prog w = .ok (.tuple #[.bool false]) w) ∨
    ∃ x v i w' cnt', I64L x ∧ I64L v ∧ m x = some (v, i) ∧ left (kL x) = true ∧ (∀ ty, (Instr.next (.pointer (some ⟨r, 0, none⟩)) false ty).run Try.prog w = .ok (.tuple #[.bool true, .int .i64 x, .agg #[.int .i64 v, .bool i]]) w') ∧
      Rm w' b r n m (fun z => left z && !z.sameKey (kL x)) cnt' ∧ cnt' < cnt ∧ w.grownBy w' (some r) ∧ w'.heap.size = w.heap.size ∧ (Instr.entry (.pointer (some ⟨r, 0, none⟩))).run Try.prog w' = .ok (.tuple #[.int .i64 x, .agg #[.int .i64 v, .bool i]]) w' := by
  obtain ⟨⟨D, hrg, hD⟩, hm⟩ := h
  rcases hrg.next ilaw 0 with ⟨h0, hl, hrun⟩ | ⟨key, v, kl, y, w', cnt', hkey, hlk, hvv, hat, hrun, hrg', hlt, hg, hsz, hen⟩
  · exact .inl ⟨h0, hl, fun ty => hrun⟩
  · obtain ⟨x, rfl, rfl, hx⟩ := kL_inv hkey
    have hy : y = (.held v, []) := by unfold hv at hvv; simpa using hvv.symm
    rw [hy] at hat
    have hf : mV m x = some v := by rw [← hD x hx, getV_some hat]
    unfold mV at hf
    cases e : m x with
    | none => rw [e] at hf; simp at hf
    | some q =>
      obtain ⟨v0, i0⟩ := q
      rw [e] at hf
      obtain rfl : v = .agg #[.int .i64 v0, .bool i0] := by simpa [vE] using hf.symm
      exact .inr ⟨x, v0, i0, w', cnt', hx, (hm x _ e).2, e, hlk, fun ty => hrun, ⟨⟨D, hrg', hD⟩, hm⟩, hlt, hg, hsz, hen⟩
theorem Rm.left_eq {w : World} {b r n : Nat} {m : FM} {left : Lit → Bool} {cnt : Nat} (h : Rm w b r n m left cnt) : w.rangeLeft b r = cnt := by
  obtain ⟨⟨D, hrg, _⟩, _⟩ := h
  exact hrg.left_eq
theorem Rm.mv {w : World} {b r n : Nat} {m : FM} {left : Lit → Bool} {cnt : Nat} (h : Rm w b r n m left cnt) : Mv w b n m := by
  obtain ⟨⟨D, hrg, hD⟩, hm⟩ := h
  refine ⟨⟨⟨D, hrg.owns, hD⟩, fun k hk => ?_⟩, fun k x e => (hm k x e).2⟩
  unfold mV
  cases e : m k with
  | none => rfl
  | some x => exact absurd (hm k x e).1 hk
theorem Rm.kept {w w' : World} {b r n : Nat} {m : FM} {left : Lit → Bool} {cnt : Nat} {row : Option Nat} (h : Rm w b r n m left cnt) (hg : w.grownBy w' row) (hb : some b ≠ row) (hr : some r ≠ row) : Rm w' b r n m left cnt := by
  obtain ⟨⟨D, hrg, hD⟩, hm⟩ := h
  exact ⟨⟨D, hrg.kept hg hb hr, hD⟩, hm⟩
theorem Rm.iter {w : World} {b r n : Nat} {m : FM} {left : Lit → Bool} {cnt : Nat} (h : Rm w b r n m left cnt) : ∃ since seen c0, w.heap[r]? = some (.mapIter (some b) since seen c0) := by
  obtain ⟨⟨D, ⟨es, clock, since, seen, c0, _, _, _, _, hr, _⟩, _⟩, _⟩ := h
  exact ⟨since, seen, c0, hr⟩
theorem Rm.drop {w : World} {b r n : Nat} {m : FM} {left : Lit → Bool} {cnt : Nat} (h : Rm w b r n m left cnt) {x : Int} (hx : I64L x) :
    ∃ w' cnt', (∀ ty, (Builtin.delete_ #[98, 3] ty #[.map (some b), .int .i64 x]).run Try.prog w = .ok (.tuple #[]) w') ∧ Rm w' b r n (updM m x none) (fun z => left z && !z.sameKey (kL x)) cnt' ∧ cnt' ≤ cnt ∧ w.grownBy w' (some b) ∧ w'.heap.size = w.heap.size := by
  obtain ⟨⟨D, hrg, hD⟩, hm⟩ := h
  obtain ⟨w', cnt', hrun, hrg', hle, ht⟩ := hrg.drop ilaw Try.underlying98 (kL_of hx) 0
  refine ⟨w', cnt', fun ty => hrun, ⟨⟨_, hrg', fun k hk => ?_⟩, fun k y e => ?_⟩, hle, ht.grown, ?_⟩
  · rw [mV_upd]
    by_cases e : k = x
    · subst e; rw [getV_del_same, updM_same]; rfl
    · rw [getV_del_other e, updM_other _ _ e, hD k hk]
  · by_cases ek : k = x
    · subst ek; rw [updM_same] at e; simp at e
    · rw [updM_other _ _ ek] at e; exact hm k y e
  · obtain ⟨es, clock, es', clock', hb, rfl⟩ := ht
    simp [Go.ChangeMaps.setBlock]

/-- all of ms over md -/
def mergeM (md ms : FM) : FM := fun k => match ms k with
  | some x => some x
  | none => md k
/-- .. but for the keys that are to come -/
def mergeL (md ms : FM) (left : Lit → Bool) : FM := fun k => if left (kL k) = true then md k else mergeM md ms k
theorem mergeL_start {md ms : FM} {left : Lit → Bool} (hl : ∀ k, left (kL k) = (ms k).isSome ∨ ¬ I64L k) (hk : ∀ k x, ms k = some x → I64L k) : mergeL md ms left = md := by
  funext k
  unfold mergeL mergeM
  rcases hl k with h | h
  · rw [h]
    cases e : ms k <;> simp
  · split
    · rfl
    · cases e : ms k with
      | none => rfl
      | some x => exact absurd (hk k x e) h
theorem mergeL_step {md ms : FM} {left : Lit → Bool} {x : Int} {y : MV} (hx : ms x = some y) : mergeL md ms (fun z => left z && !z.sameKey (kL x)) = updM (mergeL md ms left) x (some y) := by
  funext k
  by_cases e : k = x
  · subst e
    rw [updM_same]
    unfold mergeL mergeM
    simp [kL_same, hx]
  · rw [updM_other _ _ e]
    unfold mergeL
    simp [kL_same, e]
theorem mergeL_end {md ms : FM} {left : Lit → Bool} (h : ∀ k, left k = false) : mergeL md ms left = mergeM md ms := by
  funext k
  unfold mergeL
  rw [h, if_neg (by simp)]
set_option maxRecDepth 20000 in
set_option maxHeartbeats 2000000 in
theorem copyMv {w : World} {bd bs nd ns : Nat} {md ms : FM} (hd : Mv w bd nd md) (hs : Mv w bs ns ms) (hne : bd ≠ bs) (hroom : nd + ns ≤ 100000) :
    Calls Try.prog 76 #[.map (some bd), .map (some bs)] w fun e w' => e = .returned (.tuple #[]) ∧ Mv w' bd (nd + ns) (mergeM md ms) ∧ w.grownBy w' (some bd) := by
  obtain ⟨w1, left0, cnt0, hrun, hr1, hg1, hs1, hl0, hc0⟩ := Rm.start hs
  have hd1 := hd.same (hg1.block bd hd.lt (by simp))
  have hm0 := mergeL_start (md := md) hl0 (fun k x e => (hr1.2 k x e).1)
  have hdl := hd.lt
  have hbs := hs.lt
  have HR1 := Lib.hid hr1
  have HD1 : Hid (Mv w1 bd (nd + (ns - cnt0)) (mergeL md ms left0)) := Lib.hid (by rw [hm0]; exact hd1.mono (by omega))
  have HG1 : Hid (w.grownBy w1 (some bd)) := Lib.hid (hg1.but _)
  obtain ⟨r, hr⟩ : ∃ r, r = w.heap.size := ⟨_, rfl⟩
  have HRR := Lib.hid hr
  rw [← hr] at hrun HR1
  clear hd hs hr1 hg1 hl0 hd1 hm0 hr
  go_enter Try.func76, Try.ntmps76
  go_wp2_with fail
  go_loopw [4, 5] (fun _ _ wr => ∃ left cnt, cnt ≤ ns ∧ Hid (Rm wr bs r ns ms left cnt) ∧ Hid (Mv wr bd (nd + (ns - cnt)) (mergeL md ms left)) ∧ Hid (w.grownBy wr (some bd))) (fun _ _ wr => wr.rangeLeft bs r)
  case atStart => exact ⟨_, _, hc0, HR1, HD1, HG1⟩
  case round =>
    obtain ⟨left, cnt, hcn, HR, HD, HG⟩ := hrel
    clear HR1 HD1 HG1
    rcases HR.out.step with ⟨h0, hl0, hrun⟩ | ⟨x, v, i, w4, cnt', hx, hv, hmx, hlx, hrun, hR4, hlt, hg4, hs4, hen⟩
    · have hfin := mergeL_end (md := md) (ms := ms) hl0
      have HF : Hid (Mv _ bd (nd + ns) (mergeM md ms)) := Lib.hid (by rw [← hfin]; exact HD.out.mono (by omega))
      clear hl0 h0 hfin
      go_wp2_with fail
      exact bodyPost_end (results_none rfl _ _ _) rfl ⟨rfl, HF.out, HG.out⟩
    · obtain ⟨since, seen, c9, hit⟩ := HR.out.iter
      have hbr : bd ≠ r := fun e => by
        obtain ⟨es, c, hm⟩ := HD.out.mp.form
        rw [e, hit] at hm; simp at hm
      have hr4 := HR.out.iter
      have hd4 := HD.out.same (hg4.block bd HD.out.lt (by simpa using hbr))
      have hbd : ∀ o : Obj, w4.grownBy (w4.alloc o) none := fun o => World.grownBy_alloc w4 o none
      have hd5 := hd4.same (Below.heap_alloc w4 (.cells #[.int .i64 v, .bool i] 108) bd hd4.lt)
      have hR5 := hR4.kept (hbd (.cells #[.int .i64 v, .bool i] 108)) (by simp) (by simp)
      obtain ⟨w6, hrun6, hm6, hg6, hs6⟩ := hd5.store (by omega) hx (x := (v, i)) hv
      unfold vE at hrun6
      dsimp only at hrun6
      have hR6 := hR5.kept hg6 (by simpa using Ne.symm hne) (by simpa using Ne.symm hbr)
      rw [← mergeL_step hmx] at hm6
      have hg5 : w.grownBy w6 (some bd) := by
        have h1 := HG.out.size
        refine ⟨hg6.os.trans (hg4.os.trans HG.out.os), hg6.tape.trans (hg4.tape.trans HG.out.tape), hg6.output.trans (hg4.output.trans HG.out.output), ?_, fun k hk hn => ?_⟩
        · have : (w4.alloc (.cells #[.int .i64 v, .bool i] 108)).heap.size = w4.heap.size + 1 := by simp
          omega
        · rw [hg6.block k (by simp; omega) hn, Below.heap_alloc w4 _ k (by omega), hg4.block k (by omega) (fun e => by
            have e2 : k = r := by simpa using e
            have := HRR.out
            omega)]
          exact HG.out.block k hk hn
      have HR6 := Lib.hid hR6
      have HM6 : Hid (Mv w6 bd (nd + (ns - cnt')) (mergeL md ms (fun z => left z && !z.sameKey (kL x)))) := Lib.hid (hm6.mono (by omega))
      have HG6 := Lib.hid hg5
      clear hit hr4 hd4 hbd hd5 hR5 hm6 hg6 hR6 hg5 hs6 hR4 hg4 hs4 hmx hlx
      go_wp2_with fail
      go_roundw
      case rel => exact ⟨_, cnt', by omega, HR6, HM6, HG6⟩
      case measure => rw [HR6.out.left_eq, HR.out.left_eq]; exact hlt
end Go.Proofs.Ytpgelebmhhcodaa
