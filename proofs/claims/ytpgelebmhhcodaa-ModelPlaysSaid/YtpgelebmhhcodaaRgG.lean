/- A region that draws its order and ends with one store: what the loads read is held till that store. -/
import Derived.Test.YtpgelebmhhcodaaBase
import Derived.StillTail
import Derived.Deep.RegionHeld3
namespace Go.Proofs.Ytpgelebmhhcodaa
open Go.RowKit
set_option linter.unusedVariables false

section
variable {P : Program} {ops : Array Oper} {Q : Exit → Act → World → Prop} {md : Region.Mode} {S : World → Prop} {n : Nat}
/-- in whatever order; S is owed behind each operation but the last -/
def AnyG (P : Program) (md : Region.Mode) (ops : Array Oper) (Q : Exit → Act → World → Prop) (S : World → Prop) (n : Nat) : Nat → Array Bool → Act → World → Prop
  | 0, ls, a, w => Region.ready md ops ls = [] ∧ Q .normal a w
  | f + 1, ls, a, w => (Region.ready md ops ls = [] → Q .normal a w) ∧ ∀ i ∈ Region.ready md ops ls, wpOp P ops Q i (fun a' w' => (i < n → S w') ∧ AnyG P md ops Q S n f (ls.setIfInBounds i true) a' w') a w
theorem AnyG.any : ∀ (f : Nat) (ls : Array Bool) (a : Act) (w : World), AnyG P md ops Q S n f ls a w → wpAny P md ops Q f ls a w
  | 0, _, _, _, h => h
  | f + 1, _, _, _, h => ⟨h.1, fun i hi => wpOp_mono (fun a' w' k => AnyG.any f _ a' w' k.2) (h.2 i hi)⟩
theorem AnyG.first {i : Nat} {oi : Oper} {v : Value} (hs : Region.sinkB md ops n = true) (hc : Region.chainB md ops n = true) (hn : n < ops.size) (hi : ops[i]? = some oi) (hin : i < n)
    (hsel : ∀ (j : Nat) (o : Oper) cs b, ops[j]? = some o → o.op ≠ .select cs b) (hQ : ∀ c a w, Q (.panic c) (a.put oi.dst v) w → Q (.panic c) a w) :
    ∀ (f : Nat) (ls : Array Bool) (a : Act) (w : World), HeadInv md ops n ls →
      (∀ j oj, ops[j]? = some oj → j ≠ i → ls.getD j true = false → (∀ e ∈ oj.after, Region.binds md e = true → e.on ≠ i) → oi.apart ops oj = true) →
      i ∈ Region.ready md ops ls → YieldsIf P ops S oi v a → S w → AnyG P md ops Q S n f (ls.setIfInBounds i true) (a.put oi.dst v) w → AnyG P md ops Q S n (f + 1) ls a w := by
  intro f
  induction f with
  | zero =>
    intro ls a w _ _ hr hy hS H
    refine ⟨fun e => (by rw [e] at hr; cases hr), fun j hj => ?_⟩
    rcases Decidable.em (j = i) with rfl | hne
    · exact hy.wpOp hi hS ⟨fun _ => hS, H⟩
    · have := ready_mono hj hne
      rw [H.1] at this
      cases this
  | succ f ih =>
    intro ls a w inv fr hr hy hS H
    refine ⟨fun e => (by rw [e] at hr; cases hr), fun j hj => ?_⟩
    rcases Decidable.em (j = i) with rfl | hne
    · exact hy.wpOp hi hS ⟨fun _ => hS, H⟩
    · have hun := (mem_ready.1 hr).1
      have hjn : j < n := Nat.lt_of_not_le fun hle => tail_waits hs hc hn inv (n - i) i rfl hin hun j hle hj
      obtain ⟨hju, oj, hoj, hall⟩ := mem_ready.1 hj
      have hno : ∀ e ∈ oj.after, Region.binds md e = true → e.on ≠ i := fun e he hb e1 => by
        have k1 := hall e he hb
        rw [e1, getD_both hun] at k1
        cases k1
      have k2 := wpOp_putIf hoj (fr j oj hoj hne hju hno) (fun cs b => hsel i oi cs b hi) (fun cs b => hsel j oj cs b hoj) hQ hy (H.2 j (ready_mono hj hne))
      refine wpOp_mono (fun a' w' k3 => ⟨fun _ => k3.2.1 hjn, ih (ls.setIfInBounds j true) a' w' (inv.set hj hjn) (fun t ot ht hti htu hto => ?_) (ready_mono hr (Ne.symm hne)) k3.1 (k3.2.1 hjn) ?_⟩) k2
      · refine fr t ot ht hti ?_ hto
        rcases Decidable.em (j = t) with rfl | hjt
        · exact hju
        · rw [getD_set_ne true hjt] at htu; exact htu
      · rw [Array.setIfInBounds_comm _ _ hne]
        exact k3.2.2
theorem AnyG.done {ls : Array Bool} {a : Act} {w : World} (hr : Region.ready md ops ls = []) (h : Q .normal a w) : ∀ f, AnyG P md ops Q S n f ls a w
  | 0 => ⟨hr, h⟩
  | _ + 1 => ⟨fun _ => h, fun i hi => by rw [hr] at hi; cases hi⟩
/-- .. the head as it has come so far -/
def GoG (P : Program) (ops : Array Oper) (Q : Exit → Act → World → Prop) (S : World → Prop) (n f : Nat) (ls : Array Bool) (a : Act) (w : World) : Prop := HeadInv .any ops n ls → AnyG P .any ops Q S n f ls a w
theorem GoG.take {i f : Nat} {ls : Array Bool} {a : Act} {w : World} {oi : Oper} {v : Value} (hs : Region.sinkB .any ops n = true) (hc : Region.chainB .any ops n = true) (hn : n < ops.size) (hsel : Region.noSelect ops = true) (hf : Region.free .any ops ls i = true) (hr : (Region.ready .any ops ls).contains i = true) (hin : i < n) (hi : ops[i]? = some oi)
    (hQ : ∀ c a w, Q (.panic c) (a.put oi.dst v) w → Q (.panic c) a w) (hy : YieldsIf P ops S oi v a) (hS : S w) (h : GoG P ops Q S n f (ls.setIfInBounds i true) (a.put oi.dst v) w) : GoG P ops Q S n (f + 1) ls a w := fun inv => by
  have hr' : i ∈ Region.ready .any ops ls := by simpa using hr
  exact AnyG.first hs hc hn hi hin (Region.noSelect_spec hsel) hQ f ls a w inv (Region.free_spec hi hf) hr' hy hS (h (inv.set hr' hin))
theorem GoG.step1 {i f : Nat} {ls : Array Bool} {a : Act} {w : World} {oi : Oper} (hr : Region.ready .any ops ls = [i]) (hin : i < n) (hi : ops[i]? = some oi)
    (h : ∀ K : Act → World → Prop, Hid (∀ a' w', S w' → GoG P ops Q S n f (ls.setIfInBounds i true) a' w' → K a' w') → if Region.wanted oi (yielded ops a.tmps) = true then Oper.wp P oi a w K Q else K (a.put oi.dst undef) w) : GoG P ops Q S n (f + 1) ls a w := fun inv => by
  refine ⟨fun e => (by rw [hr] at e; cases e), fun j hj => ?_⟩
  have hj' := hj
  rw [hr] at hj'
  obtain rfl : j = i := by simpa using hj'
  exact wpOp_step hi fun K' hK => h K' (Lib.hid fun a' w' k1 k2 => hK a' w' ⟨fun _ => k1, k2 (inv.set hj hin)⟩)
theorem GoG.step2 {i k f : Nat} {ls : Array Bool} {a : Act} {w : World} {oi ok : Oper} (hr : Region.ready .any ops ls = [i, k]) (hin : i < n) (hkn : k < n) (hi : ops[i]? = some oi) (hk : ops[k]? = some ok)
    (h : ∀ K : Act → World → Prop, Hid (∀ a' w', S w' → GoG P ops Q S n f (ls.setIfInBounds i true) a' w' → K a' w') → if Region.wanted oi (yielded ops a.tmps) = true then Oper.wp P oi a w K Q else K (a.put oi.dst undef) w)
    (h' : ∀ K : Act → World → Prop, Hid (∀ a' w', S w' → GoG P ops Q S n f (ls.setIfInBounds k true) a' w' → K a' w') → if Region.wanted ok (yielded ops a.tmps) = true then Oper.wp P ok a w K Q else K (a.put ok.dst undef) w) : GoG P ops Q S n (f + 1) ls a w := fun inv => by
  refine ⟨fun e => (by rw [hr] at e; cases e), fun j hj => ?_⟩
  have hj' := hj
  rw [hr] at hj'
  have hjj : j = i ∨ j = k := by simpa using hj'
  rcases hjj with rfl | rfl
  · exact wpOp_step hi fun K' hK => h K' (Lib.hid fun a' w' k1 k2 => hK a' w' ⟨fun _ => k1, k2 (inv.set hj hin)⟩)
  · exact wpOp_step hk fun K' hK => h' K' (Lib.hid fun a' w' k1 k2 => hK a' w' ⟨fun _ => k1, k2 (inv.set hj hkn)⟩)
theorem GoG.last {f : Nat} {ls : Array Bool} {a : Act} {w : World} {oi : Oper} (hr : Region.ready .any ops ls = [n]) (hd : Region.ready .any ops (ls.setIfInBounds n true) = []) (hi : ops[n]? = some oi)
    (h : ∀ K : Act → World → Prop, Hid (∀ a' w', Q .normal a' w' → K a' w') → if Region.wanted oi (yielded ops a.tmps) = true then Oper.wp P oi a w K Q else K (a.put oi.dst undef) w) : GoG P ops Q S n (f + 1) ls a w := fun inv => by
  refine ⟨fun e => (by rw [hr] at e; cases e), fun j hj => ?_⟩
  rw [hr] at hj
  obtain rfl : j = n := by simpa using hj
  exact wpOp_step hi fun K' hK => h K' (Lib.hid fun a' w' k1 => hK a' w' ⟨fun hlt => absurd hlt (Nat.lt_irrefl _), AnyG.done hd k1 f⟩)
theorem wp_region_G {id : Nat} {a : Act} {w : World} (S : World → Prop) (n : Nat) (hm : P.follows .mixedOrders = true) (h : GoG P ops Q S n ops.size (Array.replicate ops.size false) a w.drew) : (Code.region id ops true).wp P Q a w :=
  wp_region_any hm (AnyG.any _ _ _ _ (h ⟨by simp, fun j oj _ hl => (by rw [getD_replicate_false] at hl; cases hl), fun t _ ht => getD_in (by simpa using ht) (getD_replicate_false _ _)⟩))
end
end Go.Proofs.Ytpgelebmhhcodaa
