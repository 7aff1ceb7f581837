/- Contracts: Free; keys of Held. -/
import Derived.Test.YtpgelebmhhcodaaLkJ
namespace Go.Proofs.Ytpgelebmhhcodaa
open Go.RowKit
set_option linter.unusedVariables false

set_option maxRecDepth 20000 in
theorem tabFree {w : World} {X : Nat} {v : Value} {T : List HoldD} (h : Tb w X v T) (s : Int) :
    Calls Try.prog 15 #[.pointer (some ⟨X, 0, none⟩), .int .i64 s] w fun e w' => e = .returned (.tuple #[]) ∧ ∃ v', Tb w' X v' (freeT T s) ∧ Ext (Tb.F X v) w (Tb.F X v') w' := by
  obtain ⟨W1, hW1⟩ : ∃ W, W = w.alloc (.cells #[.int .i64 s] 3) := ⟨_, rfl⟩
  have hb1 : Below w.heap.size w W1 := by rw [hW1]; exact (Below.refl _ _).alloc (Nat.le_refl _) _
  have d3 : W1.cell? ⟨w.heap.size, 0, none⟩ = some (.int .i64 s) := by rw [hW1]; simp [go_sem]
  obtain ⟨c0, _⟩ := (h.below hb1).cell
  have hdel := deleteFree (h.below hb1).own h.len s ⟨w.heap.size, 0, none⟩ d3 (fun e => absurd (h.own.lt e).2 (Nat.lt_irrefl _))
  have hput := fun (w2 : World) (v' : Value) (hg : W1.grownBy w2 v.ownBlock) (ho : Ho 0 w2 v' (freeT T s)) (hv : v'.ownBlock = v.ownBlock) => h.put hb1 hg ho (fun b e => .inl (by rw [← hv]; exact e)) (Nat.le_trans (List.length_filter_le _ _) h.len)
  have HDEL := Lib.hid hdel
  have HPUT := Lib.hid hput
  have HW1 := Lib.hid hW1
  have hmf : ∀ (fn : Fn) (first cap : Array Value) (w : World), (Instr.makeFunc fn first cap).run Try.prog w = .ok (.func fn first cap) w := fun _ _ _ _ => rfl
  clear h hb1 d3 hdel hput hW1
  go_enter Try.func15, Try.ntmps15
  go_upto_region 1 with fail
  rw [← HW1.out]
  clear HW1
  go_wp2_with fail
  refine HDEL.out.mono ?_
  clear HDEL c0
  rintro e w2 ⟨v', rfl, hv, ho, hg⟩
  obtain ⟨o', cap', rfl, _⟩ := ho.form
  obtain ⟨⟨k1, k2⟩, htb, hx⟩ := HPUT.out w2 _ hg ho hv
  have HTB := Lib.hid htb
  have HX := Lib.hid hx
  clear ho hg htb hx HPUT hv
  go_wp2_with fail
  exact bodyPost_end (results_none rfl _ _ _) rfl ⟨rfl, _, HTB.out, HX.out⟩

theorem heldHere (h : HoldD) (w : World) :
    Calls Try.prog 84 #[holdV h] w fun e w' => e = .returned (.bool (h.mode == 2)) ∧ Below w.heap.size w w' := by
  obtain ⟨rs, rk, rm⟩ := h
  unfold holdV
  dsimp only
  have HB : Hid (∀ o, Below w.heap.size w (w.alloc o)) := Lib.hid (fun o => (Below.refl _ _).alloc (Nat.le_refl _) o)
  go_enter Try.func84, Try.ntmps84
  go_wp2_with fail
  go_ret
  exact ⟨rfl, HB.out _⟩

def heldL (T : List HoldD) : List Int := (T.filter fun h => h.mode == 2).map (·.key)
theorem heldL_step (T : List HoldD) (k : Nat) (r : HoldD) (hr : T[k]? = some r) : heldL (T.take (k + 1)) = heldL (T.take k) ++ (if (r.mode == 2) = true then [r.key] else []) := by
  unfold heldL
  rw [List.take_add_one, hr, Option.toList_some, List.filter_append, List.map_append]
  congr 1
  rw [List.filter_cons]
  split <;> simp
def heldT (T : List HoldD) : List Int := Lib.compact (sortL (heldL T))
end Go.Proofs.Ytpgelebmhhcodaa
