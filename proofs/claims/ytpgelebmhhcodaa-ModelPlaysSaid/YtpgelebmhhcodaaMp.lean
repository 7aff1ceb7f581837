/- Maps keyed by ints, of any elements, key by key; ranging over one with a store at a key that is there. -/
import Derived.Test.YtpgelebmhhcodaaLkA
import Derived.Test.YtpgelebmhhcodaaBase
import Derived.Maps.RangeWalk
import Derived.Maps.Ext
namespace Go.Proofs.Ytpgelebmhhcodaa
open Go.RowKit Go.ChangeMaps Go.MapKept Go.WideShapes
open Go.WideElems (Fit rd rg pl rd_key rd_val rg_of rd_mk rd_stay other_key)
open Go.Maps (Keyed int_keyed keyOf_int_mk)
set_option linter.unusedVariables false

/-- an element, whatever it is -/
def hv (v : Value) : Option (DataW Value × List MemPlace) := some (.held v, [])
def kL (k : Int) : Lit := .int .i64 k
theorem kL_key (k : Int) : WideAt.IsKeyLit (kL k) := trivial
theorem kL_ne {a b : Int} (h : a ≠ b) : kL a ≠ kL b := fun e => h (by unfold kL at e; simpa using e)
theorem kL_same (a b : Int) : (kL a).sameKey (kL b) = (a == b) := by
  by_cases e : a = b
  · subst e; rw [WideAt.sameKey_self (kL_key a)]; simp
  · rw [Go.Maps.sameKey_ne (kL_ne e)]; simp [e]
theorem ilaw : Keyed Try.prog 3 := int_keyed Try.underlying3
theorem wf_of_L {n : Int} (h : I64L n) : (Lit.int .i64 n).wf = true := by
  unfold I64L at h
  simp [Lit.wf, IntKind.min, IntKind.max, IntKind.signed, IntKind.bits]; omega
theorem L_of_wf {n : Int} (h : (Lit.int .i64 n).wf = true) : I64L n := wf_i64 h
theorem kL_of {k : Int} (h : I64L k) : keyOf Try.prog 3 (.int .i64 k) = some (kL k) := keyOf_int_mk Try.underlying3 (wf_of_L h)
theorem kL_inv {key : Value} {kl : Lit} (h : keyOf Try.prog 3 key = some kl) : ∃ x, key = .int .i64 x ∧ kl = kL x ∧ I64L x := by
  obtain ⟨x, h1, h2, h3⟩ := Go.Maps.keyOf_int_inv Try.underlying3 h
  exact ⟨x, h1, h2, L_of_wf h3⟩
/-- the element at a key -/
def getV (D : DataW Value) (k : Int) : Option Value := if Go.Maps.has D (kL k) = true then (match D.atKey (kL k) .nil with | .held v => some v | _ => none) else none
theorem getV_put_same {D : DataW Value} (hD : Go.Maps.IsMap D) (k : Int) (v : Value) : getV (D.put (kL k) (.held v)) k = some v := by
  unfold getV
  rw [Go.Maps.has_put_same hD (kL_key k), if_pos rfl, Go.Maps.atKey_put_same hD (kL_key k)]
theorem getV_put_other {D : DataW Value} {k k' : Int} (h : k' ≠ k) (d : DataW Value) : getV (D.put (kL k) d) k' = getV D k' := by
  unfold getV
  rw [Go.Maps.has_put_other (kL_ne h), Go.Maps.atKey_put_other (kL_ne h)]
theorem getV_del_same {D : DataW Value} (k : Int) : getV (D.del (kL k)) k = none := by
  unfold getV
  rw [Go.Maps.has_del_same, if_neg (by simp)]
theorem getV_del_other {D : DataW Value} {k k' : Int} (h : k' ≠ k) : getV (D.del (kL k)) k' = getV D k' := by
  unfold getV
  rw [Go.Maps.has_del_other (kL_ne h), Go.Maps.atKey_del_other (kL_ne h)]
theorem getV_none {D : DataW Value} {k : Int} (h : ∀ zd, D.atKey (kL k) zd = zd) : getV D k = none := by
  unfold getV
  rw [Go.Maps.has_false_of_atKey h, if_neg (by simp)]
theorem getV_some {D : DataW Value} {k : Int} {v : Value} (h : ∀ zd, D.atKey (kL k) zd = .held v) : getV D k = some v := by
  unfold getV
  rw [Go.Maps.has_true_of_atKey h, if_pos rfl, h]

/-- f with another value at k -/
def updM {α : Type} (f : Int → α) (k : Int) (x : α) : Int → α := fun j => if j = k then x else f j
theorem updM_same {α : Type} (f : Int → α) (k : Int) (x : α) : updM f k x k = x := if_pos rfl
theorem updM_other {α : Type} (f : Int → α) {k j : Int} (x : α) (h : j ≠ k) : updM f k x j = f j := if_neg h
theorem updM_upd {α : Type} (f : Int → α) (k : Int) (x y : α) : updM (updM f k x) k y = updM f k y := by
  funext j; unfold updM; split <;> rfl

/-- block b is a map of at most n entries, f its elements -/
structure Mp (w : World) (b n : Nat) (f : Int → Option Value) : Prop where
  ex : ∃ D, w.ownsMap Try.prog 3 hv b n D ∧ ∀ k, I64L k → getV D k = f k
  out : ∀ k, ¬ I64L k → f k = none
theorem Mp.lt {w : World} {b n : Nat} {f : Int → Option Value} (h : Mp w b n f) : b < w.heap.size := by
  obtain ⟨⟨D, h1, _⟩, _⟩ := h
  exact h1.lt
theorem Mp.mono {w : World} {b n n' : Nat} {f : Int → Option Value} (h : Mp w b n f) (hn : n ≤ n') : Mp w b n' f := by
  obtain ⟨⟨D, h1, h2⟩, h3⟩ := h
  exact ⟨⟨D, h1.mono hn, h2⟩, h3⟩
theorem Mp.same {w w' : World} {b n : Nat} {f : Int → Option Value} (h : Mp w b n f) (hb : w'.heap[b]? = w.heap[b]?) : Mp w' b n f := by
  obtain ⟨⟨D, ⟨es, clock, g1, g2⟩, h2⟩, h3⟩ := h
  exact ⟨⟨D, ⟨es, clock, hb.trans g1, g2⟩, h2⟩, h3⟩
theorem Mp.below {w w' : World} {b n : Nat} {f : Int → Option Value} (h : Mp w b n f) (hb : Below w.heap.size w w') : Mp w' b n f := h.same (hb.block b h.lt)
theorem Mp.made (w : World) : Mp (w.alloc (.map #[] 0)) w.heap.size 0 fun _ => none :=
  ⟨⟨_, World.ownsMap_made w _ _ _, fun k _ => rfl⟩, fun _ _ => rfl⟩
theorem Mp.form {w : World} {b n : Nat} {f : Int → Option Value} (h : Mp w b n f) : ∃ es c, w.heap[b]? = some (.map es c) := by
  obtain ⟨⟨D, ⟨es, clock, g1, g2⟩, h2⟩, h3⟩ := h
  exact ⟨es, clock, g1⟩
theorem Mp.key {w : World} {b n : Nat} {f : Int → Option Value} (h : Mp w b n f) {k : Int} {v : Value} (hk : f k = some v) : I64L k := by
  by_cases e : I64L k
  · exact e
  · rw [h.out k e] at hk; simp at hk
/-- what is looked up -/
def lookV (c : Bool) (x : Option Value) (z : Value) : Value := if c = true then .tuple #[x.getD z, .bool x.isSome] else x.getD z
theorem Mp.look {w : World} {b n : Nat} {f : Int → Option Value} (h : Mp w b n f) {T E : TypeId} (hT : Try.prog.underlying T = some (.map 3 E)) {z : Value} (hz : (zeroValue E).run Try.prog w = .ok z w) {k : Int} (hk : I64L k) (c : Bool) :
    (Instr.lookup T (.map (some b)) (.int .i64 k) c).run Try.prog w = .ok (lookV c (f k) z) w := by
  obtain ⟨⟨D, ⟨es, clock, hb, F, hs, rfl⟩, h2⟩, h3⟩ := h
  rw [← h2 k hk]
  rcases Go.Maps.fit_look c ilaw hT hz hb F (kL_of hk) with ⟨hrun, _, hat⟩ | ⟨e0, y, _, _, hrun, hR, hat, _⟩
  · rw [hrun, getV_none hat]
    cases c <;> rfl
  · have hy : y = (.held e0.val, []) := by unfold hv at hR; simpa using hR.symm
    rw [hy] at hat
    rw [hrun, getV_some hat]
    cases c <;> rfl
theorem look_nilM {w : World} {T E : TypeId} (hT : Try.prog.underlying T = some (.map 3 E)) {z : Value} (hz : (zeroValue E).run Try.prog w = .ok z w) {k : Int} (hk : I64L k) (c : Bool) :
    (Instr.lookup T (.map none) (.int .i64 k) c).run Try.prog w = .ok (lookV c none z) w := by
  rw [Maps.look_nil c ilaw hT hz (kL_of hk)]
  cases c <;> rfl
theorem Mp.store {w : World} {b n : Nat} {f : Int → Option Value} (h : Mp w b n f) {T E : TypeId} (hT : Try.prog.underlying T = some (.map 3 E)) (hn : n < 1000000) {k : Int} (hk : I64L k) (v : Value) :
    ∃ w', (Instr.mapUpdate T (.map (some b)) (.int .i64 k) v).run Try.prog w = .ok () w' ∧ Mp w' b (n + 1) (updM f k (some v)) ∧ w.grownBy w' (some b) ∧ w'.heap.size = w.heap.size := by
  obtain ⟨⟨D, h1, h2⟩, h3⟩ := h
  obtain ⟨w', hrun, hown, hturn⟩ := h1.store ilaw hT (by unfold maxLen; omega) (kL_of hk) (show hv v = some (.held v, []) from rfl)
  have hm := (h1.tidy ilaw).isMap
  refine ⟨w', hrun, ⟨⟨_, hown, fun j hj => ?_⟩, fun j hj => ?_⟩, hturn.grown, ?_⟩
  · by_cases e : j = k
    · subst e; rw [getV_put_same hm, updM_same]
    · rw [getV_put_other e, updM_other _ _ e, h2 j hj]
  · have e : j ≠ k := fun e => hj (e ▸ hk)
    rw [updM_other _ _ e, h3 j hj]
  · obtain ⟨es, clock, es', clock', hb, rfl⟩ := hturn
    simp [setBlock]
theorem Mp.del {w : World} {b n : Nat} {f : Int → Option Value} (h : Mp w b n f) {T E : TypeId} (hT : Try.prog.underlying T = some (.map 3 E)) {k : Int} (hk : I64L k) (ty : TypeId) :
    ∃ w', (Builtin.delete_ #[T, 3] ty #[.map (some b), .int .i64 k]).run Try.prog w = .ok (.tuple #[]) w' ∧ Mp w' b n (updM f k none) ∧ w.grownBy w' (some b) ∧ w'.heap.size = w.heap.size := by
  obtain ⟨⟨D, h1, h2⟩, h3⟩ := h
  obtain ⟨w', hrun, hown, hturn⟩ := h1.drop ilaw hT (kL_of hk) ty
  refine ⟨w', hrun, ⟨⟨_, hown, fun j hj => ?_⟩, fun j hj => ?_⟩, hturn.grown, ?_⟩
  · by_cases e : j = k
    · subst e; rw [getV_del_same, updM_same]
    · rw [getV_del_other e, updM_other _ _ e, h2 j hj]
  · by_cases e : j = k
    · subst e; rw [updM_same]
    · rw [updM_other _ _ e, h3 j hj]
  · obtain ⟨es, clock, es', clock', hb, rfl⟩ := hturn
    simp [setBlock]
theorem del_nilM {w : World} {T E : TypeId} (hT : Try.prog.underlying T = some (.map 3 E)) {k : Int} (hk : I64L k) (ty : TypeId) :
    (Builtin.delete_ #[T, 3] ty #[.map none, .int .i64 k]).run Try.prog w = .ok (.tuple #[]) w := Maps.drop_nil ilaw hT (kL_of hk) ty

/-- a store at a key that is there, while the map is ranged over -/
theorem ranges_store {H : Type} {P : Program} {k : TypeId} {R : Value → Option (DataW H × List MemPlace)} {w : World} {b r n : Nat} {D : DataW H} {left : Lit → Bool} {cnt : Nat} {t e : TypeId} (h : w.ranges P k R b r n D left cnt) (K : Keyed P k) (ht : P.underlying t = some (.map k e))
    {key val : Value} {kl : Lit} {yv : DataW H × List MemPlace} (hkey : keyOf P k key = some kl) (hv : R val = some yv) (hhas : Go.Maps.has D kl = true) :
    ∃ w', (Instr.mapUpdate t (.map (some b)) key val).run P w = .ok () w' ∧ w'.ranges P k R b r n (D.put kl yv.1) left cnt ∧ w.mapTurned w' b := by
  have hne := h.ne
  obtain ⟨es, clock, since, seen, c0, hb, F, hs, rfl, hr, hold, hc, hl1, hl2, hsc, hsk⟩ := h
  rcases K.find w hkey es.toList F.keys with ⟨h1, h2⟩ | ⟨j, e0, h1, h2, h3⟩
  · exfalso
    obtain ⟨p, hp, hpk⟩ := List.any_eq_true.1 hhas
    obtain ⟨x, hx, rfl⟩ := List.mem_map.1 (mem_sorted.1 hp)
    obtain ⟨y, hy⟩ := F.reads x hx
    have e1 := WideAt.sameKey_eq hpk
    rw [rg_of hy] at e1
    exact h2 x hx (K.inj (rd_key hy) (e1 ▸ hkey))
  · have hj : es[j]? = some e0 := by simpa using h2
    have hjl : j < es.toList.length := (List.getElem?_eq_some_iff.1 h2).1
    have hm0 : e0 ∈ es.toList := List.mem_of_getElem? h2
    have hkeyf : ∀ e', es[j]? = some e' → ({ e' with key := key, val := val } : MapEntry).key = e'.key := fun e' he' => by rw [hj] at he'; cases he'; exact h3.symm
    have hlist : (es.modify j (fun e' => { e' with key := key, val := val })).toList = es.toList.set j { e0 with key := key, val := val } := by rw [Array.toList_modify, modify_eq_set _ _ _ _ h2]
    have who : ∀ x ∈ es.toList.set j { e0 with key := key, val := val }, x = { e0 with key := key, val := val } ∨ (x ∈ es.toList ∧ x.key ≠ key) := by
      intro x hx
      obtain ⟨i, hi, ex⟩ := List.getElem_of_mem hx
      rw [List.getElem_set] at ex
      split at ex
      · exact Or.inl ex.symm
      · rename_i hne
        have hi' : i < es.toList.length := by simpa using hi
        refine Or.inr ⟨ex ▸ List.getElem_mem hi', ?_⟩
        rw [← h3]
        exact other_key F h2 (by rw [List.getElem?_eq_getElem hi', ex]) (fun e1 => hne e1.symm)
    have hnew : (rg P k R { e0 with key := key, val := val }).1 = kl := by rw [rg_of (rd_mk hkey hv)]
    have hrg0 : (rg P k R e0).1 = kl := by
      obtain ⟨y, hy⟩ := F.reads e0 hm0
      have m1 := rd_key hy
      rw [h3, hkey] at m1
      rw [rg_of hy]
      exact (Option.some.inj m1).symm
    have F' : Fit P k R (es.modify j (fun e' => { e' with key := key, val := val })) clock := ⟨by simpa using F.size, stamped_modify F.stamped _ _ (fun _ _ => rfl) (fun e' _ he' => hkeyf e' he'), fun x hx => by
      rw [hlist] at hx
      rcases who x hx with rfl | ⟨hx', hne⟩
      · exact ⟨_, rd_mk hkey hv⟩
      · exact F.reads x hx'⟩
    refine ⟨setBlock w b (.map (es.modify j (fun e' => { e' with key := key, val := val })) clock), ?_, ⟨es.modify j (fun e' => { e' with key := key, val := val }), clock, since, seen, c0, heap_setBlock_same hb _, F', by simpa using hs, ?_, (heap_setBlock_other hb _ hne).trans hr, fun x hx => ?_, ?_, fun x hx => ?_, fun x0 hx0 => ?_, hsc, hsk⟩, ⟨es, clock, _, clock, hb, rfl⟩⟩
    · simp [Instr.mapUpdate, run_underlying ht, MapKept.run_getObj_map hb, K.check w false hkey, h1, hj, h3, K.stays w hkey, MapKept.run_setObj_map _ hb, Result.andThen, setBlock]
    · rw [DataW.put_eq]
      refine congrArg DataW.map (Eq.symm ?_)
      refine Go.Maps.sorted_put K.one ⟨key, hkey⟩ (Go.Maps.fit_keys F) (Go.Maps.fit_apart K F) ?_
      rw [Go.Maps.filter_one K F hkey h2 h3, hlist, List.map_set, rg_of (rd_mk hkey hv)]
      exact set_perm _ _ (by simpa using hjl) _
    · rw [hlist] at hx
      rcases who x hx with rfl | ⟨hx', _⟩
      · exact hold e0 hm0
      · exact hold x hx'
    · have e1 : ∀ a : Array MapEntry, (leftOf a seen).size = (a.toList.map (·.born)).countP (fun i => !seen.contains i) := fun a => by
        unfold leftOf
        rw [← Array.length_toList, Array.toList_filter, List.countP_map, List.countP_eq_length_filter]
        rfl
      rw [← hc, e1, e1, hlist]
      refine congrArg (List.countP _) ?_
      rw [List.map_set]
      refine List.ext_getElem? fun i => ?_
      rw [List.getElem?_set]
      split
      · rename_i ei
        subst ei
        rw [if_pos (by simpa using hjl), List.getElem?_map, h2]
        rfl
      · rfl
    · rw [hlist] at hx
      rcases who x hx with rfl | ⟨hx', hne⟩
      · rw [hnew, ← hrg0]
        exact hl1 e0 hm0
      · exact hl1 x hx'
    · obtain ⟨x, hx, rfl⟩ := hl2 x0 hx0
      by_cases ek : x.key = key
      · refine ⟨{ e0 with key := key, val := val }, ?_, ?_⟩
        · rw [hlist]
          exact List.mem_iff_getElem.2 ⟨j, by simpa using hjl, by simp⟩
        · rw [hnew]
          obtain ⟨y, hy⟩ := F.reads x hx
          have m1 := rd_key hy
          rw [ek, hkey] at m1
          rw [rg_of hy]
          exact Option.some.inj m1
      · refine ⟨x, ?_, rfl⟩
        rw [hlist]
        obtain ⟨i, hi⟩ := List.getElem?_of_mem hx
        have hij : i ≠ j := fun e => by
          subst e
          rw [h2] at hi
          cases hi
          exact ek h3
        exact List.mem_of_getElem? (i := i) (by rw [List.getElem?_set_ne (Ne.symm hij)]; exact hi)
end Go.Proofs.Ytpgelebmhhcodaa
