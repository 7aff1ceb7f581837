/- The document's model in memory: its parts; what is read of rows; the model itself. -/
import Derived.Test.YtpgelebmhhcodaaMdQ
import Derived.Test.YtpgelebmhhcodaaMdS
import Derived.Test.YtpgelebmhhcodaaLrS
namespace Go.Proofs.Ytpgelebmhhcodaa
open Go.RowKit
set_option linter.unusedVariables false

theorem ownsRow_take {w : World} {base : Nat} {e : TypeId} {size : Nat} {o : Option Addr} {n cap k : Nat} {xs : List Value} (h : w.ownsRow base e size (.slice o n cap) n xs) (hk : k ≤ n) : w.ownsRow base e size (.slice o k cap) k (xs.take (k * size)) := by
  have hm : k * size ≤ n * size := Nat.mul_le_mul_right _ hk
  refine ⟨by rw [List.length_take, h.1]; omega, ?_⟩
  rcases h.2 with ⟨e1, hn⟩ | ⟨g, cap', cur, e1, hbg, hg, hn, hcm, hcs, ht⟩
  · simp only [Value.slice.injEq] at e1
    obtain ⟨rfl, _, rfl⟩ := e1
    obtain rfl : k = 0 := by omega
    exact .inl ⟨rfl, rfl⟩
  · simp only [Value.slice.injEq] at e1
    obtain ⟨rfl, _, rfl⟩ := e1
    exact .inr ⟨g, cap, cur, rfl, hbg, hg, by omega, hcm, hcs, by rw [← ht, List.take_take, Nat.min_eq_left hm]⟩
theorem flat_len {α : Type} (f : α → List Value) (c : Nat) (hf : ∀ x, (f x).length = c) (T : List α) : (T.flatMap f).length = T.length * c := by
  induction T with
  | nil => simp
  | cons x T ih => rw [List.flatMap_cons, List.length_append, ih, hf, List.length_cons, Nat.succ_mul]; omega
theorem flat_take {α : Type} (f : α → List Value) (c : Nat) (hf : ∀ x, (f x).length = c) (T : List α) (k : Nat) (hk : k ≤ T.length) : (T.take k).flatMap f = (T.flatMap f).take (k * c) := by
  conv => rhs; rw [← List.take_append_drop k T, List.flatMap_append]
  rw [List.take_left' (by rw [flat_len f c hf, List.length_take, Nat.min_eq_left hk])]
theorem flat_drop {α : Type} (f : α → List Value) (c : Nat) (hf : ∀ x, (f x).length = c) (T : List α) (k : Nat) (hk : k ≤ T.length) : (T.drop k).flatMap f = (T.flatMap f).drop (k * c) := by
  conv => rhs; rw [← List.take_append_drop k T, List.flatMap_append]
  rw [List.drop_left' (by rw [flat_len f c hf, List.length_take, Nat.min_eq_left hk])]
theorem row_append0 {P : Program} (W : World) {e : TypeId} {i : TypeInfo} (t ty : TypeId) (ht : P.underlying t = some (.slice e)) (hi : P.info? e = some i) (gb n cap : Nat) (h : n ≤ cap) (o : Option Addr) (c : Nat) : (Builtin.append_ #[t, t] ty #[.slice (some ⟨gb, 0, none⟩) n cap, .slice o 0 c]).run P W = .ok (.slice (some ⟨gb, 0, none⟩) n cap) W := by
  cases o <;> simp [Builtin.append_, run_underlying ht, sizeOf, typeInfo, hi, Builtin.lenOf, Builtin.firstCells, h, storeCells, loadCells, loadCellsFrom, Result.andThen]
/-- a run of cells appended to a row of the call's own -/
theorem row_append {P : Program} {W : World} {base : Nat} {e : TypeId} {size bytes : Nat} {z : Value} {i : TypeInfo} (t ty : TypeId) (ht : P.underlying t = some (.slice e)) (hi : P.info? e = some i) (hz : i.zero = some z) (hsize : i.size = size) (hby : i.bytes = bytes) (hzs : z.cells.size = size) (hsz : 0 < size) (hbl : bytes ≤ 100)
    {gb0 n0 c0 : Nat} {xs : List Value} (h : W.ownsRow base e size (.slice (some ⟨gb0, 0, none⟩) n0 c0) n0 xs) (o : Option Addr) (m c : Nat) (news : List Value) (hl : news.length = m * size) (hnews : ∀ a, o = some a → ∀ j u, news[j]? = some u → W.cell? (a.add j) = some u) (ho : o = none → m = 0)
    (h1 : ∀ u ∈ news, u.oneCell' = true) (h63 : n0 + m ≤ 1000000) (hbase : base ≤ W.heap.size) :
    ∃ gb cap w', (Builtin.append_ #[t, t] ty #[.slice (some ⟨gb0, 0, none⟩) n0 c0, .slice o m c]).run P W = .ok (.slice (some ⟨gb, 0, none⟩) (n0 + m) cap) w' ∧
      w'.ownsRow base e size (.slice (some ⟨gb, 0, none⟩) (n0 + m) cap) (n0 + m) (xs ++ news) ∧ W.grownBy w' (some gb0) := by
  by_cases hm : m = 0
  · subst hm
    have hnil : news = [] := List.eq_nil_of_length_eq_zero (by rw [hl, Nat.zero_mul])
    subst hnil
    have hcap : n0 ≤ c0 := by
      rcases h.2 with ⟨e1, _⟩ | ⟨g, cap', cur, e1, _, _, hn, _⟩
      · simp at e1
      · simp only [Value.slice.injEq] at e1
        obtain ⟨_, _, rfl⟩ := e1
        exact hn
    exact ⟨gb0, c0, W, row_append0 W t ty ht hi gb0 n0 c0 hcap o c, by rw [List.append_nil]; exact h, World.grownBy.refl _ _⟩
  · cases o with
    | none => exact absurd (ho rfl) hm
    | some a =>
      obtain ⟨gb, cap, w', hrun, hown, hgrow, _⟩ := run_append_lies (P := P) W t ty base e i z size bytes ht hi hz hsize hby hzs hsz _ n0 xs h a m c news hl (hnews a rfl) h1 (by omega) (by simp [maxLen]; omega) (by
        have : (n0 + m) * bytes ≤ 1000000 * 100 := Nat.mul_le_mul h63 hbl
        omega) hbase _ rfl
      exact ⟨gb, cap, w', hrun, hown, hgrow⟩
def ptCl (p : Int × Bool × Int) : List Value := [.int .i64 p.1, .bool p.2.1, .int .i64 p.2.2]
theorem flatQ_len (T : List (Int × Bool × Int)) : (T.flatMap ptCl).length = T.length * 3 := by
  induction T with
  | nil => rfl
  | cons x T ih => rw [List.flatMap_cons, List.length_append, ih, List.length_cons]; simp [ptCl]; omega
theorem flatQ : ∀ (T : List (Int × Bool × Int)) (n i : Nat) (h : Int × Bool × Int), T[n]? = some h → i < 3 → (T.flatMap ptCl)[n * 3 + i]? = (ptCl h)[i]?
  | [], n, i, r, h, _ => by simp at h
  | x :: T, 0, i, r, h, hi => by
    simp only [List.getElem?_cons_zero, Option.some.injEq] at h
    subst h
    rw [List.flatMap_cons, List.getElem?_append_left (by simp [ptCl]; omega)]
    simp
  | x :: T, n + 1, i, r, h, hi => by
    rw [List.flatMap_cons, List.getElem?_append_right (by simp [ptCl]; omega), ← flatQ T n i r (by simpa using h) hi]
    congr 1
    simp [ptCl]
    omega
/-- parts in a row of their own -/
def Pt (base : Nat) (w : World) (v : Value) (T : List (Int × Bool × Int)) : Prop := (∀ p ∈ T, I64L p.1 ∧ I64L p.2.2) ∧ w.ownsRow base 130 3 v T.length (T.flatMap ptCl)
theorem Pt.nil {base : Nat} {w : World} : Pt base w (.slice none 0 0) [] := ⟨fun _ h => by simp at h, World.ownsRow_nil _ _ _ _⟩
theorem Pt.same {base : Nat} {w w' : World} {v : Value} {T : List (Int × Bool × Int)} (h : Pt base w v T) (hb : ∀ b, v.ownBlock = some b → w'.heap[b]? = w.heap[b]?) : Pt base w' v T := ⟨h.1, ownsRow_sameL h.2 hb⟩
theorem Pt.lt {base : Nat} {w : World} {v : Value} {T : List (Int × Bool × Int)} (h : Pt base w v T) {b : Nat} (hb : v.ownBlock = some b) : base ≤ b ∧ b < w.heap.size := h.2.lt b hb
theorem Pt.below {base : Nat} {w w' : World} {v : Value} {T : List (Int × Bool × Int)} (h : Pt base w v T) (hb : Below w.heap.size w w') : Pt base w' v T := h.same fun b e => hb.block b (h.lt e).2
theorem Pt.mono {base base' : Nat} {w : World} {v : Value} {T : List (Int × Bool × Int)} (h : Pt base w v T) (hb : base' ≤ base) : Pt base' w v T := by
  refine ⟨h.1, h.2.1, ?_⟩
  rcases h.2.2 with hn | ⟨g, cap, cur, hv, hbg, hg, r⟩
  · exact .inl hn
  · exact .inr ⟨g, cap, cur, hv, by omega, hg, r⟩
theorem Pt.grown {base B : Nat} {w0 w w' : World} {v : Value} {T : List (Int × Bool × Int)} (h : Pt base w v T) (hg : w.grownBy w' v.ownBlock) (hb : Below B w0 w) (h1 : B ≤ base) (h2 : B ≤ w.heap.size) : Below B w0 w' :=
  hb.grown hg h2 fun k hk => Nat.le_trans h1 (h.lt hk).1
theorem Pt.form {base : Nat} {w : World} {v : Value} {T : List (Int × Bool × Int)} (h : Pt base w v T) :
    ∃ o cap, v = .slice o T.length cap ∧ T.length ≤ cap ∧ cap ≤ maxLen ∧ (o = none → cap = 0 ∧ T = []) ∧ (∀ a, o = some a → ∃ g, a = ⟨g, 0, none⟩ ∧ base ≤ g ∧ g < w.heap.size ∧ (∀ i r, T[i]? = some r → ∀ j, j < 3 → w.cell? ⟨g, i * 3 + j, none⟩ = (ptCl r)[j]?)) := by
  rcases h.2.2 with ⟨rfl, hn⟩ | ⟨g, cap, cur, rfl, hbg, hg, hn, hcm, hcs, ht⟩
  · have : T = [] := List.eq_nil_of_length_eq_zero hn
    subst this
    exact ⟨none, 0, rfl, by simp, by simp [maxLen], fun _ => ⟨rfl, rfl⟩, fun a e => by simp at e⟩
  · refine ⟨some ⟨g, 0, none⟩, cap, rfl, hn, hcm, by simp, fun a e => ⟨g, by simpa using e.symm, hbg, (Array.getElem?_eq_some_iff.1 hg).1, fun i r hr j hj => ?_⟩⟩
    have hi : i < T.length := (List.getElem?_eq_some_iff.1 hr).1
    rw [cell_of_row w g _ _ _ _ hg, ← flatQ T i j r hr hj, ← ht, List.getElem?_take, if_pos (by omega)]
    simp
theorem Pt.at_ {base : Nat} {w : World} {o : Option Addr} {n cap : Nat} {T : List (Int × Bool × Int)} (h : Pt base w (.slice o n cap) T) {k : Nat} (hk : k < T.length) :
    ∃ g r, o = some ⟨g, 0, none⟩ ∧ T[k]? = some r ∧ I64L r.1 ∧ I64L r.2.2 ∧ w.cell? ⟨g, k * 3, none⟩ = some (.int .i64 r.1) ∧ w.cell? ⟨g, k * 3 + 1, none⟩ = some (.bool r.2.1) ∧ w.cell? ⟨g, k * 3 + 2, none⟩ = some (.int .i64 r.2.2) := by
  obtain ⟨o', cap', he, h1, h2, h3, h4⟩ := h.form
  simp only [Value.slice.injEq] at he
  obtain ⟨rfl, _, rfl⟩ := he
  cases o with
  | none => rw [(h3 rfl).2] at hk; simp at hk
  | some a =>
    obtain ⟨g, rfl, hb, hg, hc⟩ := h4 a rfl
    have hr := List.getElem?_eq_getElem hk
    have hw := h.1 _ (List.getElem_mem hk)
    exact ⟨g, T[k], rfl, hr, hw.1, hw.2, hc k _ hr 0 (by omega), hc k _ hr 1 (by omega), hc k _ hr 2 (by omega)⟩

theorem ptCl_len (p : Int × Bool × Int) : (ptCl p).length = 3 := rfl
theorem enCl_len (p : Int × Int) : (enCl p).length = 2 := rfl
theorem pt_one (T : List (Int × Bool × Int)) : ∀ u ∈ T.flatMap ptCl, u.oneCell' = true := fun u hu => by
  obtain ⟨x, _, hx⟩ := List.mem_flatMap.1 hu
  simp only [ptCl, List.mem_cons, List.not_mem_nil, or_false] at hx
  rcases hx with rfl | rfl | rfl <;> rfl
theorem en_one (T : List (Int × Int)) : ∀ u ∈ T.flatMap enCl, u.oneCell' = true := fun u hu => by
  obtain ⟨x, _, hx⟩ := List.mem_flatMap.1 hu
  simp only [enCl, List.mem_cons, List.not_mem_nil, or_false] at hx
  rcases hx with rfl | rfl <;> rfl
theorem Pt.take {base : Nat} {w : World} {o : Option Addr} {n cap k : Nat} {T : List (Int × Bool × Int)} (h : Pt base w (.slice o n cap) T) (hk : k ≤ T.length) : Pt base w (.slice o k cap) (T.take k) := by
  obtain ⟨h1, h2⟩ := h
  have hn : n = T.length := by
    rcases h2.2 with ⟨e1, e2⟩ | ⟨_, _, _, e1, _⟩
    · simp only [Value.slice.injEq] at e1; omega
    · simp only [Value.slice.injEq] at e1; exact e1.2.1
  subst hn
  refine ⟨fun p hp => h1 p (List.mem_of_mem_take hp), ?_⟩
  rw [flat_take ptCl 3 ptCl_len T k hk, List.length_take, Nat.min_eq_left hk]
  exact ownsRow_take h2 hk
theorem En.take {base : Nat} {w : World} {o : Option Addr} {n cap k : Nat} {T : List (Int × Int)} (h : En base w (.slice o n cap) T) (hk : k ≤ T.length) : En base w (.slice o k cap) (T.take k) := by
  obtain ⟨h1, h2⟩ := h
  have hn : n = T.length := by
    rcases h2.2 with ⟨e1, e2⟩ | ⟨_, _, _, e1, _⟩
    · simp only [Value.slice.injEq] at e1; omega
    · simp only [Value.slice.injEq] at e1; exact e1.2.1
  subst hn
  refine ⟨fun p hp => h1 p (List.mem_of_mem_take hp), ?_⟩
  rw [flat_take enCl 2 enCl_len T k hk, List.length_take, Nat.min_eq_left hk]
  exact ownsRow_take h2 hk
theorem Oi.take {base : Nat} {w : World} {o : Option Addr} {n cap k : Nat} {T : List Int} (h : Oi base w (.slice o n cap) T) (hk : k ≤ T.length) : Oi base w (.slice o k cap) (T.take k) := by
  obtain ⟨h1, h2⟩ := h
  have hn : n = T.length := by
    rcases h2.2 with ⟨e1, e2⟩ | ⟨_, _, _, e1, _⟩
    · simp only [Value.slice.injEq] at e1; omega
    · simp only [Value.slice.injEq] at e1; exact e1.2.1
  subst hn
  refine ⟨fun p hp => h1 p (List.mem_of_mem_take hp), ?_⟩
  rw [List.length_take, Nat.min_eq_left hk, List.map_take]
  have := ownsRow_take h2 hk
  rw [Nat.mul_one] at this
  exact this
theorem partInfo : (Try.prog.info? 130).map (fun i => (i.zero, i.size, i.bytes)) = some (some (.agg #[.int .i64 0, .bool false, .int .i64 0]), 3, 24) := by kernel_rfl
theorem part_laid (a : Int) (b : Bool) (c : Int) (w : World) : (Instr.buildSlice 127 1 #[(0, .agg #[.int .i64 a, .bool b, .int .i64 c])]).run Try.prog w = .ok (.slice (some ⟨w.heap.size, 0, none⟩) 1 1) (w.alloc (.cells #[.int .i64 a, .bool b, .int .i64 c] 130)) := by kernel_rfl
theorem part_laid0 (w : World) : (Instr.buildSlice 127 0 #[]).run Try.prog w = .ok (.slice (some ⟨w.heap.size, 0, none⟩) 0 0) (w.alloc (.cells #[] 130)) := by kernel_rfl
theorem Pt.made0 {w : World} {base : Nat} (hb : base ≤ w.heap.size) : Pt base (w.alloc (.cells #[] 130)) (.slice (some ⟨w.heap.size, 0, none⟩) 0 0) [] :=
  ⟨fun _ h => by simp at h, by simpa using World.ownsRow_made (size := 3) w #[] 0 hb (by simp [maxLen]) (by simp)⟩
theorem Pt.made1 {w : World} {base : Nat} (hb : base ≤ w.heap.size) (a : Int) (b : Bool) (c : Int) (ha : I64L a) (hc : I64L c) : Pt base (w.alloc (.cells #[.int .i64 a, .bool b, .int .i64 c] 130)) (.slice (some ⟨w.heap.size, 0, none⟩) 1 1) [(a, b, c)] :=
  ⟨fun p h => by obtain rfl := List.mem_singleton.1 h; exact ⟨ha, hc⟩, rfl, .inr ⟨w.heap.size, 1, _, rfl, hb, heap_alloc_new w _, Nat.le_refl _, by simp [maxLen], rfl, rfl⟩⟩
/-- parts appended to parts -/
theorem Pt.append {base b2 : Nat} {W : World} {gb0 n0 c0 : Nat} {T : List (Int × Bool × Int)} (h : Pt base W (.slice (some ⟨gb0, 0, none⟩) n0 c0) T) {u : Value} {M : List (Int × Bool × Int)} (hu : Pt b2 W u M) (hbase : base ≤ W.heap.size) (hn : T.length + M.length ≤ 1000000) (ty : TypeId) :
    ∃ gb cap w', (Builtin.append_ #[127, 127] ty #[.slice (some ⟨gb0, 0, none⟩) n0 c0, u]).run Try.prog W = .ok (.slice (some ⟨gb, 0, none⟩) (T.length + M.length) cap) w' ∧
      Pt base w' (.slice (some ⟨gb, 0, none⟩) (T.length + M.length) cap) (T ++ M) ∧ Below base W w' ∧ W.grownBy w' (some gb0) := by
  obtain ⟨i0, hi0, hz0, hz1, hz2⟩ := info_parts partInfo
  have h' := h
  obtain ⟨oo, cap0, he, _, _, _, _⟩ := h'.form
  simp only [Value.slice.injEq] at he
  obtain ⟨_, rfl, _⟩ := he
  obtain ⟨o, cap1, rfl, _, _, hon, hat⟩ := hu.form
  obtain ⟨gb, cap, w', hrun, hown, hgrow⟩ := row_append (P := Try.prog) 127 ty Try.underlying127 hi0 hz0 hz1 hz2 rfl (by omega) (by omega) h.2 o M.length cap1 (M.flatMap ptCl) (flat_len ptCl 3 ptCl_len M)
    (fun a ha j v hv => by
      obtain ⟨g, rfl, _⟩ := hat a ha
      subst ha
      exact hu.2.cells (g := g) rfl j v hv) (fun e => by rw [(hon e).2]; rfl) (pt_one M) hn hbase
  exact ⟨gb, cap, w', hrun, ⟨fun p hp => by
    rcases List.mem_append.1 hp with hp | hp
    · exact h.1 p hp
    · exact hu.1 p hp, by rw [List.length_append, List.flatMap_append]; exact hown⟩, (Below.refl _ _).grown hgrow hbase (fun k hk => (h.lt (b := k) (by simpa [Value.ownBlock] using hk)).1), hgrow⟩
/-- the tail of entries appended to entries -/
theorem En.appendTail {base b2 : Nat} {W : World} {gb0 n0 c0 : Nat} {T : List (Int × Int)} (h : En base W (.slice (some ⟨gb0, 0, none⟩) n0 c0) T) {o : Option Addr} {n c : Nat} {M : List (Int × Int)} (hu : En b2 W (.slice o n c) M) {k : Nat} (hk : k ≤ M.length) (o' : Option Addr) (ho' : o' = o.map (·.add (k * 2)) ∨ k = M.length) (hon' : o = none → o' = none) (c' : Nat) (hbase : base ≤ W.heap.size) (hn : T.length + M.length ≤ 1000000) (ty : TypeId) :
    ∃ gb cap w', (Builtin.append_ #[54, 54] ty #[.slice (some ⟨gb0, 0, none⟩) n0 c0, .slice o' (M.length - k) c']).run Try.prog W = .ok (.slice (some ⟨gb, 0, none⟩) (T.length + (M.length - k)) cap) w' ∧
      En base w' (.slice (some ⟨gb, 0, none⟩) (T.length + (M.length - k)) cap) (T ++ M.drop k) ∧ Below base W w' := by
  obtain ⟨i0, hi0, hz0, hz1, hz2⟩ := info_parts entInfo
  have h' := h
  obtain ⟨oo, cap0, he, _, _, _, _⟩ := h'.form
  simp only [Value.slice.injEq] at he
  obtain ⟨_, rfl, _⟩ := he
  obtain ⟨o1, cap1, he, _, _, hon, hat⟩ := hu.form
  simp only [Value.slice.injEq] at he
  obtain ⟨rfl, rfl, rfl⟩ := he
  have hl : (M.drop k).length = M.length - k := List.length_drop
  obtain ⟨gb, cap, w', hrun, hown, hgrow⟩ := row_append (P := Try.prog) 54 ty Try.underlying54 hi0 hz0 hz1 hz2 rfl (by omega) (by omega) h.2 o' (M.length - k) c' ((M.drop k).flatMap enCl) (by rw [flat_len enCl 2 enCl_len, hl])
    (fun a ha j v hv => by
      by_cases hke : k = M.length
      · subst hke; simp at hv
      · rcases ho' with e | e
        · cases o with
          | none => rw [hon' rfl] at ha; simp at ha
          | some a0 =>
            obtain ⟨g, rfl, _⟩ := hat a0 rfl
            rw [ha] at e
            simp only [Option.map_some, Option.some.injEq] at e
            subst e
            rw [flat_drop enCl 2 enCl_len M k hk, List.getElem?_drop] at hv
            rw [Go.Deep.add_add]
            exact hu.2.cells (g := g) rfl (k * 2 + j) v hv
        · exact absurd e hke) (fun e => by
      rcases ho' with e1 | e1
      · rw [e] at e1
        cases o with
        | none => rw [(hon rfl).2]; simp
        | some a => simp at e1
      · omega) (en_one _) (by omega) hbase
  exact ⟨gb, cap, w', hrun, ⟨fun p hp => by
    rcases List.mem_append.1 hp with hp | hp
    · exact h.1 p hp
    · exact hu.1 p (List.mem_of_mem_drop hp), by rw [List.length_append, hl, List.flatMap_append]; exact hown⟩, (Below.refl _ _).grown hgrow hbase (fun k hk => (h.lt (b := k) (by simpa [Value.ownBlock] using hk)).1)⟩
theorem entsUnder : Try.prog.underlying 54 = some (.slice (Try.prog.elem 54)) := by kernel_rfl
theorem partsUnder : Try.prog.underlying 127 = some (.slice (Try.prog.elem 127)) := by kernel_rfl
theorem run_upto (t : TypeId) (sz : Nat) (hu : Try.prog.underlying t = some (.slice (Try.prog.elem t))) (hsz : ∀ W, (sizeOf (Try.prog.elem t)).run Try.prog W = .ok sz W) (o : Option Addr) (n cap k : Nat) (hk : k ≤ n) (hc : n ≤ cap) (W : World) :
    (Instr.sliceAt t (.slice o n cap) none (some (.int .i64 (k : Int))) none).run Try.prog W = .ok (.slice o k cap) W := by
  rw [run_sliceAt_slice W t _ _ _ _ hu, run_slice_h W t _ _ _ hu .i64 (k : Int) (by omega) (by omega), hsz]
  cases o with
  | none => simp [Result.andThen, sliced]
  | some a => simp [Result.andThen, sliced, Addr.add]
theorem ents_upto (o : Option Addr) (n cap k : Nat) (hk : k ≤ n) (hc : n ≤ cap) (W : World) : (Instr.sliceAt 54 (.slice o n cap) none (some (.int .i64 (k : Int))) none).run Try.prog W = .ok (.slice o k cap) W :=
  run_upto _ 2 entsUnder (fun W => by kernel_rfl) o n cap k hk hc W
theorem parts_upto (o : Option Addr) (n cap k : Nat) (hk : k ≤ n) (hc : n ≤ cap) (W : World) : (Instr.sliceAt 127 (.slice o n cap) none (some (.int .i64 (k : Int))) none).run Try.prog W = .ok (.slice o k cap) W :=
  run_upto _ 3 partsUnder (fun W => by kernel_rfl) o n cap k hk hc W
theorem intsl_upto (o : Option Addr) (n cap k : Nat) (hk : k ≤ n) (hc : n ≤ cap) (W : World) : (Instr.sliceAt 34 (.slice o n cap) none (some (.int .i64 (k : Int))) none).run Try.prog W = .ok (.slice o k cap) W :=
  run_upto _ 1 intsUnder (fun W => by kernel_rfl) o n cap k hk hc W
theorem ents_from2 (o : Option Addr) (n cap k : Nat) (hk : k ≤ n) : ∃ o', (∀ W, (Instr.sliceAt 54 (.slice o n cap) (some (.int .i64 (k : Int))) none none).run Try.prog W = .ok (.slice o' (n - k) (cap - k)) W) ∧ (o' = o.map (·.add (k * 2)) ∨ cap = k) ∧ (o = none → o' = none) := by
  have hsz : ∀ W, (sizeOf (Try.prog.elem 54)).run Try.prog W = .ok 2 W := fun W => by kernel_rfl
  refine ⟨if cap = k then o else o.map (·.add (k * 2)), fun W => ?_, ?_, ?_⟩
  · rw [run_sliceAt_slice W 54 _ _ _ _ entsUnder, run_slice_l W 54 _ _ _ entsUnder .i64 (k : Int) (by omega) (by omega), hsz]
    simp [Result.andThen, sliced]
  · by_cases e : cap = k
    · exact .inr e
    · exact .inl (if_neg e)
  · rintro rfl; simp
end Go.Proofs.Ytpgelebmhhcodaa
