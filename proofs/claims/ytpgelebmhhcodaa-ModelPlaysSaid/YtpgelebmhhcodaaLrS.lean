/- Contracts of phoenixref.SameInts, phoenixref.Ints (SameI's text over the locks' rows of ints). -/
import Derived.Test.YtpgelebmhhcodaaLkM
import Derived.Test.YtpgelebmhhcodaaPlain
namespace Go.Proofs.Ytpgelebmhhcodaa
open Go.RowKit
set_option linter.unusedVariables false

theorem wf_of_i64 {n : Int} (h1 : -9223372036854775808 ≤ n) (h2 : n ≤ 9223372036854775807) : (Lit.int .i64 n).wf = true := by
  simp [Lit.wf, IntKind.min, IntKind.max, IntKind.signed, IntKind.bits]; omega
theorem Ns.same {ik : IntKind} {w w' : World} {v : Value} {l : List Int} (h : Ns ik w v l) (hb : ∀ b, v.ownBlock = some b → w'.heap[b]? = w.heap[b]?) : Ns ik w' v l := by
  obtain ⟨h1, o, c, rfl, h3, h4, h5, h6⟩ := h
  refine ⟨h1, o, c, rfl, h3, h4, h5, fun hne => ?_⟩
  obtain ⟨a, ha, hc⟩ := h6 hne
  refine ⟨a, ha, fun i hi => ?_⟩
  rw [← hc i hi]
  refine World.cell?_of_block ?_
  have e : (a.add i).block = a.block := by unfold Addr.add; split <;> rfl
  rw [e]
  exact hb a.block (by rw [ha]; rfl)

/-- ints in a row of the call's own -/
theorem sameInts (v u : Value) (l m : List Int) (w : World) (hv : Ns .i64 w v l) (hu : Ns .i64 w u m) :
    Calls Try.prog 23 #[v, u] w fun e w' => e = .returned (.bool (sameB l m)) ∧ ∃ n, w' = w.drewN n := by
  obtain ⟨hl1, o, c, rfl, hlc, hcm, hon, hcell⟩ := hv
  obtain ⟨hm1, o', c', rfl, hlc', hcm', hon', hcell'⟩ := hu
  unfold maxLen at hcm hcm'
  by_cases hl : l.length = m.length
  · have h1 : ((l.length : Int) != (m.length : Int)) = false := by simp [hl]
    have HL := Lib.hid hl
    have hl2 : l.length ≤ m.length := by omega
    clear hl
    go_enter Try.func23, Try.ntmps23
    go_wp2
    go_loopw [5] (fun i wr => ∃ k : Nat, k ≤ l.length ∧ i = .int .i64 k ∧ l.take k = m.take k ∧ ∃ n, wr = w.drewN n) (fun i _ => l.length - (intOf i).toNat)
    case atStart => exact ⟨0, Nat.zero_le _, rfl, by simp, 0, rfl⟩
    case round =>
      obtain ⟨k, hk, rfl, ht, nd, rfl⟩ := hrel
      have HT := Lib.hid ht
      clear ht
      by_cases hlt : k < l.length
      · obtain ⟨a, x, rfl, g, hx, hx0⟩ := Ns.at_ hl1 hcell hlt
        obtain ⟨a', y, rfl, g', hy, hy0⟩ := Ns.at_ hm1 hcell' (k := k) (by omega)
        clear hcell hcell'
        go_wp2
        go_quiet (fail)
        by_cases hxy : x = y
        · have e1 : (x == y) = true := by simp [hxy]
          have HXY := Lib.hid hxy
          clear hxy
          go_wp2
          go_roundw
          case rel =>
            refine ⟨k + 1, by omega, by go_num, ?_, _, rfl⟩
            have hk2 : k < m.length := by omega
            rw [List.take_succ_eq_append_getElem hlt, List.take_succ_eq_append_getElem hk2, HT.out, ← getD_lt (d := 0) hlt, ← getD_lt (d := 0) hk2, hx.out, hy.out, HXY.out]
          case measure => simp [intOf]; omega
        · have e1 : (x == y) = false := by simp [hxy]
          have HXY := Lib.hid hxy
          clear hxy
          go_wp2
          go_ret
          refine ⟨?_, _, rfl⟩
          have : sameB l m = false := by
            unfold sameB
            have : l ≠ m := by rintro rfl; exact HXY.out (hx.out.symm.trans hy.out)
            simp [this]
          rw [this]; rfl
      · go_wp2
        go_ret
        refine ⟨?_, _, rfl⟩
        have hx : sameB l m = true := by
          have e := HT.out
          have e2 := HL.out
          rw [List.take_of_length_le (by omega), List.take_of_length_le (by omega)] at e
          simp [sameB, e]
        rw [hx]; rfl
  · have h1 : ((l.length : Int) != (m.length : Int)) = true := by simp; omega
    have h2 : sameB l m = false := by unfold sameB; simp; intro h; exact hl (by rw [h])
    rw [h2]
    go_enter Try.func23, Try.ntmps23
    go_wp2
    go_ret
    exact ⟨rfl, 0, rfl⟩

/-- the same, the draws under one word -/
theorem sameIntsQ (v u : Value) (l m : List Int) (w : World) (hv : Ns .i64 w v l) (hu : Ns .i64 w u m) :
    Calls Try.prog 23 #[v, u] w fun e w' => e = .returned (.bool (sameB l m)) ∧ Qw w w' := sameInts v u l m w hv hu

/-- the first of a slice of ints -/
theorem Ns.pre {ik : IntKind} {w : World} {o : Option Addr} {n cap : Nat} {l : List Int} (h : Ns ik w (.slice o n cap) l) (m : Nat) (hm : m ≤ l.length) : Ns ik w (.slice o m cap) (l.take m) := by
  obtain ⟨h1, o', c, he, h3, h4, h5, h6⟩ := h
  simp only [Value.slice.injEq] at he
  obtain ⟨rfl, rfl, rfl⟩ := he
  have hl : (l.take m).length = m := by rw [List.length_take]; omega
  refine ⟨fun x hx => h1 x (List.mem_of_mem_take hx), o, cap, by rw [hl], by omega, h4, h5, fun hne => ?_⟩
  obtain ⟨a, ha, hc⟩ := h6 (by rintro rfl; simp at hne)
  refine ⟨a, ha, fun i hi => ?_⟩
  rw [hc i (by omega), getD_lt hi, getD_lt (show i < l.length by omega), List.getElem_take]
theorem Ns.len {ik : IntKind} {w : World} {o : Option Addr} {n cap : Nat} {l : List Int} (h : Ns ik w (.slice o n cap) l) : n = l.length := by
  obtain ⟨_, o', c, he, _⟩ := h
  simp only [Value.slice.injEq] at he
  exact he.2.1

theorem intsMake (w : World) (n : Nat) (hn : n ≤ 100000) : ∃ cur, (Instr.makeSlice 34 (.int .i64 0) (.int .i64 n)).run Try.prog w = .ok (.slice (some ⟨w.heap.size, 0, none⟩) 0 n) (w.alloc (.cells cur 3)) ∧ cur.size = n := by
  obtain ⟨i0, hi0, hz0, hz1, hz2⟩ := info_parts intInfo
  have hr := run_make (P := Try.prog) w 34 3 i0 _ Try.underlying34 hi0 hz0 .i64 .i64 0 n (by omega) (by omega) (by rw [hz2]; omega) (by omega)
  exact ⟨_, hr, by rw [size_madeCells, hz1]; simp⟩
theorem Oi.made {base : Nat} {w : World} (cur : Array Value) (cap : Nat) (hb : base ≤ w.heap.size) (hm : cap ≤ maxLen) (hs : cur.size = cap) :
    Oi base (w.alloc (.cells cur 3)) (.slice (some ⟨w.heap.size, 0, none⟩) 0 cap) [] :=
  ⟨fun _ h => by simp at h, by simpa using World.ownsRow_made (size := 1) w cur cap hb hm (by simpa using hs)⟩

set_option maxHeartbeats 1000000 in
theorem intsRef (v : Value) (l : List Int) (w : World) (hv : Ns .i64 w v l) (hl : l.length ≤ 10000) :
    Calls Try.prog 90 #[v] w fun e w' => ∃ o cap, e = .returned (.slice o l.length cap) ∧ Below w.heap.size w w' ∧ Oi w.heap.size w' (.slice o l.length cap) l := by
  obtain ⟨hwf, o, c, rfl, hlc, hcm, hon, hcell⟩ := hv
  unfold maxLen at hcm
  have HCELL := Lib.hid (fun k (hk : k < l.length) => Ns.at_ hwf hcell hk)
  obtain ⟨cur, hmk, hcs⟩ := intsMake w l.length (by omega)
  have HB0 : Hid (Below w.heap.size w (w.alloc (.cells cur 3))) := Lib.hid ((Below.refl _ _).alloc (Nat.le_refl _) _)
  have HO0 : Hid (Oi w.heap.size (w.alloc (.cells cur 3)) (.slice (some ⟨w.heap.size, 0, none⟩) 0 l.length) []) := Lib.hid (Oi.made cur _ (Nat.le_refl _) (by simp [maxLen]; omega) hcs)
  clear hcell hon hcs hwf
  obtain ⟨n, hn⟩ : ∃ n, n = l.length := ⟨_, rfl⟩
  rw [← hn] at hlc hl hmk HO0 ⊢
  have HN := Lib.hid hn
  clear hn
  go_enter Try.func90, Try.ntmps90
  go_wp2_with fail
  go_loopw [3, 4] (fun s i wr => ∃ k : Nat, i = .int .i64 k ∧ (k : Int) ≤ n ∧ Hid (Below w.heap.size w wr) ∧ ∃ o' c', s = .slice o' k c' ∧ Hid (Oi w.heap.size wr (.slice o' k c') (l.take k))) (fun _ i _ => n - (intOf i).toNat)
  case atStart => exact ⟨0, rfl, by omega, HB0, _, _, rfl, by simpa using HO0⟩
  case round =>
    obtain ⟨k, rfl, hk, HBR, o', c', rfl, HOR⟩ := hrel
    by_cases hlt : (k : Int) < n
    · obtain ⟨a, x, rfl, g0, hx, hxw⟩ := HCELL.out k (by have := HN.out; omega)
      have g : wr.cell? (a.add k) = some (.int .i64 x) := by rw [HBR.out.cell (Below.lt g0)]; exact g0
      have hlen : (l.take k).length = k := by rw [List.length_take]; have := HN.out; omega
      have hsz := HBR.out.size
      obtain ⟨gb, cap, w3, hrun, ho3, hg3, _⟩ := HOR.out.append1 x hxw hsz (by rw [hlen]; omega) 3 34
      rw [hlen] at hrun ho3
      have hal : Below wr.heap.size wr (wr.alloc (.cells #[.int .i64 x] 3)) := (Below.refl _ _).alloc (Nat.le_refl _) _
      have ht : l.take k ++ [x] = l.take (k + 1) := by
        have hkl : k < l.length := by have := HN.out; omega
        rw [List.take_succ_eq_append_getElem hkl, ← getD_lt (d := 0) hkl, hx.out]
      rw [ht] at ho3
      have HB3 := Lib.hid ((HOR.out.below hal).grown hg3 (HBR.out.alloc hsz _) (Nat.le_refl _) (by simp; omega))
      have HO3 := Lib.hid ho3
      clear hal ho3 hg3 ht hlen g0 hx hxw HOR HBR hsz
      go_wp2_with (at_builtin; refine Lib.wpList_append_run _ rfl _ _ _ _ rfl _ _ rfl rfl _ _ hrun ?_)
      go_roundw
      case rel => exact ⟨k + 1, by go_num, by omega, HB3, _, _, rfl, HO3⟩
      case measure => simp [intOf]; omega
    · obtain rfl : k = n := by omega
      have hfin : l.take k = l := List.take_of_length_le (by have := HN.out; omega)
      rw [hfin] at HOR
      go_wp2_with fail
      go_ret
      exact ⟨_, _, rfl, HBR.out, HOR.out⟩

/-- the rest of a slice of ints -/
theorem Ns.post {ik : IntKind} {w : World} {a : Addr} {n cap : Nat} {l : List Int} (h : Ns ik w (.slice (some a) n cap) l) (m : Nat) (hm : m ≤ l.length) : Ns ik w (.slice (some (a.add m)) (l.length - m) (cap - m)) (l.drop m) := by
  obtain ⟨h1, o', c, he, h3, h4, h5, h6⟩ := h
  simp only [Value.slice.injEq] at he
  obtain ⟨rfl, rfl, rfl⟩ := he
  have hl : (l.drop m).length = l.length - m := List.length_drop
  refine ⟨fun x hx => h1 x (List.mem_of_mem_drop hx), some (a.add m), cap - m, by rw [hl], by omega, by omega, by simp, fun hne => ?_⟩
  obtain ⟨a', ha, hc⟩ := h6 (by rintro rfl; simp at hne)
  simp only [Option.some.injEq] at ha
  subst ha
  refine ⟨_, rfl, fun i hi => ?_⟩
  rw [hl] at hi
  have := hc (m + i) (by omega)
  rw [Go.Deep.add_add, this, getD_lt (show m + i < l.length by omega), getD_lt (show i < (l.drop m).length by omega), List.getElem_drop]
theorem intsUnder : Try.prog.underlying 34 = some (.slice (Try.prog.elem 34)) := by kernel_rfl
theorem ints_from {w : World} {o : Option Addr} {n cap : Nat} {l : List Int} (h : Ns .i64 w (.slice o n cap) l) {k : Nat} (hk : k ≤ n) :
    ∃ o' c', (∀ W, (Instr.sliceAt 34 (.slice o n cap) (some (.int .i64 (k : Int))) none none).run Try.prog W = .ok (.slice o' (n - k) c') W) ∧ Ns .i64 w (.slice o' (n - k) c') (l.drop k) := by
  have hsz : ∀ W, (sizeOf (Try.prog.elem 34)).run Try.prog W = .ok 1 W := fun W => by kernel_rfl
  have hn := Ns.len h
  have hr : ∀ W, (Instr.sliceAt 34 (.slice o n cap) (some (.int .i64 (k : Int))) none none).run Try.prog W = .ok (.slice (if cap = k then o else o.map (·.add k)) (n - k) (cap - k)) W := fun W => by
    rw [run_sliceAt_slice W 34 _ _ _ _ intsUnder, run_slice_l W 34 _ _ _ intsUnder .i64 (k : Int) (by omega) (by omega), hsz]
    simp [Result.andThen, sliced]
  refine ⟨_, _, hr, ?_⟩
  by_cases hck : cap = k
  · rw [if_pos hck]
    obtain ⟨h1, o', c, he, h3, h4, h5, h6⟩ := h
    simp only [Value.slice.injEq] at he
    obtain ⟨rfl, rfl, rfl⟩ := he
    have hl : l.drop k = [] := List.drop_eq_nil_of_le (by omega)
    rw [hl]
    exact ⟨fun x hx => by simp at hx, o, cap - k, by simp; omega, by simp, by omega, fun e => by have := h5 e; omega, fun hne => absurd rfl hne⟩
  · rw [if_neg hck]
    cases o with
    | none =>
      exfalso
      obtain ⟨h1, o', c, he, h3, h4, h5, h6⟩ := h
      simp only [Value.slice.injEq] at he
      obtain ⟨rfl, _, rfl⟩ := he
      have := h5 rfl
      omega
    | some a =>
      rw [hn]
      exact h.post k (by omega)
theorem ints_upto {w : World} {o : Option Addr} {n cap : Nat} {l : List Int} (h : Ns .i64 w (.slice o n cap) l) {k : Nat} (hk : k ≤ n) :
    ∃ o', (∀ W, (Instr.sliceAt 34 (.slice o n cap) none (some (.int .i64 (k : Int))) none).run Try.prog W = .ok (.slice o' k cap) W) ∧ Ns .i64 w (.slice o' k cap) (l.take k) := by
  have hsz : ∀ W, (sizeOf (Try.prog.elem 34)).run Try.prog W = .ok 1 W := fun W => by kernel_rfl
  have hn := Ns.len h
  have hcap : n ≤ cap := by
    obtain ⟨h1, o', c, he, h3, _⟩ := h
    simp only [Value.slice.injEq] at he
    obtain ⟨_, rfl, rfl⟩ := he
    exact h3
  refine ⟨o, fun W => ?_, h.pre k (by omega)⟩
  rw [run_sliceAt_slice W 34 _ _ _ _ intsUnder, run_slice_h W 34 _ _ _ intsUnder .i64 (k : Int) (by omega) (by omega), hsz]
  cases o with
  | none => simp [Result.andThen, sliced]
  | some a => simp [Result.andThen, sliced, Addr.add]
/-- nothing appended -/
theorem ints_append0 (w : World) (gb n cap : Nat) (h : n ≤ cap) (o : Option Addr) (c : Nat) (ty : TypeId) : (Builtin.append_ #[34, 34] ty #[.slice (some ⟨gb, 0, none⟩) n cap, .slice o 0 c]).run Try.prog w = .ok (.slice (some ⟨gb, 0, none⟩) n cap) w := by
  obtain ⟨i0, hi0, _, hz1, _⟩ := info_parts intInfo
  cases o <;> simp [Builtin.append_, run_underlying Try.underlying34, sizeOf, typeInfo, hi0, Builtin.lenOf, Builtin.firstCells, h, storeCells, loadCells, loadCellsFrom, Result.andThen]
/-- whatever is appended -/
theorem Oi.appendAny {base : Nat} {w : World} {gb0 n0 c0 : Nat} {l : List Int} (h : Oi base w (.slice (some ⟨gb0, 0, none⟩) n0 c0) l) {u : Value} {m : List Int} (hu : Ns .i64 w u m) (hbase : base ≤ w.heap.size) (hn : l.length + m.length ≤ 1000000) (ty : TypeId) :
    ∃ gb cap w', (Builtin.append_ #[34, 34] ty #[.slice (some ⟨gb0, 0, none⟩) n0 c0, u]).run Try.prog w = .ok (.slice (some ⟨gb, 0, none⟩) (l.length + m.length) cap) w' ∧
      Oi base w' (.slice (some ⟨gb, 0, none⟩) (l.length + m.length) cap) (l ++ m) ∧ w.grownBy w' (some gb0) := by
  by_cases hm : m = []
  · subst hm
    obtain ⟨_, o, c, rfl, _⟩ := hu
    have h' := h
    obtain ⟨o', cap', he, h1, h2, _, _⟩ := h'.form
    simp only [Value.slice.injEq] at he
    obtain ⟨rfl, rfl, rfl⟩ := he
    refine ⟨gb0, c0, w, ints_append0 w gb0 _ c0 h1 o c ty, ?_, World.grownBy.refl _ _⟩
    rw [List.append_nil, List.length_nil, Nat.add_zero]
    exact h
  · obtain ⟨gb, cap, w', a1, a2, a3, _⟩ := h.append u m hu hbase hn hm ty
    exact ⟨gb, cap, w', a1, a2, a3⟩
end Go.Proofs.Ytpgelebmhhcodaa
