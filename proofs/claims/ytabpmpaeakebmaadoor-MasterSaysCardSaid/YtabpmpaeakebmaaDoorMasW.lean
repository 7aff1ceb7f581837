/- Contract: the document's ReadMaster. -/
import Derived.Test.YtabpmpaeakebmaaDoorMasQ
import Derived.Test.YtabpmpaeakebmaaDoorMasG
import Derived.Test.YtabpmpaeakebmaaDoorMasR
import Derived.Test.YtabpmpaeakebmaaDoorGetR
import Derived.Test.YtabpmpaeakebmaaDoorSame

namespace Go.Proofs.YtabpmpaeakebmaaDoor
open Go.RowKit
set_option linter.unusedVariables false

theorem sameB_comm (l m : List Int) : sameB l m = sameB m l := by unfold sameB; congr 1; simp only [eq_iff_iff]; exact eq_comm

/-- the numbers of a sector, as far as the first k are read -/
def masRow (b : List Int) (k : Nat) : List Int := (List.range 7).map fun i => if i < k then getL b (4 + 4 * i) 4 else 0
theorem masRow_len (b : List Int) (k : Nat) : (masRow b k).length = 7 := by simp [masRow]
theorem masRow_set (b : List Int) (k : Nat) (hk : k < 7) : (masRow b k).set k (getL b (4 + 4 * k) 4) = masRow b (k + 1) := by
  apply List.ext_getElem (by simp [masRow])
  intro i h1 h2
  have h3 : i < 7 := by simpa [masRow] using h2
  simp only [masRow, List.getElem_set, List.getElem_map, List.getElem_range]
  by_cases e : k = i
  · subst e; simp
  · rw [if_neg e]; congr 1; simp only [eq_iff_iff]; omega

/-- an array of its own: seven numbers -/
structure Arr7 (B : Nat) (l : List Int) (w : World) : Prop where
  row : w.heap[B]? = some (.cells (l.map (Value.int .i64)).toArray 72 (0, 0))
  len : l.length = 7
theorem Arr7.cell {B : Nat} {l : List Int} {w : World} (h : Arr7 B l w) (k : Nat) (hk : k < 7) : w.cell? ⟨B, k, none⟩ = some (.int .i64 (l.getD k 0)) := by
  rw [cell_of_row w B k _ _ (0, 0) h.row]
  simp [List.getD_eq_getElem?_getD, show k < l.length by rw [h.len]; exact hk]
theorem Arr7.set {B : Nat} {l : List Int} {w : World} (h : Arr7 B l w) (k : Nat) (hk : k < 7) (x : Int) : Arr7 B (l.set k x) (w.setCell ⟨B, k, none⟩ (.int .i64 x)) := by
  refine ⟨?_, by simp [h.len]⟩
  obtain ⟨hlt, hk⟩ := Array.getElem?_eq_some_iff.1 h.row
  show (w.heap.modify B _)[B]? = _
  rw [Array.getElem?_eq_getElem (by rw [Array.size_modify]; exact hlt), Array.getElem_modify_self, hk]
  simp [List.map_set]
theorem Arr7.below {B : Nat} {l : List Int} {w w' : World} (h : Arr7 B l w) (hb : Below w.heap.size w w') : Arr7 B l w' :=
  ⟨by rw [hb.block _ (Array.getElem?_eq_some_iff.1 h.row).1]; exact h.row, h.len⟩

theorem masReadRefShort (v : Value) (b : List Int) (w : World) (hv : Bs w v b) (hl : b.length ≠ 256) :
    Calls Tryd.prog 25 #[v] w fun e w' => e = .returned (.tuple #[masV mas0, .int .i64 103]) ∧ Below w.heap.size w w' := by
  have hb : ∀ o1, Below w.heap.size w (w.alloc o1) := fun o1 => (Below.refl _ _).alloc (Nat.le_refl _) o1
  have h1 : ((b.length : Int) != 256) = true := by simp; omega
  obtain ⟨hB, o, cap, rfl, hc1, hc2, hc3, hc4⟩ := hv
  unfold maxLen at hc2
  clear hc4 hc3 hB
  have HB := Lib.hid hb
  clear hb
  generalize b.length = n at *
  go_enter Tryd.func25, Tryd.ntmps25
  go_wp2_with fail
  exact bodyPost_ret (v := .tuple #[masV mas0, .int .i64 103]) (by simp [results, Tryd.results25, go_sem, masV, mas0]) rfl ⟨rfl, HB.out _⟩

set_option maxHeartbeats 1000000 in
theorem masReadRefLong (v : Value) (b : List Int) (w : World) (hv : Bs w v b) (hl : b.length = 256) :
    Calls Tryd.prog 25 #[v] w fun e w' => e = .returned (.tuple #[masV (readM b).1, .int .i64 (readM b).2]) ∧ Below w.heap.size w w' := by
  have hv' := hv
  obtain ⟨hB, o, cap, rfl, hc1, hc2, hc3, hc4⟩ := hv
  unfold maxLen at hc2
  have hread : readM b = if okM (masOf b) && sameB (masB (masOf b)) b then (masOf b, 0) else (mas0, 106) := by unfold readM; rw [if_neg (by omega)]
  have HL := Lib.hid hl
  clear hc4 hc3
  rw [hl] at hc1 hv' ⊢
  have HV := Lib.hid hv'
  have HR := Lib.hid hread
  have HG := Lib.hid (fun k => getL4_bounds hB k)
  clear hv' hread hl hB
  go_enter Tryd.func25, Tryd.ntmps25
  go_wp2_with fail
  obtain ⟨W, hW⟩ : ∃ W, W = ((w.alloc (.cells #[.int .i64 0, .int .i64 0, .int .i64 0, .int .i64 0, .int .i64 0, .int .i64 0, .int .i64 0] 23)).alloc (.cells #[.int .i64 0, .int .i64 0, .int .i64 0, .int .i64 0, .int .i64 0, .int .i64 0, .int .i64 0] 72)) := ⟨_, rfl⟩
  rw [← hW]
  have hbw : Below w.heap.size w W := by rw [hW]; exact ((Below.refl _ _).alloc (Nat.le_refl _) _).alloc (by simp) _
  have hrow : W.heap[w.heap.size]? = some (.cells #[.int .i64 0, .int .i64 0, .int .i64 0, .int .i64 0, .int .i64 0, .int .i64 0, .int .i64 0] 23 (0, 0)) := by
    have h1 := heap_alloc_new w (.cells #[.int .i64 0, .int .i64 0, .int .i64 0, .int .i64 0, .int .i64 0, .int .i64 0, .int .i64 0] 23)
    rw [hW, (Below.refl _ _).alloc (Nat.le_refl _) _ |>.block _ (by simp)]
    exact h1
  have harr : Arr7 (w.heap.size + 1) (masRow b 0) W := by
    refine ⟨?_, masRow_len _ _⟩
    have := heap_alloc_new (w.alloc (.cells #[.int .i64 0, .int .i64 0, .int .i64 0, .int .i64 0, .int .i64 0, .int .i64 0, .int .i64 0] 23)) (.cells #[.int .i64 0, .int .i64 0, .int .i64 0, .int .i64 0, .int .i64 0, .int .i64 0, .int .i64 0] 72)
    have hm0 : masRow b 0 = [0, 0, 0, 0, 0, 0, 0] := rfl
    rw [hm0]
    rw [← hW] at this; simpa using this
  have hsz : W.heap.size = w.heap.size + 2 := by rw [hW]; simp
  clear hW
  have HBW := Lib.hid hbw
  have HROW := Lib.hid hrow
  clear hrow hbw
  have HARR := Lib.hid harr
  clear harr
  go_loopw [5] (fun i wr => ∃ k : Nat, i = .int .i64 k ∧ k ≤ 7 ∧ Hid (Below w.heap.size w wr) ∧ Hid (Arr7 (w.heap.size + 1) (masRow b k) wr) ∧ Hid (wr.heap[w.heap.size]? = some (.cells #[.int .i64 0, .int .i64 0, .int .i64 0, .int .i64 0, .int .i64 0, .int .i64 0, .int .i64 0] 23 (0, 0))) ∧ wr.heap.size = w.heap.size + 2) (fun i _ => 7 - (intOf i).toNat)
  case atStart => exact ⟨0, rfl, by omega, HBW, HARR, HROW, hsz⟩
  case round =>
    clear hsz HARR HROW HBW
    obtain ⟨k, rfl, hk, hbr, har, hrr, hsr⟩ := hrel
    by_cases hlt7 : k < 7
    · have hget := getRef _ b (4 + 4 * k) 4 wr (HV.out.below hbr.out) (by rw [HL.out]; omega) (by omega) (by omega) (by omega) (by omega)
      have hgb := HG.out (4 + 4 * (k : Int))
      have hcc := har.out.cell k hlt7
      have hfz := rowFrozen har.out.row k
      have hset := fun x => har.out.set k hlt7 x
      have hst := masRow_set b k hlt7
      generalize getL b (4 + 4 * (k : Int)) 4 = x at hget hgb hst
      have HST := Lib.hid hst
      have HSET := Lib.hid hset
      have HGET := Lib.hid hget
      clear hst hset hget har
      generalize (masRow b k).getD k 0 = y at hcc
      have hk7 : (k : Int) < 7 := by omega
      go_wp2_with fail
      refine HGET.out.mono ?_
      rintro e w1 ⟨rfl, rfl⟩
      go_wp2_with fail
      go_roundw
      case rel =>
        have h0 := HSET.out x
        rw [HST.out] at h0
        have hr0 : (wr.setCell ⟨w.heap.size + 1, k, none⟩ (.int .i64 x)).heap[w.heap.size]? = wr.heap[w.heap.size]? := by
          show (wr.heap.modify (w.heap.size + 1) _)[w.heap.size]? = wr.heap[w.heap.size]?
          rw [Array.getElem?_modify, if_neg (by omega)]
        refine ⟨k + 1, by go_num, by omega, Below.setCell (p := ⟨w.heap.size + 1, k, none⟩) hbr.out (by simp) _, h0, ?_, ?_⟩
        · show _ = _
          rw [hr0]; exact hrr.out
        · show (wr.heap.modify (w.heap.size + 1) _).size = _
          rw [Array.size_modify]; exact hsr
      case measure => simp [intOf]; omega
    · obtain rfl : k = 7 := by omega
      have hc := har.out.cell
      have c0 := hc 0 (by omega); have c1 := hc 1 (by omega); have c2 := hc 2 (by omega); have c3 := hc 3 (by omega); have c4 := hc 4 (by omega); have c5 := hc 5 (by omega); have c6 := hc 6 (by omega)
      have hof : masOf b = ⟨getL b (4 + 4 * (0 : Nat)) 4, getL b (4 + 4 * (1 : Nat)) 4, getL b (4 + 4 * (2 : Nat)) 4, getL b (4 + 4 * (3 : Nat)) 4, getL b (4 + 4 * (4 : Nat)) 4, getL b (4 + 4 * (5 : Nat)) 4, getL b (4 + 4 * (6 : Nat)) 4⟩ := rfl
      have hrw : masRow b 7 = [getL b (4 + 4 * (0 : Nat)) 4, getL b (4 + 4 * (1 : Nat)) 4, getL b (4 + 4 * (2 : Nat)) 4, getL b (4 + 4 * (3 : Nat)) 4, getL b (4 + 4 * (4 : Nat)) 4, getL b (4 + 4 * (5 : Nat)) 4, getL b (4 + 4 * (6 : Nat)) 4] := rfl
      rw [hrw] at c0 c1 c2 c3 c4 c5 c6
      clear hrw hc har
      simp only [List.getD_cons_zero, List.getD_cons_succ] at c0 c1 c2 c3 c4 c5 c6
      generalize getL b (4 + 4 * (0 : Nat)) 4 = n0 at hof c0
      generalize getL b (4 + 4 * (1 : Nat)) 4 = n1 at hof c1
      generalize getL b (4 + 4 * (2 : Nat)) 4 = n2 at hof c2
      generalize getL b (4 + 4 * (3 : Nat)) 4 = n3 at hof c3
      generalize getL b (4 + 4 * (4 : Nat)) 4 = n4 at hof c4
      generalize getL b (4 + 4 * (5 : Nat)) 4 = n5 at hof c5
      generalize getL b (4 + 4 * (6 : Nat)) 4 = n6 at hof c6
      have HOF := Lib.hid hof
      have HSR := Lib.hid hsr
      clear hof hsr
      go_wp2_with fail
      clear c0 c1 c2 c3 c4 c5 c6
      obtain ⟨X, hX⟩ : ∃ X, X = (wr.alloc (.cells #[.int .i64 n0, .int .i64 n1, .int .i64 n2, .int .i64 n3, .int .i64 n4, .int .i64 n5, .int .i64 n6] 23)) := ⟨_, rfl⟩
      rw [← hX]
      have hbx : Below wr.heap.size wr X := by rw [hX]; exact (Below.refl _ _).alloc (Nat.le_refl _) _
      have hbx2 : ∀ Y, Below X.heap.size X Y → Y.cell? ⟨wr.heap.size, 0, none⟩ = some (.int .i64 n0) ∧ Y.cell? ⟨wr.heap.size, 1, none⟩ = some (.int .i64 n1) ∧ Y.cell? ⟨wr.heap.size, 2, none⟩ = some (.int .i64 n2) ∧ Y.cell? ⟨wr.heap.size, 3, none⟩ = some (.int .i64 n3) ∧ Y.cell? ⟨wr.heap.size, 4, none⟩ = some (.int .i64 n4) ∧ Y.cell? ⟨wr.heap.size, 5, none⟩ = some (.int .i64 n5) ∧ Y.cell? ⟨wr.heap.size, 6, none⟩ = some (.int .i64 n6) ∧ wr.heap.size < Y.heap.size := fun Y h => by rw [hX] at h; exact after7 h
      clear hX
      have hbwx := hbr.out.trans (hbx.mono hbr.out.size)
      have hrx : X.heap[w.heap.size]? = _ := (hbx.block _ (by have := HSR.out; omega)).trans hrr.out
      have HX2 := Lib.hid hbx2
      have HBX := Lib.hid hbwx
      have HRX := Lib.hid hrx
      have hgm := goodMaster (masOf b) X
      have hmb := fun Y (h : okM (masOf b) = true) => masterBytesRef (masOf b) Y h
      rw [HOF.out] at hgm
      dsimp only [masV] at hgm
      rw [← HOF.out] at hgm
      have HGM := Lib.hid hgm
      have HMB := Lib.hid hmb
      clear hgm hmb hbx hbx2 hbwx hrx hrr hbr
      generalize hq : okM (masOf b) = q at HGM
      have HQ := Lib.hid hq
      clear hq
      refine HGM.out.mono ?_
      rintro e w2 ⟨rfl, hb2⟩
      obtain ⟨d0, d1, d2, d3, d4, d5, d6, dz⟩ := HX2.out _ hb2
      have hb4 := HBX.out.trans (hb2.mono HBX.out.size)
      have hr2 := HRX.out
      rw [← hb2.block _ (by have := HBX.out.size; have := (Array.getElem?_eq_some_iff.1 HRX.out).1; omega)] at hr2
      cases q with
      | false =>
        have hres : readM b = (mas0, 106) := by rw [HR.out, HQ.out]; rfl
        have HRES := Lib.hid hres
        obtain ⟨r0, r1, r2, r3, r4, r5, r6⟩ := row7 hr2
        have hfz := rowFrozen hr2
        have HB4 := Lib.hid hb4
        clear hres hr2 hb2 hb4
        go_wp2_with fail
        refine bodyPost_ret (v := .tuple #[masV mas0, .int .i64 106]) (by simp [results, Tryd.results25, go_sem, masV, mas0, r0, r1, r2, r3, r4, r5, r6]) rfl ⟨by rw [HRES.out], ?_⟩
        have hh := fun (w' : World) (h : Below w.heap.size w w') (i : Nat) (v : Value) => h.setCell (p := ⟨w.heap.size, i, none⟩) (by simp) v
        exact hh _ (hh _ (hh _ (hh _ (hh _ (hh _ (hh _ HB4.out _ _) _ _) _ _) _ _) _ _) _ _) _ _
      | true =>
        have hmb := HMB.out w2 HQ.out
        rw [HOF.out] at hmb
        dsimp only [masV] at hmb
        rw [← HOF.out] at hmb
        have HMB2 := Lib.hid hmb
        have HB4 := Lib.hid hb4
        have HB2 := Lib.hid hb2
        have HR2 := Lib.hid hr2
        clear hmb hb4 hb2 hr2
        go_wp2_with fail
        refine HMB2.out.mono ?_
        rintro e w3 ⟨⟨v3, rfl, hob⟩, hb3⟩
        have hb5 := HB4.out.trans (hb3.mono HB4.out.size)
        have hb23 := HB2.out.trans (hb3.mono HB2.out.size)
        clear d0 d1 d2 d3 d4 d5 d6 dz HMB2
        obtain ⟨d0, d1, d2, d3, d4, d5, d6, dz⟩ := HX2.out _ hb23
        have hr3 := HR2.out
        rw [← hb3.block _ (by have := (Array.getElem?_eq_some_iff.1 HR2.out).1; omega)] at hr3
        have hsame := same_calls _ _ _ _ w3 (HV.out.below hb5) hob.bs
        obtain ⟨r0, r1, r2, r3, r4, r5, r6⟩ := row7 hr3
        have hfz := rowFrozen hr3
        have hsm : sameB b (masB (masOf b)) = sameB (masB (masOf b)) b := sameB_comm _ _
        rw [hsm] at hsame
        have HSAME := Lib.hid hsame
        have HB5 := Lib.hid hb5
        clear hsame hb3 hb5 hb23 hr3 hsm hob
        generalize hs : sameB (masB (masOf b)) b = s at HSAME
        have HSM := Lib.hid hs
        clear hs
        go_wp2_with fail
        refine HSAME.out.mono ?_
        rintro e w4 ⟨rfl, nd, rfl⟩
        cases s with
        | true =>
          have hres : readM b = (masOf b, 0) := by rw [HR.out, HQ.out, HSM.out]; rfl
          have HRES := Lib.hid hres
          clear hres
          go_wp2_with fail
          refine bodyPost_ret (v := .tuple #[masV ⟨n0, n1, n2, n3, n4, n5, n6⟩, .int .i64 0]) (by simp [results, Tryd.results25, go_sem, masV, mas0, r0, r1, r2, r3, r4, r5, r6]) rfl ⟨by rw [HRES.out, HOF.out], ?_⟩
          have hh := fun (w' : World) (h : Below w.heap.size w w') (i : Nat) (v : Value) => h.setCell (p := ⟨w.heap.size, i, none⟩) (by simp) v
          exact hh _ (hh _ (hh _ (hh _ (hh _ (hh _ (hh _ (HB5.out.trans (bdrew _ _ _)) _ _) _ _) _ _) _ _) _ _) _ _) _ _
        | false =>
          have hres : readM b = (mas0, 106) := by rw [HR.out, HQ.out, HSM.out]; rfl
          have HRES := Lib.hid hres
          clear hres
          go_wp2_with fail
          refine bodyPost_ret (v := .tuple #[masV mas0, .int .i64 106]) (by simp [results, Tryd.results25, go_sem, masV, mas0, r0, r1, r2, r3, r4, r5, r6]) rfl ⟨by rw [HRES.out], ?_⟩
          have hh := fun (w' : World) (h : Below w.heap.size w w') (i : Nat) (v : Value) => h.setCell (p := ⟨w.heap.size, i, none⟩) (by simp) v
          exact hh _ (hh _ (hh _ (hh _ (hh _ (hh _ (hh _ (HB5.out.trans (bdrew _ _ _)) _ _) _ _) _ _) _ _) _ _) _ _) _ _

theorem masReadRef (v : Value) (b : List Int) (w : World) (hv : Bs w v b) :
    Calls Tryd.prog 25 #[v] w fun e w' => e = .returned (.tuple #[masV (readM b).1, .int .i64 (readM b).2]) ∧ Below w.heap.size w w' := by
  by_cases hl : b.length = 256
  · exact masReadRefLong v b w hv hl
  · have e : readM b = (mas0, 103) := by unfold readM; rw [if_pos hl]
    rw [e]
    exact masReadRefShort v b w hv hl
end Go.Proofs.YtabpmpaeakebmaaDoor
