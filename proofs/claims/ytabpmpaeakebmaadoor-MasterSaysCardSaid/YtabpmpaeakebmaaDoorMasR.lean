/- Contract: master.Read. -/
import Derived.Test.YtabpmpaeakebmaaDoorMasB
import Derived.Test.YtabpmpaeakebmaaDoorMasRow
import Derived.Test.YtabpmpaeakebmaaDoorGet
import Derived.Test.YtabpmpaeakebmaaDoorBEq
import Derived.Test.YtabpmpaeakebmaaDoorErC
namespace Go.Proofs.YtabpmpaeakebmaaDoor
open Go.RowKit
set_option linter.unusedVariables false

theorem getL4_bounds {l : List Int} (hl : IsB l) (at_ : Int) : 0 ≤ getL l at_ 4 ∧ getL l at_ 4 < 4294967296 := getTo_bounds hl at_ 4

/-- the number k of a sector -/
theorem masNum (a : Addr) (v : Value) (b : List Int) (k : Int) (w : World) (hc : w.cell? a = some v) (hv : Bs w v b) (hl : b.length ≤ 1000000000000) (h0 : 0 ≤ k) (h1 : k ≤ 6) :
    Calls Tryd.prog 44 #[.int .i64 k, .pointer (some a)] w fun e w' => e = .returned (.int .i64 (getL b (4 + 4 * k) 4)) ∧ w = w' := by
  have hg := getL4_bounds hv.1 (4 + 4 * k)
  have hget := get v b (4 + 4 * k) 4 w hv hl (by omega) (by omega) (by omega) (by omega)
  have HG := Lib.hid hget
  clear hget
  generalize getL b (4 + 4 * k) 4 = x at HG hg
  obtain ⟨_, o, c, rfl, _, _, _, _⟩ := hv
  go_enter Tryd.func44, Tryd.ntmps44
  go_wp2_with fail
  refine HG.out.mono ?_
  rintro e w1 ⟨rfl, rfl⟩
  go_wp2_with fail
  go_ret
  exact ⟨rfl, rfl⟩

theorem masReadShort (v : Value) (b : List Int) (w : World) (hv : Bs w v b) (eS : Value) (hE : w.cell? ⟨1, 0, none⟩ = some eS) (hl : b.length ≠ 256) :
    Calls Tryd.prog 24 #[v] w fun e w' => e = .returned (.tuple #[masV mas0, eS]) ∧ Below w.heap.size w w' := by
  have hb : ∀ o1 o2, Below w.heap.size w ((w.alloc o1).alloc o2) := fun o1 o2 => ((Below.refl _ _).alloc (Nat.le_refl _) o1).alloc (by simp) o2
  have hlt := Below.lt hE
  have h1 : ((b.length : Int) != 256) = true := by simp; omega
  obtain ⟨hB, o, cap, rfl, hc1, hc2, hc3, hc4⟩ := hv
  unfold maxLen at hc2
  clear hc4 hc3 hB
  have HB := Lib.hid hb
  clear hb
  generalize b.length = n at *
  have ce : ((w.alloc (.cells #[.slice o n cap] 24)).alloc (.cells #[.int .i64 0, .int .i64 0, .int .i64 0, .int .i64 0, .int .i64 0, .int .i64 0, .int .i64 0] 23)).cell? ⟨1, 0, none⟩ = some eS := by rw [(HB.out _ _).cell hlt]; exact hE
  go_enter Tryd.func24, Tryd.ntmps24
  go_wp2_with fail
  go_region
  go_wp2_with fail
  exact bodyPost_ret (v := .tuple #[masV mas0, eS]) (by simp [results, Tryd.results24, go_sem, masV, mas0]) rfl ⟨rfl, (HB.out _ _).drew⟩

set_option maxHeartbeats 1000000 in
theorem masReadLong {ea : Nat → Addr} (v : Value) (b : List Int) (w : World) (hv : Bs w v b) (hs : Sen ea w) (hl : b.length = 256) :
    Calls Tryd.prog 24 #[v] w fun e w' => e = .returned (.tuple #[masV (readM b).1, eC ea (readM b).2]) ∧ Below w.heap.size w w' := by
  have hv' := hv
  obtain ⟨hB, o, cap, rfl, hc1, hc2, hc3, hc4⟩ := hv
  unfold maxLen at hc2
  have hread : readM b = if okM (masOf b) && sameB (masB (masOf b)) b then (masOf b, 0) else (mas0, 106) := by unfold readM; rw [if_neg (by omega)]
  have HL := Lib.hid hl
  clear hc4 hc3
  rw [hl] at hc1 hv' ⊢
  have HV := Lib.hid hv'
  have HS := Lib.hid hs
  have HR := Lib.hid hread
  clear hv' hs hread hl
  have hmf : ∀ (fn : Fn) (first cap : Array Value) (w : World), (Instr.makeFunc fn first cap).run Tryd.prog w = .ok (.func fn first cap) w := fun _ _ _ _ => rfl
  go_enter Tryd.func24, Tryd.ntmps24
  go_wp2_with fail
  obtain ⟨W, hW⟩ : ∃ W, W = ((w.alloc (.cells #[.slice o 256 cap] 24)).alloc (.cells #[.int .i64 0, .int .i64 0, .int .i64 0, .int .i64 0, .int .i64 0, .int .i64 0, .int .i64 0] 23)) := ⟨_, rfl⟩
  rw [← hW]
  have hbw : Below w.heap.size w W := by rw [hW]; exact ((Below.refl _ _).alloc (Nat.le_refl _) _).alloc (by simp) _
  have hcb : W.cell? ⟨w.heap.size, 0, none⟩ = some (.slice o 256 cap) := by rw [hW]; simp [go_sem]
  have hfz : ∀ i, W.frozen? ⟨w.heap.size + 1, i, none⟩ = false := fun i => by rw [hW]; simp [go_sem]
  have hsz : W.heap.size = w.heap.size + 2 := by rw [hW]; simp
  have hrow : W.heap[w.heap.size + 1]? = some (.cells #[.int .i64 0, .int .i64 0, .int .i64 0, .int .i64 0, .int .i64 0, .int .i64 0, .int .i64 0] 23 (0, 0)) := by
    have := heap_alloc_new (w.alloc (.cells #[.slice o 256 cap] 24)) (.cells #[.int .i64 0, .int .i64 0, .int .i64 0, .int .i64 0, .int .i64 0, .int .i64 0, .int .i64 0] 23)
    rw [← hW] at this; simpa using this
  clear hW
  have HN := Lib.hid (fun k (h0 : 0 ≤ k) (h1 : k ≤ 6) => masNum ⟨w.heap.size, 0, none⟩ _ b k _ hcb (HV.out.below hbw) (by rw [HL.out]; omega) h0 h1)
  have HBW := Lib.hid hbw
  have HC := Lib.hid hcb
  have HFZ := Lib.hid hfz
  have HROW := Lib.hid hrow
  have HSZ := Lib.hid hsz
  have hof : masOf b = ⟨getL b (4 + 4 * 0) 4, getL b (4 + 4 * 1) 4, getL b (4 + 4 * 2) 4, getL b (4 + 4 * 3) 4, getL b (4 + 4 * 4) 4, getL b (4 + 4 * 5) 4, getL b (4 + 4 * 6) 4⟩ := rfl
  have HOF := Lib.hid hof
  clear hbw hcb hfz hrow hsz hof
  refine (HN.out 0 (by omega) (by omega)).mono ?_
  rintro e w1 ⟨rfl, rfl⟩
  generalize getL b (4 + 4 * 0) 4 = n0 at HOF ⊢
  go_wp2_with fail
  refine (HN.out 1 (by omega) (by omega)).mono ?_
  rintro e w1 ⟨rfl, rfl⟩
  generalize getL b (4 + 4 * 1) 4 = n1 at HOF ⊢
  go_wp2_with fail
  refine (HN.out 2 (by omega) (by omega)).mono ?_
  rintro e w1 ⟨rfl, rfl⟩
  generalize getL b (4 + 4 * 2) 4 = n2 at HOF ⊢
  go_wp2_with fail
  refine (HN.out 3 (by omega) (by omega)).mono ?_
  rintro e w1 ⟨rfl, rfl⟩
  generalize getL b (4 + 4 * 3) 4 = n3 at HOF ⊢
  go_wp2_with fail
  refine (HN.out 4 (by omega) (by omega)).mono ?_
  rintro e w1 ⟨rfl, rfl⟩
  generalize getL b (4 + 4 * 4) 4 = n4 at HOF ⊢
  go_wp2_with fail
  refine (HN.out 5 (by omega) (by omega)).mono ?_
  rintro e w1 ⟨rfl, rfl⟩
  generalize getL b (4 + 4 * 5) 4 = n5 at HOF ⊢
  go_wp2_with fail
  refine (HN.out 6 (by omega) (by omega)).mono ?_
  rintro e w1 ⟨rfl, rfl⟩
  generalize getL b (4 + 4 * 6) 4 = n6 at HOF ⊢
  clear HN hmf
  go_wp2_with fail
  obtain ⟨X, hX⟩ : ∃ X, X = (W.alloc (.cells #[.int .i64 n0, .int .i64 n1, .int .i64 n2, .int .i64 n3, .int .i64 n4, .int .i64 n5, .int .i64 n6] 23)) := ⟨_, rfl⟩
  rw [← hX]
  have hbx : Below W.heap.size W X := by rw [hX]; exact (Below.refl _ _).alloc (Nat.le_refl _) _
  have hbx2 : ∀ Y, Below X.heap.size X Y → Y.cell? ⟨W.heap.size, 0, none⟩ = some (.int .i64 n0) ∧ Y.cell? ⟨W.heap.size, 1, none⟩ = some (.int .i64 n1) ∧ Y.cell? ⟨W.heap.size, 2, none⟩ = some (.int .i64 n2) ∧ Y.cell? ⟨W.heap.size, 3, none⟩ = some (.int .i64 n3) ∧ Y.cell? ⟨W.heap.size, 4, none⟩ = some (.int .i64 n4) ∧ Y.cell? ⟨W.heap.size, 5, none⟩ = some (.int .i64 n5) ∧ Y.cell? ⟨W.heap.size, 6, none⟩ = some (.int .i64 n6) ∧ W.heap.size < Y.heap.size := fun Y h => by rw [hX] at h; exact after7 h
  clear hX
  have HX := Lib.hid hbx
  have HX2 := Lib.hid hbx2
  clear hbx hbx2
  have hbwx := HBW.out.trans (HX.out.mono HBW.out.size)
  have hsx := HS.out.below hbwx
  have e1 := hsx.cell 1 (by decide)
  simp only [gE, eV, List.getD_cons_zero, List.getD_cons_succ] at e1
  have HBX := Lib.hid hbwx
  have HSX := Lib.hid hsx
  clear hbwx hsx
  by_cases hok : okM (masOf b) = true
  · have hby := masBytes (masOf b) X _ e1 hok
    rw [HOF.out] at hby
    dsimp only [masV] at hby
    have HBY := Lib.hid hby
    have HOK := Lib.hid hok
    clear hby hok e1
    refine HBY.out.mono ?_
    rintro e w2 ⟨⟨v2, rfl, hob⟩, hb2⟩
    clear HBY
    have hb3 := HX.out.trans (hb2.mono HX.out.size)
    have hb4 := HBX.out.trans (hb2.mono HBX.out.size)
    have hbs := HV.out.below hb4
    have hcb : w2.cell? ⟨w.heap.size, 0, none⟩ = some (.slice o 256 cap) := by rw [hb3.cell (by have := HSZ.out; simp; omega)]; exact HC.out
    have hrow := HROW.out
    rw [← hb3.block _ (by have := HSZ.out; omega)] at hrow
    obtain ⟨r0, r1, r2, r3, r4, r5, r6⟩ := row7 hrow
    have hfz := rowFrozen hrow
    obtain ⟨d0, d1, d2, d3, d4, d5, d6, dz⟩ := HX2.out _ hb2
    have e5 := (HS.out.below hb4).cell 5 (by decide)
    simp only [gE, eV, List.getD_cons_zero, List.getD_cons_succ] at e5
    have hwz : w.heap.size + 1 < W.heap.size := by have := HSZ.out; omega
    have hg2 := Below.lt (HS.out.cell 5 (by decide))
    simp only [gE, List.getD_cons_zero, List.getD_cons_succ] at hg2
    have hBE := bytesEqual v2 _ _ b w2 hob.bs hbs
    rw [← HOF.out] at hBE
    have HB4 := Lib.hid hb4
    have HBE := Lib.hid hBE
    clear hb2 hb3 hb4 hob hbs hrow hBE
    generalize hq : sameB (masB (masOf b)) b = q at HBE
    have HQ := Lib.hid hq
    clear hq
    go_wp2_with fail
    refine HBE.out.mono ?_
    rintro e w3 ⟨rfl, rfl⟩
    cases q with
    | true =>
      have hres : readM b = (masOf b, 0) := by rw [HR.out, HOK.out, HQ.out]; rfl
      have HRES := Lib.hid hres
      clear hres
      go_wp2_with fail
      refine bodyPost_ret (v := .tuple #[masV ⟨n0, n1, n2, n3, n4, n5, n6⟩, .nilIface]) (by simp [results, Tryd.results24, go_sem, masV, r0, r1, r2, r3, r4, r5, r6]) rfl ⟨by rw [HRES.out, HOF.out]; rfl, ?_⟩
      have hh := fun (w' : World) (h : Below w.heap.size w w') (i : Nat) (v : Value) => h.setCell (p := ⟨w.heap.size + 1, i, none⟩) (by simp) v
      exact hh _ (hh _ (hh _ (hh _ (hh _ (hh _ (hh _ HB4.out _ _) _ _) _ _) _ _) _ _) _ _) _ _
    | false =>
      have hres : readM b = (mas0, 106) := by rw [HR.out, HOK.out, HQ.out]; rfl
      have HRES := Lib.hid hres
      clear hres
      go_wp2_with fail
      go_region
      go_wp2_with fail
      refine bodyPost_ret (v := .tuple #[masV mas0, eV ea 5]) (by simp [results, Tryd.results24, go_sem, masV, mas0, eV, r0, r1, r2, r3, r4, r5, r6]) rfl ⟨by rw [HRES.out]; rfl, ?_⟩
      have hh := fun (w' : World) (h : Below w.heap.size w w') (i : Nat) (v : Value) => h.setCell (p := ⟨w.heap.size + 1, i, none⟩) (by simp) v
      exact (hh _ (hh _ (hh _ (hh _ (hh _ (hh _ (hh _ HB4.out _ _) _ _) _ _) _ _) _ _) _ _) _ _).drew
  · have hok2 : okM (masOf b) = false := by simpa using hok
    have hby := masBytesBad (masOf b) X _ _ e1 hok2
    rw [HOF.out] at hby
    dsimp only [masV] at hby
    have HBY := Lib.hid hby
    have hres : readM b = (mas0, 106) := by rw [HR.out, hok2]; rfl
    have HRES := Lib.hid hres
    clear hby hok hok2 e1 hres
    refine HBY.out.mono ?_
    rintro e w2 ⟨rfl, hb2⟩
    clear HBY
    have hb3 := HX.out.trans (hb2.mono HX.out.size)
    have hb4 := HBX.out.trans (hb2.mono HBX.out.size)
    have hrow := HROW.out
    rw [← hb3.block _ (by have := HSZ.out; omega)] at hrow
    obtain ⟨r0, r1, r2, r3, r4, r5, r6⟩ := row7 hrow
    have hfz := rowFrozen hrow
    have e5 := (HS.out.below hb4).cell 5 (by decide)
    simp only [gE, eV, List.getD_cons_zero, List.getD_cons_succ] at e5
    have hwz : w.heap.size + 1 < W.heap.size := by have := HSZ.out; omega
    have hg2 := Below.lt (HS.out.cell 5 (by decide))
    simp only [gE, List.getD_cons_zero, List.getD_cons_succ] at hg2
    have HB4 := Lib.hid hb4
    clear hb2 hb3 hb4 hrow
    go_wp2_with fail
    go_region
    go_wp2_with fail
    refine bodyPost_ret (v := .tuple #[masV mas0, eV ea 5]) (by simp [results, Tryd.results24, go_sem, masV, mas0, eV, r0, r1, r2, r3, r4, r5, r6]) rfl ⟨by rw [HRES.out]; rfl, ?_⟩
    have hh := fun (w' : World) (h : Below w.heap.size w w') (i : Nat) (v : Value) => h.setCell (p := ⟨w.heap.size + 1, i, none⟩) (by simp) v
    exact (hh _ (hh _ (hh _ (hh _ (hh _ (hh _ (hh _ HB4.out _ _) _ _) _ _) _ _) _ _) _ _) _ _).drew

/-- Read -/
theorem masRead {ea : Nat → Addr} (v : Value) (b : List Int) (w : World) (hv : Bs w v b) (hs : Sen ea w) :
    Calls Tryd.prog 24 #[v] w fun e w' => e = .returned (.tuple #[masV (readM b).1, eC ea (readM b).2]) ∧ Below w.heap.size w w' := by
  by_cases hl : b.length = 256
  · exact masReadLong v b w hv hs hl
  · have h := masReadShort v b w hv _ (hs.cell 2 (by decide)) hl
    have e : readM b = (mas0, 103) := by unfold readM; rw [if_pos hl]
    rw [e]
    exact h
theorem readM_okC (b : List Int) : OkC (readM b).2 := by
  unfold readM OkC; split
  · simp
  · split <;> simp
end Go.Proofs.YtabpmpaeakebmaaDoor
