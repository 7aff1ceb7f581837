/- Contract: block.Bytes; plain: a block's bytes. -/
import Derived.Test.YtpgelebmhhcodaaDoorGs
import Derived.Test.YtpgelebmhhcodaaDoorByteT
import Derived.Lib.SlBytesConst
namespace Go.Proofs.YtpgelebmhhcodaaDoor
open Go.RowKit
set_option linter.unusedVariables false

def blkMagic : List Int := [80, 72, 88, 66]
theorem isB_blkMagic : IsB blkMagic := by
  intro x hx
  simp only [blkMagic, List.mem_cons, List.not_mem_nil, or_false] at hx
  rcases hx with rfl | rfl | rfl | rfl <;> decide
def blkHead (e n : Int) : List Int := putL (putL (fillL blkMagic 16) 4 4 e) 8 2 n
def blkTo (e n : Int) (L : List RecD) (k : Nat) : List Int := blkHead e n ++ (L.take k).flatMap recB
/-- a block's bytes -/
def blkB (e : Int) (L : List RecD) : List Int := fillL (blkTo e L.length L L.length) 256
theorem blkHead_len (e n : Int) : (blkHead e n).length = 16 := by simp [blkHead, putL_length, fillL, blkMagic]
theorem flat40_len (L : List RecD) : (L.flatMap recB).length = 40 * L.length := by
  induction L with
  | nil => rfl
  | cons x L ih => rw [List.flatMap_cons, List.length_append, ih, recB_length, List.length_cons]; omega
theorem blkTo_len (e n : Int) (L : List RecD) (k : Nat) (hk : k ≤ L.length) : (blkTo e n L k).length = 16 + 40 * k := by
  unfold blkTo
  rw [List.length_append, blkHead_len, flat40_len, List.length_take]; omega
theorem blkTo_step (e n : Int) (L : List RecD) (k : Nat) (r : RecD) (hr : L[k]? = some r) : blkTo e n L k ++ recB r = blkTo e n L (k + 1) := by
  unfold blkTo
  rw [List.append_assoc, List.take_add_one, hr, List.flatMap_append]; simp
theorem blkB_len (e : Int) (L : List RecD) (h : L.length ≤ 6) : (blkB e L).length = 256 := by
  have h1 := fillL_length (blkTo e L.length L L.length) 256
  have h2 := blkTo_len e L.length L L.length (Nat.le_refl _)
  unfold blkB
  omega

/-- what Bytes leaves where the head may be -/
def BlkPost (w : World) (e : Int) (L : List RecD) (T : TypeId) (p : Option Addr) (en : Ending) (w' : World) : Prop :=
  Below w.heap.size w w' ∧ ((L.all okR = true ∧ ∃ o cap, en = .returned (.tuple #[.slice o 256 cap, .nilIface]) ∧ Ob 5 w.heap.size w' (.slice o 256 cap) (blkB e L)) ∨ (L.all okR = false ∧ en = .returned (.tuple #[.slice none 0 0, .iface T (.pointer p)])))
theorem BlkPost.good {w w' : World} {e : Int} {L : List RecD} {T : TypeId} {p : Option Addr} {o : Option Addr} {cap : Nat} (hb : Below w.heap.size w w') (h : L.all okR = true) (ho : Ob 5 w.heap.size w' (.slice o 256 cap) (blkB e L)) : BlkPost w e L T p (.returned (.tuple #[.slice o 256 cap, .nilIface])) w' := ⟨hb, .inl ⟨h, o, cap, rfl, ho⟩⟩
theorem BlkPost.bad {w w' : World} {e : Int} {L : List RecD} {T : TypeId} {p : Option Addr} (hb : Below w.heap.size w w') (h : L.all okR = false) : BlkPost w e L T p (.returned (.tuple #[.slice none 0 0, .iface T (.pointer p)])) w' := ⟨hb, .inr ⟨h, rfl⟩⟩

theorem Bs.litM4 {e : TypeId} {w : World} (l : List Int) (cs : Array Value) (hcs : cs = (l.map (Value.int .u8)).toArray) (n : Nat) (hn : n = l.length) (h : IsB l) (hm : l.length ≤ 1000000000000) (r : Nat × Nat) :
    Bs (w.alloc (.cells cs e r)) (.slice (some ⟨w.heap.size, 0, none⟩) n n) l := by
  subst hcs hn
  refine ⟨h, _, _, rfl, Nat.le_refl _, by unfold maxLen; omega, by simp, fun _ => ⟨_, rfl, fun i hi => ?_⟩⟩
  have hadd : (⟨w.heap.size, 0, none⟩ : Addr).add i = ⟨w.heap.size, i, none⟩ := by unfold Addr.add; split <;> simp_all
  rw [hadd, cell_of_row (w.alloc (.cells _ e r)) w.heap.size i _ e r (heap_alloc_new w _)]
  simp [hi, List.getD_eq_getElem?_getD]

set_option maxRecDepth 20000 in
set_option maxHeartbeats 2000000 in
theorem blkBytes (e : Int) (v : Value) (L : List RecD) (w : World) (he1 : 1 ≤ e) (he2 : e ≤ 1073741824) (hv : Gs w v L) (hl1 : 1 ≤ L.length) (hl6 : L.length ≤ 6) (p : Option Addr) (T : TypeId) (hE : w.cell? ⟨0, 0, none⟩ = some (.iface T (.pointer p))) :
    Calls Tryd.prog 7 #[.int .i64 e, v] w (BlkPost w e L T p) := by
  obtain ⟨hW, o, c, rfl, hlc, hcm, hon, hcell⟩ := hv
  unfold maxLen at hcm
  have HCELL := Lib.hid (fun k (hk : k < L.length) => Gs.at_ hW hcell hk)
  have hlt := Below.lt hE
  have HRB := Lib.hid (fun (r : RecD) W (hb : Below w.heap.size w W) (hr : r.W) (hok : okR r = true) => recBytes r W hr _ (by rw [hb.cell hlt]; exact hE) hok)
  have HRX := Lib.hid (fun (r : RecD) W (hb : Below w.heap.size w W) (hok : okR r = false) => recBytesBad r W 0 p T (by rw [hb.cell hlt]; exact hE) hok)
  obtain ⟨n, hn⟩ : ∃ n, n = L.length := ⟨_, rfl⟩
  rw [← hn] at hlc hl1 hl6 ⊢
  have HN := Lib.hid hn
  clear hn hcell hon hW hE hlt
  have n1 : ¬ ((n : Int) < 1) := by omega
  have n2 : ¬ ((6 : Int) < (n : Int)) := by omega
  have n3 : ¬ (n < 1) := by omega
  have n4 : ¬ (6 < n) := by omega
  have kc := fun (w : World) (C : Array Value) (n c : Nat) => Lib.run_convert_bytes_const (P := Tryd.prog) w 25 5 C n c Tryd.underlying25 Tryd.underlying5
  have hbs : Bs (w.alloc (.cells #[.int .u8 80, .int .u8 72, .int .u8 88, .int .u8 66] 5 (4, 5))) (.slice (some ⟨w.heap.size, 0, none⟩) 4 4) blkMagic := Bs.litM4 blkMagic _ rfl 4 rfl isB_blkMagic (by simp [blkMagic]) _
  have hb0 : Below w.heap.size w (w.alloc (.cells #[.int .u8 80, .int .u8 72, .int .u8 88, .int .u8 66] 5 (4, 5))) := (Below.refl _ _).alloc (Nat.le_refl _) _
  have HB0 := Lib.hid hb0
  have HF := Lib.hid (fill _ blkMagic 16 _ hbs (by simp [blkMagic]) (by omega) (by omega))
  clear hbs hb0
  go_enter Tryd.func7, Tryd.ntmps7
  go_wp2_with fail
  refine HF.out.mono ?_
  clear HF
  rintro en w1 ⟨v1, rfl, hb1, ho1⟩
  have HB1 := Lib.hid (HB0.out.trans (hb1.mono HB0.out.size))
  have HO1 := Lib.hid ho1
  have HL16 : Hid ((fillL blkMagic 16).length = 16) := Lib.hid (by simp [fillL, blkMagic])
  clear hb1 ho1 HB0
  go_wp2_with fail
  refine (put v1 (fillL blkMagic 16) 4 4 e w1 HO1.out.bs (by rw [HL16.out]; omega) (by omega) (by omega) (by omega) (by omega) (by omega) (by omega)).mono ?_
  rintro en w2 ⟨v2, rfl, hb2, ho2⟩
  have HB2 := Lib.hid (HB1.out.trans (hb2.mono HB1.out.size))
  have HO2 := Lib.hid ho2
  clear hb2 ho2 HB1 HO1
  go_wp2_with fail
  refine (put v2 _ 8 2 (n : Int) w2 HO2.out.bs (by rw [putL_length, HL16.out]; omega) (by omega) (by omega) (by omega) (by omega) (by omega) (by omega)).mono ?_
  rintro en w3 ⟨v3, rfl, hb3, ho3⟩
  have HB3 := Lib.hid (HB2.out.trans (hb3.mono HB2.out.size))
  have ho3' : Ob 5 w.heap.size w3 v3 (blkTo e n L 0) := by
    have h := ho3.mono (base' := w.heap.size) HB2.out.size
    unfold blkTo; simpa [blkHead] using h
  have HO3 := Lib.hid ho3'
  have HZ : Hid ((blkTo e n L 0).length = 16) := Lib.hid (blkTo_len _ _ _ _ (Nat.zero_le _))
  obtain ⟨_, o3, c3, rfl, _, h3m, _, _⟩ := ho3'.bs
  rw [HZ.out] at HO3 ⊢
  unfold maxLen at h3m
  clear hb3 ho3 HB2 HO2 kc ho3'
  go_wp2_with fail
  go_loopw [6, 42] (fun s i wr => ∃ k : Nat, i = .int .i64 k ∧ (k : Int) ≤ n ∧ ∃ o' n' c', s = .slice o' n' c' ∧ Hid (n' = 16 + 40 * k) ∧ Hid (∀ i, i < k → ∀ r, L[i]? = some r → okR r = true) ∧ Hid (Below w.heap.size w wr) ∧ Hid (Ob 5 w.heap.size wr (.slice o' n' c') (blkTo e n L k))) (fun _ i _ => n - (intOf i).toNat)
  case atStart => exact ⟨0, rfl, by omega, o3, 16, c3, rfl, Lib.hid rfl, Lib.hid (fun i hi => by omega), HB3, HO3⟩
  case round =>
    obtain ⟨k, rfl, hk, o', n', c', rfl, HN', HOKS, HBR, HOR⟩ := hrel
    clear HB3 HO3
    by_cases hkn : (k : Int) < n
    · obtain ⟨g, off, r, rfl, hr, hrw, q0, q1, q2, q3, q4, q5, q6, q7, q8, q9⟩ := HCELL.out k (by have := HN.out; omega)
      have e0 := (HBR.out.cell (Below.lt q0)).trans q0
      have e1 := (HBR.out.cell (Below.lt q1)).trans q1
      have e2 := (HBR.out.cell (Below.lt q2)).trans q2
      have e3 := (HBR.out.cell (Below.lt q3)).trans q3
      have e4 := (HBR.out.cell (Below.lt q4)).trans q4
      have e5 := (HBR.out.cell (Below.lt q5)).trans q5
      have e6 := (HBR.out.cell (Below.lt q6)).trans q6
      have e7 := (HBR.out.cell (Below.lt q7)).trans q7
      have e8 := (HBR.out.cell (Below.lt q8)).trans q8
      have e9 := (HBR.out.cell (Below.lt q9)).trans q9
      clear q0 q1 q2 q3 q4 q5 q6 q7 q8 q9
      obtain ⟨W4, hW4⟩ : ∃ W4, W4 = wr.alloc (.cells (recCs r) 24) := ⟨_, rfl⟩
      have hb4 : Below wr.heap.size wr W4 := by rw [hW4]; exact (Below.refl _ _).alloc (Nat.le_refl _) _
      have HR4 : Hid (RW wr.heap.size (recCs r) W4) := Lib.hid (by rw [hW4]; exact RW.new wr _)
      have HB4 := Lib.hid (HBR.out.trans (hb4.mono HBR.out.size))
      have HO4 := Lib.hid (HOR.out.below hb4)
      have HW4 := Lib.hid hW4
      have HLN := Lib.hid (recB_length r)
      have HST := Lib.hid (blkTo_step e n L k r hr)
      have HRR := Lib.hid hr
      clear hb4 hW4 hr HOR
      by_cases hok : okR r = true
      · have HBY := Lib.hid (HRB.out r W4 HB4.out hrw hok)
        have HOK1 : Hid (∀ i, i < k + 1 → ∀ r, L[i]? = some r → okR r = true) := Lib.hid (fun i hi r2 h2 => by
          by_cases hik : i = k
          · subst hik; rw [HRR.out] at h2; simp at h2; rw [← h2]; exact hok
          · exact HOKS.out i (by omega) r2 h2)
        generalize recB r = rb at HBY HLN HST
        obtain ⟨a0, a1, a2, a3, a4, a5, a6, a7, a8, a9⟩ := r
        dsimp only [recV, recCs] at HBY HR4 HW4 e0 e1 e2 e3 e4 e5 e6 e7 e8 e9
        clear hrw hok HRR HOKS
        go_upto_region 9 with fail
        rw [← HW4.out]
        generalize wr.heap.size = A at HR4 ⊢
        obtain ⟨f0, f1, f2, f3, f4, f5, f6, f7, f8, f9⟩ := HR4.out.cells
        clear HW4 HR4 HBR e0 e1 e2 e3 e4 e5 e6 e7 e8 e9
        go_wp2_with fail
        refine HBY.out.mono ?_
        clear HBY f0 f1 f2 f3 f4 f5 f6 f7 f8 f9
        rintro en w5 ⟨⟨x, rfl, hox⟩, hb5⟩
        have HB5 := Lib.hid (HB4.out.trans (hb5.mono HB4.out.size))
        have ho5 := HO4.out.below hb5
        have hrs : Rs (w5.alloc (.cells #[.slice o' n' c', x] 25)) (.slice (some ⟨w5.heap.size, 0, none⟩) 2 2) [blkTo e n L k, rb] := Rs.lit [.slice o' n' c', x] _ rfl _ 2 rfl rfl (by simp) (fun i hi => by
          have : i = 0 ∨ i = 1 := by simp at hi; omega
          rcases this with rfl | rfl
          · exact ho5.bs
          · exact hox.bs)
        have hal : Below w5.heap.size w5 (w5.alloc (.cells #[.slice o' n' c', x] 25)) := (Below.refl _ _).alloc (Nat.le_refl _) _
        have HB6 := Lib.hid (HB5.out.trans (hal.mono HB5.out.size))
        have hlen5 : (blkTo e n L k).length = 16 + 40 * k := blkTo_len _ _ _ _ (by have := HN.out; omega)
        have HJ := Lib.hid (join _ _ _ hrs (by simp [hlen5, HLN.out]; omega))
        obtain ⟨_, ox, cx, hxv, _, hxm, _, _⟩ := hox.bs
        rw [HLN.out] at hxv
        subst hxv
        clear hb5 hox ho5 hrs hal hlen5 HB4 HO4 HB5
        go_wp2_with fail
        refine HJ.out.mono ?_
        clear HJ
        rintro en w7 ⟨v7, rfl, hb7, ho7⟩
        have HB7 := Lib.hid (HB6.out.trans (hb7.mono HB6.out.size))
        have ho7' := ho7.mono (base' := w.heap.size) HB6.out.size
        have efl : [blkTo e n L k, rb].flatten = blkTo e n L (k + 1) := by rw [← HST.out]; simp
        rw [efl] at ho7'
        have hl7 : (blkTo e n L (k + 1)).length = 16 + 40 * (k + 1) := blkTo_len _ _ _ _ (by have := HN.out; omega)
        obtain ⟨_, o7, c7, rfl, _, h7m, _, _⟩ := id ho7'.bs
        rw [hl7] at ho7' ⊢
        have HO7 := Lib.hid ho7'
        clear hb7 ho7 ho7' efl HB6
        obtain ⟨n7, hn7⟩ : ∃ n7, n7 = 16 + 40 * (k + 1) := ⟨_, rfl⟩
        rw [← hn7] at HO7 ⊢
        have HN7 := Lib.hid hn7
        clear hn7 hl7
        go_wp2_with fail
        go_roundw
        case rel => exact ⟨k + 1, by go_num, by omega, o7, n7, c7, rfl, HN7, HOK1, HB7, HO7⟩
        case measure => simp [intOf]; omega
      · have hok2 : okR r = false := by simpa using hok
        have HBY := Lib.hid (HRX.out r W4 HB4.out hok2)
        have HALL : Hid (L.all okR = false) := Lib.hid (by
          rw [List.all_eq_false]
          exact ⟨r, List.mem_of_getElem? HRR.out, hok⟩)
        obtain ⟨a0, a1, a2, a3, a4, a5, a6, a7, a8, a9⟩ := r
        dsimp only [recV, recCs] at HBY HR4 HW4 e0 e1 e2 e3 e4 e5 e6 e7 e8 e9
        clear hrw hok hok2 HRR HOKS HST HLN HO4
        go_upto_region 9 with fail
        rw [← HW4.out]
        generalize wr.heap.size = A at HR4 ⊢
        obtain ⟨f0, f1, f2, f3, f4, f5, f6, f7, f8, f9⟩ := HR4.out.cells
        clear HW4 HR4 HBR e0 e1 e2 e3 e4 e5 e6 e7 e8 e9
        go_wp2_with fail
        refine HBY.out.mono ?_
        clear HBY f0 f1 f2 f3 f4 f5 f6 f7 f8 f9
        rintro en w5 ⟨rfl, hb5⟩
        have HB5 := Lib.hid (HB4.out.trans (hb5.mono HB4.out.size))
        clear hb5 HB4
        go_wp2_with fail
        go_ret2
        exact BlkPost.bad HB5.out HALL.out
    · obtain rfl : k = n := by omega
      have HALL : Hid (L.all okR = true) := Lib.hid (by
        rw [List.all_eq_true]
        intro r hr
        obtain ⟨i, hi, rfl⟩ := List.getElem_of_mem hr
        exact HOKS.out i (by rw [HN.out]; exact hi) _ (List.getElem?_eq_getElem hi))
      have hlen5 : (blkTo e k L k).length = 16 + 40 * k := blkTo_len _ _ _ _ (by have := HN.out; omega)
      have HF := Lib.hid (fill _ _ 256 wr HOR.out.bs (by rw [hlen5]; omega) (by omega) (by omega))
      clear hlen5 HOKS HOR
      go_wp2_with fail
      refine HF.out.mono ?_
      clear HF
      rintro en w5 ⟨v5, rfl, hb5, ho5⟩
      have HB5 := Lib.hid (HBR.out.trans (hb5.mono HBR.out.size))
      have ho5' : Ob 5 w.heap.size w5 v5 (blkB e L) := by
        have h := ho5.mono (base' := w.heap.size) HBR.out.size
        unfold blkB
        rw [← HN.out]
        exact h
      have hl5 := blkB_len e L (by rw [← HN.out]; exact hl6)
      obtain ⟨_, o5, c5, rfl, _, _, _, _⟩ := id ho5'.bs
      rw [hl5] at ho5' ⊢
      have HO5 := Lib.hid ho5'
      clear hb5 ho5 ho5' hl5 HBR
      go_wp2_with fail
      go_ret2
      exact BlkPost.good HB5.out HALL.out HO5.out

theorem blkRange (e : Int) (v : Value) (L : List RecD) (w : World) (he1 : -9223372036854775808 ≤ e) (he2 : e ≤ 9223372036854775807) (hv : Gs w v L) (hbad : e < 1 ∨ 1073741824 < e ∨ L.length < 1 ∨ 6 < L.length) (p : Option Addr) (T : TypeId) (hE : w.cell? ⟨0, 0, none⟩ = some (.iface T (.pointer p))) :
    Calls Tryd.prog 7 #[.int .i64 e, v] w fun en w' => en = .returned (.tuple #[.slice none 0 0, .iface T (.pointer p)]) ∧ Below w.heap.size w w' := by
  obtain ⟨hW, o, c, rfl, hlc, hcm, hon, hcell⟩ := hv
  unfold maxLen at hcm
  clear hcell hon hW
  generalize L.length = n at *
  have HB : Hid (Below w.heap.size w w.drew) := Lib.hid (Below.refl _ _).drew
  by_cases h1 : e < 1
  · go_enter Tryd.func7, Tryd.ntmps7
    go_wp2_with fail
    go_region
    go_wp2_with fail
    go_ret2
    exact ⟨rfl, HB.out⟩
  · by_cases h2 : 1073741824 < e
    · go_enter Tryd.func7, Tryd.ntmps7
      go_wp2_with fail
      go_region
      go_wp2_with fail
      go_ret2
      exact ⟨rfl, HB.out⟩
    · by_cases h3 : n < 1
      · have h3' : (n : Int) < 1 := by omega
        go_enter Tryd.func7, Tryd.ntmps7
        go_wp2_with fail
        go_region
        go_wp2_with fail
        go_ret2
        exact ⟨rfl, HB.out⟩
      · have h3' : ¬ ((n : Int) < 1) := by omega
        have h4 : 6 < n := by omega
        have h4' : (6 : Int) < (n : Int) := by omega
        go_enter Tryd.func7, Tryd.ntmps7
        go_wp2_with fail
        go_region
        go_wp2_with fail
        go_ret2
        exact ⟨rfl, HB.out⟩
end Go.Proofs.YtpgelebmhhcodaaDoor
