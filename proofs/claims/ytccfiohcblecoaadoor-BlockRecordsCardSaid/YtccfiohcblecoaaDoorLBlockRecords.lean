/- The walk of the law BlockRecords. -/
import Derived.Test.YtccfiohcblecoaaDoorBlR
import Derived.Test.YtccfiohcblecoaaDoorBlP
import Derived.Test.YtccfiohcblecoaaDoorMkRecs
import Derived.Test.YtccfiohcblecoaaDoorSame
import Derived.Test.YtccfiohcblecoaaDoorNum
import Derived.BigQuiet
import Derived.IntWalk
namespace Go.Proofs.YtccfiohcblecoaaDoor
open Go.RowKit
set_option linter.unusedVariables false

theorem rec1_laid (r : RecD) (w : World) : (Instr.buildSlice 60 1 #[(0, recV r)]).run Tryd.prog w = .ok (.slice (some ⟨w.heap.size, 0, none⟩) 1 1) (w.alloc (.cells (recCs r) 33)) := by kernel_rfl
theorem blkMagic_str : strOfNums blkMagic = ⟨#[80, 72, 88, 66]⟩ := rfl
theorem bytesUnder : Tryd.prog.underlying 46 = some (.slice (Tryd.prog.elem 46)) := by kernel_rfl
theorem blk_part {w : World} {g cap : Nat} {l : List Int} (h : Bs w (.slice (some ⟨g, 0, none⟩) 256 cap) l) (hl : l.length = 256) (k : Nat) (hk : k < 6) :
    ∃ o c, Bs w (.slice o 40 c) ((l.take (16 + 40 * (k + 1))).drop (16 + 40 * k)) ∧ c ≤ cap ∧
      ∀ W, (Instr.sliceAt 46 (.slice (some ⟨g, 0, none⟩) 256 cap) (some (.int .i64 (16 + 40 * (k : Int)))) (some (.int .i64 (16 + 40 * ((k : Int) + 1)))) none).run Tryd.prog W = .ok (.slice o 40 c) W := by
  have hcap : 256 ≤ cap := by
    obtain ⟨_, o', c, he, hc, _⟩ := h
    simp only [Value.slice.injEq] at he
    omega
  have h1 := h.sub (16 + 40 * k) (16 + 40 * (k + 1)) (by omega) (by rw [hl]; omega)
  rw [show 16 + 40 * (k + 1) - (16 + 40 * k) = 40 from by omega] at h1
  refine ⟨_, _, h1, by omega, fun W => ?_⟩
  rw [run_sliceAt_slice W 46 _ _ _ _ bytesUnder, run_slice_lh W 46 _ _ _ bytesUnder .i64 .i64 (16 + 40 * (k : Int)) (16 + 40 * ((k : Int) + 1)) (by omega) (by omega) (by omega)]
  have hsz : (sizeOf (Tryd.prog.elem 46)).run Tryd.prog W = .ok 1 W := by kernel_rfl
  have e1 : (16 + 40 * (k : Int)).toNat = 16 + 40 * k := by omega
  have e2 : (16 + 40 * ((k : Int) + 1)).toNat = 16 + 40 * (k + 1) := by omega
  rw [hsz]
  simp only [Result.andThen, sliced, e1, e2]
  rw [show 16 + 40 * (k + 1) - (16 + 40 * k) = 40 from by omega]
  simp

theorem blk_pre4 (g cap : Nat) (hcap : 256 ≤ cap) (W : World) : (Instr.sliceAt 46 (.slice (some ⟨g, 0, none⟩) 256 cap) none (some (.int .i64 4)) none).run Tryd.prog W = .ok (.slice (some ⟨g, 0, none⟩) 4 cap) W := by
  rw [run_sliceAt_slice W 46 _ _ _ _ bytesUnder, run_slice_h W 46 _ _ _ bytesUnder .i64 4 (by omega) (by omega)]
  have hsz : (sizeOf (Tryd.prog.elem 46)).run Tryd.prog W = .ok 1 W := by kernel_rfl
  rw [hsz]
  have hc0 : cap ≠ 0 := by omega
  simp [Result.andThen, sliced, Addr.add, hc0]

theorem blockRecords_idle (epoch : Int) (v : Value) (l : List Int) (w : World) (p : Option Addr) (T : TypeId) (hE : w.cell? ⟨2, 0, none⟩ = some (.iface T (.pointer p))) (hv : Ns .i64 w v l) (hbig : (150 : Int) < l.length) :
    Calls Tryd.prog 13 #[.int .i64 epoch, v] w fun e w' => e = .returned (.bool true) ∧ Below w.heap.size w w' := by
  obtain ⟨_, o, cap, rfl, hc1, hc2, hc3, _⟩ := hv
  unfold maxLen at hc2
  have HF := Lib.hid (blkFirst w p T hE)
  clear hE
  generalize l.length = n at *
  go_enter Tryd.func13, Tryd.ntmps13
  go_wp2_with fail
  refine HF.out.mono ?_
  rintro e w1 ⟨rfl, hb1⟩
  have HB1 := Lib.hid hb1
  clear hb1
  go_wp2_with fail
  go_ret
  exact ⟨rfl, HB1.out⟩

set_option maxRecDepth 20000 in
set_option maxHeartbeats 4000000 in
theorem blockRecords_walk0 (epoch : Int) (v : Value) (l : List Int) (b1 : -9223372036854775808 ≤ epoch) (b2 : epoch ≤ 9223372036854775807) (w : World) (p : Option Addr) (T : TypeId) (hE : w.cell? ⟨2, 0, none⟩ = some (.iface T (.pointer p))) (hv : Ns .i64 w v l) (hl : (l.length : Int) ≤ 150) :
    Calls Tryd.prog 13 #[.int .i64 epoch, v] w fun e w' => e = .returned (.bool true) ∧ Below w.heap.size w w' := by
  have HE := Lib.hid hE
  have HV := Lib.hid hv
  have HF := Lib.hid (blkFirst w p T hE)
  have hm0 := Int.emod_nonneg epoch (show (1000000 : Int) ≠ 0 by omega)
  have hm1 := Int.emod_lt_of_pos epoch (show (0 : Int) < 1000000 by omega)
  have HN1 := Lib.hid (fun W => number epoch 1000000 W (by omega) (by omega) b1 b2)
  generalize epoch % 1000000 = q at hm0 hm1 HN1
  obtain ⟨E, hEE⟩ : ∃ E, E = q + 1 := ⟨_, rfl⟩
  have hE1 : 1 ≤ E := by omega
  have hE2 : E ≤ 1000000 := by omega
  have HEE := Lib.hid hEE
  obtain ⟨_, o, cap, rfl, hc1, hc2, hc3, hcell⟩ := hv
  have HVL : Hid (l ≠ [] → ∀ b, (Value.slice o l.length cap).ownBlock = some b → b < w.heap.size) := Lib.hid (fun hne b e => by
    obtain ⟨a, rfl, hc⟩ := hcell hne
    have h := Below.lt (hc 0 (List.length_pos_iff.2 hne))
    have e1 : (a.add 0).block = a.block := by unfold Addr.add; split <;> rfl
    rw [e1] at h
    have e2 : a.block = b := by simpa [Value.ownBlock] using e
    omega)
  unfold maxLen at hc2
  obtain ⟨n, hn⟩ : ∃ n, n = l.length := ⟨_, rfl⟩
  rw [← hn] at hc1 hl HVL ⊢
  have HN := Lib.hid hn
  have HVN : Hid (Ns .i64 w (.slice o n cap) l) := Lib.hid (by rw [hn]; exact HV.out)
  clear hn hcell hc3 b1 b2 hEE hE HV
  go_enter Tryd.func13, Tryd.ntmps13
  go_wp2_with fail
  refine HF.out.mono ?_
  clear HF
  rintro e w1 ⟨rfl, hb1⟩
  have HB1 := Lib.hid hb1
  clear hb1
  go_wp2_with fail
  refine (HN1.out _).mono ?_
  clear HN1
  rintro e w1' ⟨rfl, rfl⟩
  go_upto_region 7 with fail
  rw [← HEE.out]
  clear HEE hm0 hm1
  have hal : Below w1.heap.size w1 (w1.alloc (.cells #[.slice o n cap, .int .i64 0] 31)) := (Below.refl _ _).alloc (Nat.le_refl _) _
  have HB2 := Lib.hid (HB1.out.trans (hal.mono HB1.out.size))
  have hv1 := (HVN.out.below HB1.out).below hal
  have hvq : l ≠ [] → (Value.slice o n cap).ownBlock ≠ some w1.heap.size := fun hne e => by
    have h1 := HVL.out hne _ e
    have h2 := HB1.out.size
    omega
  have HVQ := Lib.hid hvq
  have HR := Lib.hid (mkRecs w1.heap.size (.slice o n cap) l (w1.alloc (.cells #[.slice o n cap, .int .i64 0] 31)) 0 5 (heap_alloc_new w1 _) hv1 hvq (by have := HN.out; omega) (by omega) (by omega) (by omega) (by omega))
  have HSZ : Hid ((w1.alloc (.cells #[.slice o n cap, .int .i64 0] 31)).heap.size = w1.heap.size + 1) := Lib.hid (by simp)
  clear hal hv1 hvq
  go_wp2_with fail
  refine HR.out.mono ?_
  clear HR
  rintro e w3 ⟨L, o3, cap3, p3, rfl, ho3, hok3, hl3, hp3a, hp3b, hs3, he3⟩
  have hge : ∀ k, k = w1.heap.size → w.heap.size ≤ k := fun k h => by rw [h]; exact HB1.out.size
  have HB3 := Lib.hid (HB2.out.trans (he3.below (B := w.heap.size) hge HB2.out.size))
  have hQ : w.heap.size ≤ w1.heap.size := HB1.out.size
  rw [HSZ.out] at ho3
  generalize w1.heap.size = Q at hge hs3 he3 ho3 HVQ hQ ⊢
  have HMX := Lib.hid (makeX Q (.slice o n cap) l w3 p3 hs3 (HVN.out.below HB3.out) HVQ.out (by have := HN.out; omega) hp3a (by omega))
  have HO3 := Lib.hid ho3
  have HOK3 := Lib.hid hok3
  have hform := ho3.form
  obtain ⟨o3', cap3', hv3, hca, hcb, _, _⟩ := hform
  simp only [Value.slice.injEq] at hv3
  obtain ⟨rfl, hlx, rfl⟩ := hv3
  unfold maxLen at hcb
  obtain ⟨m, hm⟩ : ∃ m, m = L.length := ⟨_, rfl⟩
  rw [← hm] at hl3 hca HO3 ⊢
  have HM := Lib.hid hm
  have hge' : ∀ k, k = Q → w.heap.size ≤ k := fun k h => by rw [h]; exact hQ
  have HGE := Lib.hid hge'
  have HQL := Lib.hid hQ
  clear he3 hge hge' hok3 ho3 HB2 HB1 hlx hm hs3 hp3a hp3b HVN HVL HVQ HSZ hQ
  go_wp2_with fail
  refine HMX.out.mono ?_
  clear HMX
  rintro e w4 ⟨r, p4, rfl, hrw, hrok, _, _, _, he4⟩
  have HB4 := Lib.hid (HB3.out.trans (he4.below (B := w.heap.size) HGE.out HB3.out.size))
  have HO4 := Lib.hid (HO3.out.same (w' := w4) fun b e => he4.block b (HO3.out.lt e).2 (fun (h : b = Q) => by have := (HO3.out.lt e).1; omega))
  clear he4 HO3 HB3 HGE
  obtain ⟨W5, hW5⟩ : ∃ W, W = w4.alloc (.cells (recCs r) 33) := ⟨_, rfl⟩
  have hlaid := rec1_laid r w4
  rw [← hW5] at hlaid
  have hb5 : Below w4.heap.size w4 W5 := by rw [hW5]; exact (Below.refl _ _).alloc (Nat.le_refl _) _
  have hrw5 : RW w4.heap.size (recCs r) W5 := by rw [hW5]; exact RW.new w4 _
  have HB5 := Lib.hid (HB4.out.trans (hb5.mono HB4.out.size))
  have hoa := (HO4.out.mono (base' := w.heap.size) (by have := HQL.out; omega)).below hb5
  obtain ⟨gb, cap6, w6, hrun, ho6, hg6, _, _, hca6, hcb6⟩ := hoa.append1 r hrw HB5.out.size (by have := HM.out; omega) w4.heap.size hrw5 1 60
  have HB6 := Lib.hid (hoa.grown hg6 HB5.out (Nat.le_refl _) HB5.out.size)
  have hall : (L ++ [r]).all okR = true := by
    rw [List.all_eq_true]; intro x hx
    rcases List.mem_append.1 hx with h | h
    · exact HOK3.out x h
    · rw [List.mem_singleton] at h; subst h; exact hrok
  have HALL := Lib.hid hall
  have hlen : (L ++ [r]).length = m + 1 := by rw [List.length_append, ← HM.out]; rfl
  rw [← HM.out] at hrun ho6 hca6
  unfold maxLen at hcb6
  obtain ⟨LL, hLL⟩ : ∃ LL, LL = L ++ [r] := ⟨_, rfl⟩
  rw [← hLL] at HALL hlen ho6
  have HBY := Lib.hid (blkBytes E _ LL w6 hE1 (by omega) ho6.gs (by omega) (by omega) p T (by rw [HB6.out.cell (Below.lt HE.out)]; exact HE.out))
  have HO6 := Lib.hid ho6
  have HLEN := Lib.hid hlen
  clear hW5 hb5 hrw5 hoa ho6 hg6 hall hlen hLL HB5 HO4 HB4 HOK3 hrok
  generalize recV r = rv at hlaid ⊢
  generalize w4.heap.size = A at hlaid hrun
  go_wp2_with (first | (refine wpList_bs_run _ rfl _ _ _ rfl _ (by kernel_rfl) _ _ hlaid ?_) | (at_builtin; refine Lib.wpList_append_run _ rfl _ _ _ _ rfl _ _ rfl rfl _ _ hrun ?_))
  refine HBY.out.mono ?_
  clear HBY
  rintro en w7 ⟨hb7, h7⟩
  have HB7 := Lib.hid (HB6.out.trans (hb7.mono HB6.out.size))
  have HO7 := Lib.hid (HO6.out.below hb7)
  rcases h7 with ⟨_, o7, c7, rfl, ho7⟩ | ⟨hno, _⟩
  · have hl7 := blkB_len E LL (by rw [HLEN.out]; omega)
    obtain ⟨g7, cap7, hv7, _, _, hc7a, hc7b⟩ := ho7.row (ne_nil_of_lt (k := 0) (by omega))
    simp only [Value.slice.injEq] at hv7
    obtain ⟨rfl, hx7, rfl⟩ := hv7
    have x4 := ho7.cell (i := 4) (by omega)
    have x5 := ho7.cell (i := 5) (by omega)
    have x6 := ho7.cell (i := 6) (by omega)
    have x8 := ho7.cell (i := 8) (by omega)
    have heq := blkB_e E LL (by omega) (by omega)
    have hneq := blkB_n E LL (by rw [HLEN.out]; omega)
    rw [HLEN.out] at hneq
    have hg := fun i => ho7.bs.1.get (l := blkB E LL) i
    have hstr : ∀ k, (convert 46 9 (.slice (some ⟨g7, 0, none⟩) 4 c7)).run Tryd.prog (w7.drewN k) = .ok (.string ⟨#[80, 72, 88, 66]⟩) (w7.drewN k) := fun k => by
      have h := ((ho7.bs.below (bdrew _ _ k)).pre 4 (by omega)).str (P := Tryd.prog) 46 5 9 Tryd.underlying46 Tryd.underlying5 Tryd.underlying9
      rw [blkB_take4 E LL (by rw [HLEN.out]; omega), blkMagic_str] at h
      exact h
    have HBS := Lib.hid ho7.bs
    have HL7 := Lib.hid hl7
    have HSUB := Lib.hid (blkB_sub E LL)
    unfold maxLen at hc7b
    rw [hl7] at hc7a
    rw [hneq] at x8
    have g4 := hg 4
    have g5 := hg 5
    have g6 := hg 6
    generalize (blkB E LL).getD 4 0 = y4 at x4 g4 heq
    generalize (blkB E LL).getD 5 0 = y5 at x5 g5 heq
    generalize (blkB E LL).getD 6 0 = y6 at x6 g6 heq
    generalize blkB E LL = bl at HBS HL7 HSUB
    have heq2 : y4 + 256 * y5 + 65536 * y6 = E := heq
    clear hb7 ho7 hl7 hx7 hneq hg HO6 hlaid hrun heq
    have hm6 : ((m + 1 : Nat) : Int) ≤ 6 := by omega
    have sl4 := blk_pre4 g7 c7 hc7a
    have i4 := IntWalk.i64_in y4 (by omega)
    have i5 := IntWalk.i64_in y5 (by omega)
    have i6 := IntWalk.i64_in y6 (by omega)
    have j5 := IntWalk.i64_in (256 * y5) (by omega)
    have j6 := IntWalk.i64_in (65536 * y6) (by omega)
    have j45 := IntWalk.i64_in (y4 + 256 * y5) (by omega)
    have j456 := IntWalk.i64_in (y4 + 256 * y5 + 65536 * y6) (by omega)
    rw [heq2] at j456
    have im := IntWalk.i64_in ((m + 1 : Nat) : Int) (by omega)
    have im' := IntWalk.i64_in ((m : Int) + 1) (by omega)
    go_wp2_with fail
    go_quiet (fail)
    clear i4 i5 i6 j5 j6 j45 j456 im im' x4 x5 x6 x8 hstr sl4 g4 g5 g6
    go_wp2_with fail
    go_loopw [10] (fun s wr => ∃ k : Nat, s = .int .i64 k ∧ (k : Int) ≤ m + 1 ∧ Hid (Below w7.heap.size w7 wr)) (fun s _ => m + 1 - (intOf s).toNat)
    case atStart => exact ⟨0, rfl, by omega, Lib.hid (bdrew _ _ _)⟩
    case round =>
      obtain ⟨k, rfl, hk, HBR⟩ := hrel
      by_cases hkm : (k : Int) < ((m + 1 : Nat) : Int)
      · obtain ⟨g, rr, hgg, _, _, hrr, hrw2, q0, q1, q2, q3, q4, q5, q6, q7, q8, q9⟩ := (HO7.out.below HBR.out).at_ (k := k) (by rw [HLEN.out]; omega)
        simp only [Option.some.injEq, Addr.mk.injEq, and_true] at hgg
        subst hgg
        have HBW := Lib.hid (HB7.out.trans (HBR.out.mono HB7.out.size))
        have hok : okR rr = true := List.all_eq_true.1 HALL.out rr (List.mem_of_getElem? hrr)
        have HRY := Lib.hid (recBytes rr wr hrw2 _ (by rw [HBW.out.cell (Below.lt HE.out)]; exact HE.out) hok)
        have HRL := Lib.hid (recB_length rr)
        have hsub := HSUB.out k rr hrr
        obtain ⟨o9, c9, hbs9, hc9, sl9⟩ := blk_part (HBS.out.below HBR.out) HL7.out k (by omega)
        rw [hsub] at hbs9
        have HBS9 := Lib.hid hbs9
        clear hbs9 hsub hok hrr hrw2
        generalize recB rr = rb at HRY HRL HBS9
        obtain ⟨a0, a1, a2, a3, a4, a5, a6, a7, a8, a9⟩ := rr
        dsimp only [recV] at HRY q0 q1 q2 q3 q4 q5 q6 q7 q8 q9
        go_wp2_with fail
        refine HRY.out.mono ?_
        clear HRY q0 q1 q2 q3 q4 q5 q6 q7 q8 q9
        rintro en w8 ⟨⟨x, rfl, hox⟩, hb8⟩
        have HSM := Lib.hid (sameBytes x (.slice o9 40 c9) rb rb w8 hox.bs (HBS9.out.below hb8))
        rw [sameB_iff.2 rfl] at HSM
        have HB8 := Lib.hid (HBR.out.trans (hb8.mono HBR.out.size))
        obtain ⟨_, ox, cx, rfl, hcx, hxm, _, _⟩ := hox.bs
        rw [HRL.out] at HSM hcx ⊢
        unfold maxLen at hxm
        clear hb8 hox HBS9
        have k1 : ((k : Int) + 1) ≤ 6 := by omega
        go_wp2_with fail
        refine HSM.out.mono ?_
        clear HSM
        rintro en w9 ⟨rfl, d9, rfl⟩
        have HB9 := Lib.hid (HB8.out.trans (bdrew _ _ d9))
        go_wp2_with fail
        go_roundw
        case rel => exact ⟨k + 1, by go_num, by omega, HB9⟩
        case measure => simp [intOf]; omega
      · go_wp2_with fail
        go_ret
        exact ⟨rfl, HB7.out.trans (HBR.out.mono HB7.out.size)⟩
  · exact absurd hno (by rw [HALL.out]; decide)

theorem blockRecords_walk (epoch : Int) (v : Value) (l : List Int) (b1 : -9223372036854775808 ≤ epoch) (b2 : epoch ≤ 9223372036854775807) (w : World) (p : Option Addr) (T : TypeId) (hE : w.cell? ⟨2, 0, none⟩ = some (.iface T (.pointer p))) (hv : Ns .i64 w v l) :
    Calls Tryd.prog 13 #[.int .i64 epoch, v] w fun e w' => e = .returned (.bool true) ∧ Below w.heap.size w w' := by
  by_cases hl : (l.length : Int) ≤ 150
  · exact blockRecords_walk0 epoch v l b1 b2 w p T hE hv hl
  · exact blockRecords_idle epoch v l w p T hE hv (by omega)
end Go.Proofs.YtccfiohcblecoaaDoor
