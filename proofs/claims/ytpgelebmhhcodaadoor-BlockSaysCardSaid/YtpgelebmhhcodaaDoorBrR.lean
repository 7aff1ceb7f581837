/- Contract: the document's ReadBlock. -/
import Derived.Test.YtpgelebmhhcodaaDoorBrB
import Derived.Test.YtpgelebmhhcodaaDoorBlL
import Derived.Test.YtpgelebmhhcodaaDoorRecY
import Derived.Test.YtpgelebmhhcodaaDoorByteT
namespace Go.Proofs.YtpgelebmhhcodaaDoor
open Go.RowKit
set_option linter.unusedVariables false

theorem blk_partD {w : World} {a : Addr} {cap : Nat} {l : List Int} (h : Bs w (.slice (some a) 256 cap) l) (hl : l.length = 256) (k : Nat) (hk : k < 6) :
    ∃ o c, Bs w (.slice o 40 c) (partB l k) ∧
      ∀ W, (Instr.sliceAt 25 (.slice (some a) 256 cap) (some (.int .i64 (16 + 40 * (k : Int)))) (some (.int .i64 (16 + 40 * ((k : Int) + 1)))) none).run Tryd.prog W = .ok (.slice o 40 c) W := by
  obtain ⟨o, c, h1, _, h2⟩ := blk_partR h hl k hk
  refine ⟨o, c, h1, fun W => ?_⟩
  rw [show (16 + 40 * (k : Int)) = 16 + (k : Int) * 40 by omega, show (16 + 40 * ((k : Int) + 1)) = 16 + (k : Int) * 40 + 40 by omega]
  exact h2 W
/-- what ReadBlock leaves -/
def RRPost (w : World) (b : List Int) (en : Ending) (w' : World) : Prop :=
  Below w.heap.size w w' ∧ ∃ v, en = .returned (.tuple #[.int .i64 (readBlk b).1, v, .int .i64 (readBlk b).2.2]) ∧ Gs w' v (readBlk b).2.1
theorem RRPost.of {w w' : World} {b : List Int} {E c : Int} {R : List RecD} {v : Value} (hb : Below w.heap.size w w') (h : readBlk b = (E, R, c)) (hg : Gs w' v R) : RRPost w b (.returned (.tuple #[.int .i64 E, v, .int .i64 c])) w' := by
  refine ⟨hb, v, ?_, ?_⟩ <;> rw [h]
  exact hg
set_option maxRecDepth 20000 in
set_option maxHeartbeats 4000000 in
theorem rbRef (v : Value) (b : List Int) (w : World) (hv : Bs w v b) :
    Calls Tryd.prog 14 #[v] w (RRPost w b) := by
  by_cases hl : b.length = 256
  · have HZ := Lib.hid (zeroRef v b w hv)
    cases hz : allZ b with
    | true =>
      rw [hz] at HZ
      have HRB : Hid (readBlk b = (0, [], 0)) := Lib.hid (by unfold readBlk; rw [if_neg (by simp [hl]), hz]; rfl)
      obtain ⟨hB, o, c, rfl, hlc, hcm, hon, hcell⟩ := hv
      unfold maxLen at hcm
      rw [hl] at HZ hlc ⊢
      clear hcell hon hB hz
      go_enter Tryd.func14, Tryd.ntmps14
      go_wp2_with fail
      refine HZ.out.mono ?_
      clear HZ
      rintro en w1 ⟨rfl, rfl⟩
      go_wp2_with fail
      exact bodyPost_ret (v := .tuple #[.int .i64 0, .slice none 0 0, .int .i64 0]) (by simp [results, Tryd.results14, go_sem]) rfl (RRPost.of (Below.refl _ _) HRB.out (Gs.nil _))
    | false =>
      rw [hz] at HZ
      have HG4 := Lib.hid (getRef v b 4 4 w hv (by omega) (by omega) (by omega) (by omega) (by omega))
      have HG2 := Lib.hid (getRef v b 8 2 w hv (by omega) (by omega) (by omega) (by omega) (by omega))
      have HV := Lib.hid hv
      obtain ⟨g0, g1, g2, g3⟩ := getL_lt hv.1
      have HNO := Lib.hid (readBlk_no hl hz)
      have HYES := Lib.hid (readBlk_yes hl hz)
      have HMB : Hid ((manyB b : Int) = min (getL b 8 2) 6) := Lib.hid (by unfold manyB; omega)
      obtain ⟨hB, o, c, rfl, hlc, hcm, hon, hcell⟩ := hv
      unfold maxLen at hcm
      obtain ⟨a, rfl, _⟩ := hcell (ne_nil_of_lt (k := 0) (by omega))
      have HBB := Lib.hid hB
      have HL := Lib.hid hl
      rw [hl] at hlc HV HZ HG4 HG2 ⊢
      clear hcell hon hB hz
      generalize getL b 4 4 = E at *
      generalize getL b 8 2 = M at *
      obtain ⟨m, hm⟩ : ∃ m, m = manyB b := ⟨_, rfl⟩
      have hm6 : (m : Int) ≤ 6 := by rw [hm]; have := HMB.out; omega
      have hmI : min M 6 = (m : Int) := by rw [hm]; exact HMB.out.symm
      rw [← hm] at HNO HYES
      clear hm HMB
      go_enter Tryd.func14, Tryd.ntmps14
      go_wp2_with fail
      refine HZ.out.mono ?_
      clear HZ
      rintro en w1 ⟨rfl, rfl⟩
      go_wp2_with fail
      refine HG4.out.mono ?_
      clear HG4
      rintro en w1 ⟨rfl, rfl⟩
      go_wp2_with fail
      refine HG2.out.mono ?_
      clear HG2
      rintro en w1 ⟨rfl, rfl⟩
      go_wp2_with fail
      go_loopw [7, 8] (fun s7 s8 wr => ∃ k : Nat, s8 = .int .i64 k ∧ (k : Int) ≤ m ∧ ∃ o' n' c', s7 = .slice o' n' c' ∧ Hid (n' = k) ∧ Hid (okTo b k = true) ∧ Hid (Below w.heap.size w wr) ∧ Hid (Og w.heap.size wr (.slice o' n' c') (readTo b k))) (fun _ s8 _ => m - (intOf s8).toNat)
      case atStart => exact ⟨0, rfl, by omega, none, 0, 0, rfl, Lib.hid rfl, Lib.hid rfl, Lib.hid (Below.refl _ _), Lib.hid Og.nil⟩
      case round =>
        obtain ⟨k, rfl, hk, o', n', c', rfl, HN', HOK, HBR, HOR⟩ := hrel
        by_cases hkm : (k : Int) < m
        · have hk6 : k < 6 := by omega
          obtain ⟨op, cp, hbp, hsl⟩ := blk_partD (HV.out.below HBR.out) HL.out k hk6
          have hpl : (partB b k).length = 40 := by
            obtain ⟨_, _, _, he, _⟩ := hbp
            simp only [Value.slice.injEq] at he
            exact he.2.1.symm
          have hrd := recReadRef _ _ wr hbp
          have hrW := readR_W hbp.1
          have hts := readTo_succ b k
          have hos := okTo_succ b k
          rw [HOK.out, Bool.true_and] at hos
          have hfin := fun (hk : k < m) (h : (readR (partB b k)).2 ≠ 0) => HNO.out (.inl (okTo_false hk h))
          have hcode := readR_code hpl
          have HBP := Lib.hid hbp
          clear hbp hpl
          generalize (readR (partB b k)).1 = r at hrd hrW hts
          generalize (readR (partB b k)).2 = cd at hrd hos hfin hcode
          rcases hcode with rfl | rfl
          · have HOK1 : Hid (okTo b (k + 1) = true) := Lib.hid hos
            have HTS := Lib.hid hts
            have HRD := Lib.hid hrd
            have HRW := Lib.hid hrW
            clear hrd hts hos hfin hrW HBP
            go_wp2_with fail
            all_goals
              refine HRD.out.mono ?_
              clear HRD hsl
              rintro en w5 ⟨rfl, hb5⟩
              obtain ⟨W6, hW6⟩ : ∃ W, W = w5.alloc (.cells (recCs r) 24) := ⟨_, rfl⟩
              have hb6 : Below w5.heap.size w5 W6 := by rw [hW6]; exact (Below.refl _ _).alloc (Nat.le_refl _) _
              have HR6 : Hid (RW w5.heap.size (recCs r) W6) := Lib.hid (by rw [hW6]; exact RW.new w5 _)
              have hb56 := HBR.out.trans (hb5.mono HBR.out.size)
              have HB6 := Lib.hid (hb56.trans (hb6.mono hb56.size))
              have HO6 := Lib.hid ((HOR.out.below hb5).below hb6)
              have HW6 := Lib.hid hW6
              clear hb5 hb6 hb56 hW6 HOR HBR
              obtain ⟨W7, hW7⟩ : ∃ W, W = W6.alloc (.cells (recCs r) 24) := ⟨_, rfl⟩
              have hb7 : Below W6.heap.size W6 W7 := by rw [hW7]; exact (Below.refl _ _).alloc (Nat.le_refl _) _
              have hr7 : RW W6.heap.size (recCs r) W7 := by rw [hW7]; exact RW.new W6 _
              have hb67 := HB6.out.trans (hb7.mono HB6.out.size)
              obtain ⟨gb, cap, w8, hrun, ho8, hg8, _, _, hca8, hcb8⟩ := (HO6.out.below hb7).append1 r HRW.out hb67.size (by rw [readTo_len]; omega) W6.heap.size hr7 1 30
              have HB8 := Lib.hid ((HO6.out.below hb7).grown hg8 hb67 (Nat.le_refl _) hb67.size)
              have hlaid := recV_laidR r W6
              rw [← hW7] at hlaid
              rw [← HTS.out] at ho8
              rw [readTo_len] at ho8 hrun hca8
              have HO8 := Lib.hid ho8
              unfold maxLen at hcb8
              clear hb7 hr7 hb67 hg8 ho8 hW7 HTS HRW
              obtain ⟨a0, a1, a2, a3, a4, a5, a6, a7, a8, a9⟩ := r
              dsimp only [recV, recCs] at HR6 HW6 hlaid ⊢
              go_upto_region 12 with fail
              rw [← HW6.out]
              generalize w5.heap.size = A at HR6 ⊢
              obtain ⟨f0, f1, f2, f3, f4, f5, f6, f7, f8, f9⟩ := HR6.out.cells
              clear HW6 HR6
              have hnn := HN'.out
              subst hnn
              go_wp2_with (first | (refine wpList_bs_run _ rfl _ _ _ rfl _ (by kernel_rfl) _ _ hlaid ?_) | (at_builtin; refine Lib.wpList_append_run _ rfl _ _ _ _ rfl _ _ rfl rfl _ _ hrun ?_))
              go_roundw
              case rel => exact ⟨n' + 1, by go_num, by omega, _, _, _, rfl, Lib.hid rfl, HOK1, HB8, HO8⟩
              case measure => simp [intOf]; omega
          · have HRB : Hid (readBlk b = (0, [], 105)) := Lib.hid (hfin (by omega) (by omega))
            have HRD := Lib.hid hrd
            clear hrd hts hos hfin hrW HBP HOK HOR
            go_wp2_with fail
            all_goals
              refine HRD.out.mono ?_
              clear HRD hsl
              rintro en w5 ⟨rfl, hb5⟩
              obtain ⟨W6, hW6⟩ : ∃ W, W = w5.alloc (.cells (recCs r) 24) := ⟨_, rfl⟩
              have hb6 : Below w5.heap.size w5 W6 := by rw [hW6]; exact (Below.refl _ _).alloc (Nat.le_refl _) _
              have hb56 := HBR.out.trans (hb5.mono HBR.out.size)
              have HB6 := Lib.hid (hb56.trans (hb6.mono hb56.size))
              have HW6 := Lib.hid hW6
              clear hb5 hb6 hb56 hW6 HBR
              obtain ⟨a0, a1, a2, a3, a4, a5, a6, a7, a8, a9⟩ := r
              dsimp only [recV, recCs] at HW6 ⊢
              go_upto_region 12 with fail
              rw [← HW6.out]
              clear HW6
              go_wp2_with fail
              exact bodyPost_ret (v := .tuple #[.int .i64 0, .slice none 0 0, .int .i64 105]) (by simp [results, Tryd.results14, go_sem]) rfl (RRPost.of HB6.out HRB.out (Gs.nil _))
        · obtain rfl : k = m := by omega
          have HBY := Lib.hid (bbRef E _ _ wr (by omega) (by omega) HOR.out.gs)
          go_wp2_with fail
          all_goals
            refine HBY.out.mono ?_
            clear HBY
            rintro en w5 ⟨hb5, h5⟩
            have HB5 := Lib.hid (HBR.out.trans (hb5.mono HBR.out.size))
            have HO5 := Lib.hid (HOR.out.below hb5)
            clear hb5
            have HIN : Hid (bbOk E (readTo b k) = decide (1 ≤ E ∧ E ≤ 1073741824 ∧ 1 ≤ k)) := Lib.hid (by
              unfold bbOk inB
              rw [readTo_len, okTo_all HOK.out, Bool.and_true]
              have k6 : decide ((k : Int) ≤ 6) = true := decide_eq_true hm6
              rw [k6, Bool.and_true]
              by_cases h1 : 1 ≤ E <;> by_cases h2 : E ≤ 1073741824 <;> by_cases h3 : 1 ≤ k <;> simp [h1, h2, h3] <;> omega)
            rcases h5 with ⟨hyes, ob, cb, rfl, hob⟩ | ⟨hno, rfl⟩
            · have hin : 1 ≤ E ∧ E ≤ 1073741824 ∧ 1 ≤ k := by rw [HIN.out] at hyes; simpa using hyes
              have HEQ := Lib.hid (sameBytes _ _ b _ w5 (HV.out.below HB5.out) hob.bs)
              clear hob hyes
              by_cases hsm : blkB E (readTo b k) = b
              · have HRB := Lib.hid (HYES.out HOK.out hin hsm)
                rw [sameB_iff.2 hsm.symm] at HEQ
                clear hsm
                go_wp2_with fail
                refine HEQ.out.mono ?_
                clear HEQ
                rintro en w6 ⟨rfl, nd, rfl⟩
                go_wp2_with fail
                exact bodyPost_ret (v := .tuple #[.int .i64 E, .slice o' n' c', .int .i64 0]) (by simp [results, Tryd.results14, go_sem]) rfl (RRPost.of (HB5.out.trans (bdrew _ _ _)) HRB.out (HO5.out.gs.below (bdrew _ _ _)))
              · have HRB := Lib.hid (HNO.out (.inr (.inr hsm)))
                have hsf : sameB b (blkB E (readTo b k)) = false := by
                  cases h : sameB b (blkB E (readTo b k)) with
                  | false => rfl
                  | true => exact absurd (sameB_iff.1 h).symm hsm
                rw [hsf] at HEQ
                clear hsm hsf
                go_wp2_with fail
                refine HEQ.out.mono ?_
                clear HEQ
                rintro en w6 ⟨rfl, nd, rfl⟩
                go_wp2_with fail
                exact bodyPost_ret (v := .tuple #[.int .i64 0, .slice none 0 0, .int .i64 105]) (by simp [results, Tryd.results14, go_sem]) rfl (RRPost.of (HB5.out.trans (bdrew _ _ _)) HRB.out (Gs.nil _))
            · have hin : ¬ (1 ≤ E ∧ E ≤ 1073741824 ∧ 1 ≤ k) := by
                rw [HIN.out] at hno
                exact of_decide_eq_false hno
              have HRB := Lib.hid (HNO.out (.inr (.inl hin)))
              clear hin hno
              go_wp2_with fail
              exact bodyPost_ret (v := .tuple #[.int .i64 0, .slice none 0 0, .int .i64 105]) (by simp [results, Tryd.results14, go_sem]) rfl (RRPost.of HB5.out HRB.out (Gs.nil _))
  · have HRB : Hid (readBlk b = (0, [], 103)) := Lib.hid (by unfold readBlk; rw [if_pos hl])
    obtain ⟨hB, o, c, rfl, hlc, hcm, hon, hcell⟩ := hv
    unfold maxLen at hcm
    have h1 : ((b.length : Int) != 256) = true := by simp; omega
    clear hcell hon hB
    generalize b.length = n at *
    go_enter Tryd.func14, Tryd.ntmps14
    go_wp2_with fail
    exact bodyPost_ret (v := .tuple #[.int .i64 0, .slice none 0 0, .int .i64 103]) (by simp [results, Tryd.results14, go_sem]) rfl (RRPost.of (Below.refl _ _) HRB.out (Gs.nil _))
end Go.Proofs.YtpgelebmhhcodaaDoor
