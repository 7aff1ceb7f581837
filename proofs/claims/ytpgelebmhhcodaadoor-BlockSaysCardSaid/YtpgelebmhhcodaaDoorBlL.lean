/- Contract: block.Read, the long way. -/
import Derived.Test.YtpgelebmhhcodaaDoorBlR
import Derived.Test.YtpgelebmhhcodaaDoorBlQ
import Derived.Test.YtpgelebmhhcodaaDoorRecR
import Derived.Test.YtpgelebmhhcodaaDoorByteT
import Derived.Deep.Cut
import Derived.BigQuiet
namespace Go.Proofs.YtpgelebmhhcodaaDoor
open Go.RowKit
set_option linter.unusedVariables false

theorem bytesUnderR : Tryd.prog.underlying 25 = some (.slice (Tryd.prog.elem 25)) := by kernel_rfl
theorem blk_partR {w : World} {a : Addr} {cap : Nat} {l : List Int} (h : Bs w (.slice (some a) 256 cap) l) (hl : l.length = 256) (k : Nat) (hk : k < 6) :
    ∃ o c, Bs w (.slice o 40 c) (partB l k) ∧ c ≤ cap ∧
      ∀ W, (Instr.sliceAt 25 (.slice (some a) 256 cap) (some (.int .i64 (16 + (k : Int) * 40))) (some (.int .i64 (16 + (k : Int) * 40 + 40))) none).run Tryd.prog W = .ok (.slice o 40 c) W := by
  have hcap : 256 ≤ cap := by
    obtain ⟨_, o', c, he, hc, _⟩ := h
    simp only [Value.slice.injEq] at he
    omega
  have h1 := h.sub (16 + 40 * k) (16 + 40 * (k + 1)) (by omega) (by rw [hl]; omega)
  rw [show 16 + 40 * (k + 1) - (16 + 40 * k) = 40 from by omega] at h1
  refine ⟨_, _, h1, by omega, fun W => ?_⟩
  rw [run_sliceAt_slice W 25 _ _ _ _ bytesUnderR, run_slice_lh W 25 _ _ _ bytesUnderR .i64 .i64 (16 + (k : Int) * 40) (16 + (k : Int) * 40 + 40) (by omega) (by omega) (by omega)]
  have hsz : (sizeOf (Tryd.prog.elem 25)).run Tryd.prog W = .ok 1 W := by kernel_rfl
  have e1 : (16 + (k : Int) * 40).toNat = 16 + 40 * k := by omega
  have e2 : (16 + (k : Int) * 40 + 40).toNat = 16 + 40 * (k + 1) := by omega
  rw [hsz]
  simp only [Result.andThen, sliced, e1, e2]
  rw [show 16 + 40 * (k + 1) - (16 + 40 * k) = 40 from by omega]
  simp


theorem recV_laidR (r : RecD) (w : World) : (Instr.buildSlice 30 1 #[(0, recV r)]).run Tryd.prog w = .ok (.slice (some ⟨w.heap.size, 0, none⟩) 1 1) (w.alloc (.cells (recCs r) 24)) := by kernel_rfl

/-- what Read leaves, where the bytes are 256 and not all zeros -/
def RdPost (w : World) (b : List Int) (T : TypeId) (p : Option Addr) (en : Ending) (w' : World) : Prop :=
  Below w.heap.size w w' ∧ ((∃ o cap, (readBlk b).2.2 = 0 ∧ en = .returned (.tuple #[.int .i64 (readBlk b).1, .slice o (readBlk b).2.1.length cap, .nilIface]) ∧ Og w.heap.size w' (.slice o (readBlk b).2.1.length cap) (readBlk b).2.1) ∨
    (readBlk b = (0, [], 105) ∧ en = .returned (.tuple #[.int .i64 0, .slice none 0 0, .iface T (.pointer p)])))

theorem okTo_all {b : List Int} {k : Nat} (h : okTo b k = true) : (readTo b k).all okR = true := by
  unfold okTo at h
  unfold readTo
  rw [List.all_eq_true] at h ⊢
  intro r hr
  rw [List.mem_map] at hr
  obtain ⟨i, hi, rfl⟩ := hr
  exact (readR_ok (by simpa using h i hi)).2
theorem RdPost.no {w w' : World} {b : List Int} {T : TypeId} {p : Option Addr} (hb : Below w.heap.size w w') (h : readBlk b = (0, [], 105)) : RdPost w b T p (.returned (.tuple #[.int .i64 0, .slice none 0 0, .iface T (.pointer p)])) w' := ⟨hb, .inr ⟨h, rfl⟩⟩
theorem RdPost.yes {w w' : World} {b : List Int} {T : TypeId} {p : Option Addr} {E : Int} {R : List RecD} {n : Nat} {o : Option Addr} {cap : Nat} (hb : Below w.heap.size w w') (h : readBlk b = (E, R, 0)) (hn : n = R.length) (ho : Og w.heap.size w' (.slice o n cap) R) : RdPost w b T p (.returned (.tuple #[.int .i64 E, .slice o n cap, .nilIface])) w' := by
  subst hn
  refine ⟨hb, .inl ⟨o, cap, ?_⟩⟩
  rw [h]
  exact ⟨rfl, rfl, ho⟩

set_option maxRecDepth 20000 in
set_option maxHeartbeats 4000000 in
theorem blkReadLong {ea : Nat → Addr} (v : Value) (b : List Int) (w : World) (hv : Bs w v b) (hs : E3 ea w) (p : Option Addr) (T : TypeId) (hE : w.cell? ⟨2, 0, none⟩ = some (.iface T (.pointer p))) (hl : b.length = 256) (hz : allZ b = false) :
    Calls Tryd.prog 13 #[v] w (RdPost w b T p) := by
  have HZ := Lib.hid (zero v b w hv)
  rw [hz] at HZ
  have HG4 := Lib.hid (get v b 4 4 w hv (by omega) (by omega) (by omega) (by omega) (by omega))
  have HG2 := Lib.hid (get v b 8 2 w hv (by omega) (by omega) (by omega) (by omega) (by omega))
  have HV := Lib.hid hv
  have HS := Lib.hid hs
  have HE := Lib.hid hE
  obtain ⟨g0, g1, g2, g3⟩ := getL_lt hv.1
  have HNO := Lib.hid (readBlk_no hl hz)
  have HYES := Lib.hid (readBlk_yes hl hz)
  have HMB : Hid ((manyB b : Int) = min (getL b 8 2) 6) := Lib.hid (by unfold manyB; omega)
  obtain ⟨hB, o, c, rfl, hlc, hcm, hon, hcell⟩ := hv
  unfold maxLen at hcm
  obtain ⟨a, rfl, _⟩ := hcell (ne_nil_of_lt (k := 0) (by omega))
  have HBB := Lib.hid hB
  have HL := Lib.hid hl
  rw [hl] at hlc HV HZ HG4 HG2 ⊢
  clear hcell hon hB hs hE hz
  generalize getL b 4 4 = E at *
  generalize getL b 8 2 = M at *
  obtain ⟨m, hm⟩ : ∃ m, m = manyB b := ⟨_, rfl⟩
  have hm6 : (m : Int) ≤ 6 := by rw [hm]; have := HMB.out; omega
  have hmI : (m : Int) = min M 6 := by rw [hm]; exact HMB.out
  rw [← hm] at HNO HYES
  clear hm HMB
  go_enter Tryd.func13, Tryd.ntmps13
  go_wp2_with fail
  refine HZ.out.mono ?_
  clear HZ
  rintro en w1 ⟨rfl, rfl⟩
  go_wp2_with fail
  refine HG4.out.mono ?_
  clear HG4
  rintro en w1 ⟨rfl, rfl⟩
  go_wp2_with fail
  refine HG2.out.mono ?_
  clear HG2
  rintro en w1 ⟨rfl, rfl⟩
  go_upto_region 7 with fail
  go_cut [29, 30] from 31 (fun s29 s30 wx => s29 = .int .i64 m ∧ s30 = .int .i64 0 ∧ wx = w)
  case first =>
    go_wp2_with fail
    all_goals
      go_meet
      exact ⟨by congr 1; omega, rfl, rfl⟩
  obtain ⟨rfl, rfl, hwx⟩ := hcut
  have hwx' := hwx.symm
  clear hwx
  subst hwx'
  have HMI := Lib.hid hmI
  clear hmI
  go_wp2_with fail
  go_loopw [7, 30] (fun s i wr => ∃ k : Nat, i = .int .i64 k ∧ (k : Int) ≤ m ∧ ∃ o' n' c', s = .slice o' n' c' ∧ Hid (n' = k) ∧ Hid (okTo b k = true) ∧ Hid (Below w.heap.size w wr) ∧ Hid (Og w.heap.size wr (.slice o' n' c') (readTo b k))) (fun _ i _ => m - (intOf i).toNat)
  case atStart => exact ⟨0, rfl, by omega, none, 0, 0, rfl, Lib.hid rfl, Lib.hid rfl, Lib.hid (Below.refl _ _), Lib.hid Og.nil⟩
  case round =>
    obtain ⟨k, rfl, hk, o', n', c', rfl, HN', HOK, HBR, HOR⟩ := hrel
    by_cases hkm : (k : Int) < m
    · have hk6 : k < 6 := by omega
      obtain ⟨op, cp, hbp, hcp, hsl⟩ := blk_partR (HV.out.below HBR.out) HL.out k hk6
      have hpl : (partB b k).length = 40 := by
        obtain ⟨_, _, _, he, _⟩ := hbp
        simp only [Value.slice.injEq] at he
        exact he.2.1.symm
      have hrd := recRead _ _ wr hbp (HS.out.below HBR.out)
      have hrW := readR_W hbp.1
      have hts := readTo_succ b k
      have hos := okTo_succ b k
      rw [HOK.out, Bool.true_and] at hos
      have hfin := fun (hk : k < m) (h : (readR (partB b k)).2 ≠ 0) => HNO.out (.inl (okTo_false hk h))
      have hcode := readR_code hpl
      have HBP := Lib.hid hbp
      clear hbp hpl
      generalize (readR (partB b k)).1 = r at hrd hrW hts
      generalize (readR (partB b k)).2 = cd at hrd hos hfin hcode
      rcases hcode with rfl | rfl
      · have HOK1 : Hid (okTo b (k + 1) = true) := Lib.hid hos
        have HTS := Lib.hid hts
        rw [eC_zero] at hrd
        have HRD := Lib.hid hrd
        have HRW := Lib.hid hrW
        clear hrd hts hos hfin hrW HBP
        go_wp2_with fail
        refine HRD.out.mono ?_
        clear HRD hsl
        rintro en w5 ⟨rfl, hb5⟩
        obtain ⟨W6, hW6⟩ : ∃ W, W = w5.alloc (.cells (recCs r) 24) := ⟨_, rfl⟩
        have hb6 : Below w5.heap.size w5 W6 := by rw [hW6]; exact (Below.refl _ _).alloc (Nat.le_refl _) _
        have HR6 : Hid (RW w5.heap.size (recCs r) W6) := Lib.hid (by rw [hW6]; exact RW.new w5 _)
        have hb56 := HBR.out.trans (hb5.mono HBR.out.size)
        have HB6 := Lib.hid (hb56.trans (hb6.mono hb56.size))
        have HO6 := Lib.hid ((HOR.out.below hb5).below hb6)
        have HW6 := Lib.hid hW6
        clear hb5 hb6 hb56 hW6 HOR HBR
        obtain ⟨W7, hW7⟩ : ∃ W, W = W6.alloc (.cells (recCs r) 24) := ⟨_, rfl⟩
        have hb7 : Below W6.heap.size W6 W7 := by rw [hW7]; exact (Below.refl _ _).alloc (Nat.le_refl _) _
        have hr7 : RW W6.heap.size (recCs r) W7 := by rw [hW7]; exact RW.new W6 _
        have hb67 := HB6.out.trans (hb7.mono HB6.out.size)
        obtain ⟨gb, cap, w8, hrun, ho8, hg8, _, _, hca8, hcb8⟩ := (HO6.out.below hb7).append1 r HRW.out hb67.size (by rw [readTo_len]; omega) W6.heap.size hr7 1 30
        have HB8 := Lib.hid ((HO6.out.below hb7).grown hg8 hb67 (Nat.le_refl _) hb67.size)
        have hlaid := recV_laidR r W6
        rw [← hW7] at hlaid
        rw [← HTS.out] at ho8
        rw [readTo_len] at ho8 hrun hca8
        have HO8 := Lib.hid ho8
        unfold maxLen at hcb8
        clear hb7 hr7 hb67 hg8 ho8 hW7 HTS HRW
        obtain ⟨a0, a1, a2, a3, a4, a5, a6, a7, a8, a9⟩ := r
        dsimp only [recV, recCs] at HR6 HW6 hlaid ⊢
        go_upto_region 12 with fail
        rw [← HW6.out]
        generalize w5.heap.size = A at HR6 ⊢
        obtain ⟨f0, f1, f2, f3, f4, f5, f6, f7, f8, f9⟩ := HR6.out.cells
        clear HW6 HR6
        go_wp2_with (first | (refine wpList_bs_run _ rfl _ _ _ rfl _ (by kernel_rfl) _ _ hlaid ?_) | (at_builtin; refine Lib.wpList_append_run _ rfl _ _ _ _ rfl _ _ rfl rfl _ _ hrun ?_))
        go_roundw
        case rel => exact ⟨k + 1, by go_num, by omega, _, _, _, rfl, Lib.hid rfl, HOK1, HB8, HO8⟩
        case measure => simp [intOf]; omega
      · have HRB : Hid (readBlk b = (0, [], 105)) := Lib.hid (hfin (by omega) (by omega))
        have hec : eC ea 104 = .iface 91 (.pointer (some (ea 3))) := rfl
        rw [hec] at hrd
        have HRD := Lib.hid hrd
        clear hrd hts hos hfin hrW HBP hec HOK HOR
        go_wp2_with fail
        refine HRD.out.mono ?_
        clear HRD hsl
        rintro en w5 ⟨rfl, hb5⟩
        obtain ⟨W6, hW6⟩ : ∃ W, W = w5.alloc (.cells (recCs r) 24) := ⟨_, rfl⟩
        have hb6 : Below w5.heap.size w5 W6 := by rw [hW6]; exact (Below.refl _ _).alloc (Nat.le_refl _) _
        have hb56 := HBR.out.trans (hb5.mono HBR.out.size)
        have HB6 := Lib.hid (hb56.trans (hb6.mono hb56.size))
        have HW6 := Lib.hid hW6
        clear hb5 hb6 hb56 hW6 HBR
        have hE6 := (HB6.out.cell (Below.lt HE.out)).trans HE.out
        obtain ⟨a0, a1, a2, a3, a4, a5, a6, a7, a8, a9⟩ := r
        dsimp only [recV, recCs] at HW6 ⊢
        go_upto_region 12 with fail
        rw [← HW6.out]
        clear HW6
        go_wp2_with fail
        go_quiet (fail)
        go_wp2_with fail
        exact bodyPost_ret (v := .tuple #[.int .i64 0, .slice none 0 0, .iface T (.pointer p)]) (by simp [results, Tryd.results13, go_sem]) rfl (RdPost.no (HB6.out.trans (bdrew _ _ _)) HRB.out)
    · obtain rfl : k = m := by omega
      by_cases hin : 1 ≤ E ∧ E ≤ 1073741824 ∧ 1 ≤ k
      · have hby := blkBytes E _ _ wr hin.1 hin.2.1 HOR.out.gs (by rw [readTo_len]; omega) (by rw [readTo_len]; omega) (some (ea 1)) 91 ((HBR.out.cell (Below.lt HS.out.r)).trans HS.out.r)
        have HBY := Lib.hid hby
        clear hby
        go_wp2_with fail
        refine HBY.out.mono ?_
        clear HBY
        rintro en w5 ⟨hb5, h5⟩
        have HB5 := Lib.hid (HBR.out.trans (hb5.mono HBR.out.size))
        have HO5 := Lib.hid (HOR.out.below hb5)
        have hE5 := (HB5.out.cell (Below.lt HE.out)).trans HE.out
        clear hb5
        rcases h5 with ⟨_, ob, cb, rfl, hob⟩ | ⟨hno, _⟩
        · have HEQ := Lib.hid (bytesEqual _ _ _ b w5 hob.bs (HV.out.below HB5.out))
          clear hob
          by_cases hsm : blkB E (readTo b k) = b
          · have HRB := Lib.hid (HYES.out HOK.out hin hsm)
            rw [sameB_iff.2 hsm] at HEQ
            clear hsm hE5
            go_wp2_with fail
            refine HEQ.out.mono ?_
            clear HEQ
            rintro en w6 ⟨rfl, rfl⟩
            go_wp2_with fail
            exact bodyPost_ret (v := .tuple #[.int .i64 E, .slice o' n' c', .nilIface]) (by simp [results, Tryd.results13, go_sem]) rfl (RdPost.yes HB5.out HRB.out (by rw [readTo_len]; exact HN'.out) HO5.out)
          · have HRB := Lib.hid (HNO.out (.inr (.inr hsm)))
            have hsf : sameB (blkB E (readTo b k)) b = false := by
              cases h : sameB (blkB E (readTo b k)) b with
              | false => rfl
              | true => exact absurd (sameB_iff.1 h) hsm
            rw [hsf] at HEQ
            clear hsm hsf
            go_wp2_with fail
            refine HEQ.out.mono ?_
            clear HEQ
            rintro en w6 ⟨rfl, rfl⟩
            go_wp2_with fail
            go_quiet (fail)
            go_wp2_with fail
            exact bodyPost_ret (v := .tuple #[.int .i64 0, .slice none 0 0, .iface T (.pointer p)]) (by simp [results, Tryd.results13, go_sem]) rfl (RdPost.no (HB5.out.trans (bdrew _ _ _)) HRB.out)
        · exact absurd hno (by rw [okTo_all HOK.out]; decide)
      · have hby := blkRange E _ _ wr (by omega) (by omega) HOR.out.gs (by rw [readTo_len]; omega) (some (ea 1)) 91 ((HBR.out.cell (Below.lt HS.out.r)).trans HS.out.r)
        have HBY := Lib.hid hby
        have HRB : Hid (readBlk b = (0, [], 105)) := Lib.hid (HNO.out (.inr (.inl hin)))
        clear hby
        go_wp2_with fail
        refine HBY.out.mono ?_
        clear HBY
        rintro en w5 ⟨rfl, hb5⟩
        have HB6 := Lib.hid (HBR.out.trans (hb5.mono HBR.out.size))
        have hE6 := (HB6.out.cell (Below.lt HE.out)).trans HE.out
        clear hb5
        go_wp2_with fail
        go_quiet (fail)
        go_wp2_with fail
        exact bodyPost_ret (v := .tuple #[.int .i64 0, .slice none 0 0, .iface T (.pointer p)]) (by simp [results, Tryd.results13, go_sem]) rfl (RdPost.no (HB6.out.trans (bdrew _ _ _)) HRB.out)

/-- a block is read as it was -/
theorem blkReadBack {ea : Nat → Addr} (v : Value) (e : Int) (L : List RecD) (w : World) (hv : Bs w v (blkB e L)) (hs : E3 ea w) (p : Option Addr) (T : TypeId) (hE : w.cell? ⟨2, 0, none⟩ = some (.iface T (.pointer p))) (h1 : 1 ≤ L.length) (hl : L.length ≤ 6) (e1 : 1 ≤ e) (e2 : e ≤ 1073741824) (hok : ∀ r ∈ L, okR r = true ∧ r.W) :
    Calls Tryd.prog 13 #[v] w fun en w' => (∃ o cap, en = .returned (.tuple #[.int .i64 e, .slice o L.length cap, .nilIface]) ∧ Og w.heap.size w' (.slice o L.length cap) L) ∧ Below w.heap.size w w' := by
  refine (blkReadLong v _ w hv hs p T hE (blkB_len e L hl) (blkB_allZ e L hl)).mono ?_
  rintro en w' ⟨hb, h⟩
  rw [readBlk_back e L h1 hl e1 e2 hok] at h
  rcases h with ⟨o, cap, _, he, ho⟩ | ⟨h, _⟩
  · exact ⟨⟨o, cap, he, ho⟩, hb⟩
  · simp at h
/-- what is none -/
theorem blkReadNone {ea : Nat → Addr} (v : Value) (b : List Int) (w : World) (hv : Bs w v b) (hs : E3 ea w) (p : Option Addr) (T : TypeId) (hE : w.cell? ⟨2, 0, none⟩ = some (.iface T (.pointer p))) (hl : b.length = 256) (hz : allZ b = false) (hr : readBlk b = (0, [], 105)) :
    Calls Tryd.prog 13 #[v] w fun en w' => en = .returned (.tuple #[.int .i64 0, .slice none 0 0, .iface T (.pointer p)]) ∧ Below w.heap.size w w' := by
  refine (blkReadLong v _ w hv hs p T hE hl hz).mono ?_
  rintro en w' ⟨hb, h⟩
  rw [hr] at h
  rcases h with ⟨o, cap, h, _⟩ | ⟨_, he⟩
  · simp at h
  · exact ⟨he, hb⟩
/-- whatever it is -/
theorem blkReadAny {ea : Nat → Addr} (v : Value) (b : List Int) (w : World) (hv : Bs w v b) (hs : E3 ea w) (p : Option Addr) (T : TypeId) (hE : w.cell? ⟨2, 0, none⟩ = some (.iface T (.pointer p))) (hl : b.length = 256) (hz : allZ b = false) :
    Calls Tryd.prog 13 #[v] w fun en w' => ((en = .returned (.tuple #[.int .i64 0, .slice none 0 0, .iface T (.pointer p)])) ∨ ∃ n m o cap, en = .returned (.tuple #[.int .i64 n, .slice o m.length cap, .nilIface]) ∧ Og w.heap.size w' (.slice o m.length cap) m ∧ blkB n m = b ∧ 1 ≤ n ∧ n ≤ 1073741824 ∧ 1 ≤ m.length ∧ m.length ≤ 6 ∧ ∀ r ∈ m, okR r = true ∧ r.W) ∧ Below w.heap.size w w' := by
  rcases readBlk_or hv.1 hl hz with hr | ⟨n, m, hr, h1, h2, h3, h4, h5, h6⟩
  · refine (blkReadNone v b w hv hs p T hE hl hz hr).mono ?_
    rintro en w' ⟨he, hb⟩
    exact ⟨.inl he, hb⟩
  · refine (blkReadLong v _ w hv hs p T hE hl hz).mono ?_
    rintro en w' ⟨hb, h⟩
    rw [hr] at h
    rcases h with ⟨o, cap, _, he, ho⟩ | ⟨h, _⟩
    · exact ⟨.inr ⟨n, m, o, cap, he, ho, h1, h2, h3, h4, h5, h6⟩, hb⟩
    · simp at h
end Go.Proofs.YtpgelebmhhcodaaDoor
