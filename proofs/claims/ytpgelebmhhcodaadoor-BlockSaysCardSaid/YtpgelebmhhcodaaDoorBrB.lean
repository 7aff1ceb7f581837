/- Contract: the document's BlockBytes. -/
import Derived.Test.YtpgelebmhhcodaaDoorBlB
import Derived.Test.YtpgelebmhhcodaaDoorByteT
import Derived.Test.YtpgelebmhhcodaaDoorRecXFF
import Derived.Test.YtpgelebmhhcodaaDoorRecGD
namespace Go.Proofs.YtpgelebmhhcodaaDoor
open Go.RowKit
set_option linter.unusedVariables false

def bbOk (e : Int) (L : List RecD) : Bool := inB e 1 1073741824 && inB L.length 1 6 && L.all okR
/-- what BlockBytes leaves -/
def BBPost (w : World) (e : Int) (L : List RecD) (en : Ending) (w' : World) : Prop :=
  Below w.heap.size w w' ∧ ((bbOk e L = true ∧ ∃ o cap, en = .returned (.tuple #[.slice o 256 cap, .int .i64 0]) ∧ Ob 5 w.heap.size w' (.slice o 256 cap) (blkB e L)) ∨ (bbOk e L = false ∧ en = .returned (.tuple #[.slice none 0 0, .int .i64 102])))
theorem isB_head16 : IsB (fillL blkMagic 16) := by
  have e : fillL blkMagic 16 = [80, 72, 88, 66, 0, 0, 0, 0, 0, 0, 0, 0, 0, 0, 0, 0] := rfl
  rw [e]
  intro x hx
  simp only [List.mem_cons, List.not_mem_nil, or_false] at hx
  rcases hx with rfl | rfl | rfl | rfl | rfl | rfl | rfl | rfl | rfl | rfl | rfl | rfl | rfl | rfl | rfl | rfl <;> decide
theorem bs_head16 (w : World) : Bs (w.alloc (.cells #[.int .u8 80, .int .u8 72, .int .u8 88, .int .u8 66, .int .u8 0, .int .u8 0, .int .u8 0, .int .u8 0, .int .u8 0, .int .u8 0, .int .u8 0, .int .u8 0, .int .u8 0, .int .u8 0, .int .u8 0, .int .u8 0] 5)) (.slice (some ⟨w.heap.size, 0, none⟩) 16 16) (fillL blkMagic 16) :=
  Bs.litM4 (fillL blkMagic 16) _ rfl 16 (by simp [fillL, blkMagic]) isB_head16 (by simp [fillL, blkMagic]) (0, 0)
set_option maxRecDepth 20000 in
set_option maxHeartbeats 2000000 in
theorem bbRef (e : Int) (v : Value) (L : List RecD) (w : World) (he1 : -9223372036854775808 ≤ e) (he2 : e ≤ 9223372036854775807) (hv : Gs w v L) :
    Calls Tryd.prog 8 #[.int .i64 e, v] w (BBPost w e L) := by
  have HI := Lib.hid fromRefB
  obtain ⟨hW, o, c, rfl, hlc, hcm, hon, hcell⟩ := hv
  unfold maxLen at hcm
  have HCELL := Lib.hid (fun k (hk : k < L.length) => Gs.at_ hW hcell hk)
  have HOK : Hid (bbOk e L = (inB e 1 1073741824 && inB L.length 1 6 && L.all okR)) := Lib.hid rfl
  obtain ⟨n, hn⟩ : ∃ n, n = L.length := ⟨_, rfl⟩
  rw [← hn] at hlc HOK ⊢
  have HN := Lib.hid hn
  clear hn hcell hon hW
  have hdr : Below w.heap.size w w := Below.refl _ _
  cases i1 : inB e 1 1073741824 with
  | false =>
    have HBAD : Hid (bbOk e L = false) := Lib.hid (by rw [HOK.out, i1]; rfl)
    go_enter Tryd.func8, Tryd.ntmps8
    go_wp2_with (first | (go_at_call 21; refine (HI.out _ _ _ _).mono ?_; rintro e w1 ⟨rfl, rfl⟩))
    go_ret2
    exact ⟨Below.refl _ _, .inr ⟨HBAD.out, rfl⟩⟩
  | true =>
    cases i2 : inB n 1 6 with
    | false =>
      have HBAD : Hid (bbOk e L = false) := Lib.hid (by rw [HOK.out, i1, i2]; rfl)
      go_enter Tryd.func8, Tryd.ntmps8
      go_wp2_with (first | (go_at_call 21; refine (HI.out _ _ _ _).mono ?_; rintro e w1 ⟨rfl, rfl⟩))
      go_ret2
      exact ⟨Below.refl _ _, .inr ⟨HBAD.out, rfl⟩⟩
    | true =>
      have hi1 := i1
      have hi2 := i2
      unfold inB at hi1 hi2
      simp only [Bool.and_eq_true, decide_eq_true_eq] at hi1 hi2
      obtain ⟨e1, e2⟩ := hi1
      obtain ⟨n1, n2⟩ := hi2
      have HB0 : Hid (Below w.heap.size w (w.alloc (.cells #[.int .u8 80, .int .u8 72, .int .u8 88, .int .u8 66, .int .u8 0, .int .u8 0, .int .u8 0, .int .u8 0, .int .u8 0, .int .u8 0, .int .u8 0, .int .u8 0, .int .u8 0, .int .u8 0, .int .u8 0, .int .u8 0] 5))) := Lib.hid ((Below.refl _ _).alloc (Nat.le_refl _) _)
      have HL16 : Hid ((fillL blkMagic 16).length = 16) := Lib.hid (by simp [fillL, blkMagic])
      have HP := Lib.hid (putRef _ _ 4 4 e _ (bs_head16 w) (by rw [HL16.out]; omega) (by omega) (by omega) (by omega) (by omega) (by omega) (by omega))
      have HAL : Hid (bbOk e L = L.all okR) := Lib.hid (by rw [HOK.out, i1, i2]; rfl)
      clear HOK
      go_enter Tryd.func8, Tryd.ntmps8
      go_wp2_with (first | (go_at_call 21; refine (HI.out _ _ _ _).mono ?_; rintro e w1 ⟨rfl, rfl⟩))
      refine HP.out.mono ?_
      clear HP
      rintro en w2 ⟨v2, rfl, hb2, ho2⟩
      have HB2 := Lib.hid (HB0.out.trans (hb2.mono HB0.out.size))
      have HP := Lib.hid (putRef v2 _ 8 2 (n : Int) w2 ho2.bs (by rw [putL_length, HL16.out]; omega) (by omega) (by omega) (by omega) (by omega) (by omega) (by omega))
      clear hb2 ho2
      go_wp2_with fail
      refine HP.out.mono ?_
      clear HP
      rintro en w3 ⟨v3, rfl, hb3, ho3⟩
      have HB3 := Lib.hid (HB2.out.trans (hb3.mono HB2.out.size))
      have ho3' : Ob 5 w.heap.size w3 v3 (blkTo e n L 0) := by
        have h := ho3.mono (base' := w.heap.size) HB2.out.size
        unfold blkTo; simpa [blkHead] using h
      have HO3 := Lib.hid ho3'
      clear hb3 ho3 ho3' HB2 HB0
      go_wp2_with fail
      go_loopw [6, 7] (fun s6 s7 wr => ∃ k : Nat, s7 = .int .i64 k ∧ (k : Int) ≤ n ∧ Hid (∀ i, i < k → ∀ r, L[i]? = some r → okR r = true) ∧ Hid (Below w.heap.size w wr) ∧ Hid (Ob 5 w.heap.size wr s6 (blkTo e n L k))) (fun _ s7 _ => n - (intOf s7).toNat)
      case atStart => exact ⟨0, rfl, by omega, Lib.hid (fun i hi => by omega), HB3, HO3⟩
      case round =>
        obtain ⟨k, rfl, hk, HOKS, HBR, HOR⟩ := hrel
        clear HB3 HO3
        by_cases hkn : (k : Int) < n
        · obtain ⟨g, off, r, rfl, hr, hrw, q0, q1, q2, q3, q4, q5, q6, q7, q8, q9⟩ := HCELL.out k (by have := HN.out; omega)
          have KC : Hid (∀ W, Below w.heap.size w W → cells10 W g (off + k * 10) r) := Lib.hid (fun W hb => ⟨(hb.cell (Below.lt q0)).trans q0, (hb.cell (Below.lt q1)).trans q1, (hb.cell (Below.lt q2)).trans q2, (hb.cell (Below.lt q3)).trans q3, (hb.cell (Below.lt q4)).trans q4, (hb.cell (Below.lt q5)).trans q5, (hb.cell (Below.lt q6)).trans q6, (hb.cell (Below.lt q7)).trans q7, (hb.cell (Below.lt q8)).trans q8, (hb.cell (Below.lt q9)).trans q9⟩)
          have HG := Lib.hid (goodRec r wr)
          have HRB := Lib.hid (fun W => recBytesRef r W)
          have HST := Lib.hid (blkTo_step e n L k r hr)
          have HLN := Lib.hid (recB_length r)
          have HRR := Lib.hid hr
          have hlen5 : (blkTo e n L k).length = 16 + 40 * k := blkTo_len _ _ _ _ (by have := HN.out; omega)
          have HL5 := Lib.hid hlen5
          clear q0 q1 q2 q3 q4 q5 q6 q7 q8 q9 hr hlen5
          cases hok : okR r with
          | true =>
            rw [hok] at HG
            have HOK1 : Hid (∀ i, i < k + 1 → ∀ r, L[i]? = some r → okR r = true) := Lib.hid (fun i hi r2 h2 => by
              by_cases hik : i = k
              · subst hik; rw [HRR.out] at h2; simp at h2; rw [← h2]; exact hok
              · exact HOKS.out i (by omega) r2 h2)
            obtain ⟨e0, e1, e2, e3, e4, e5, e6, e7, e8, e9⟩ := KC.out wr HBR.out
            generalize recB r = rb at HRB HLN HST
            obtain ⟨a0, a1, a2, a3, a4, a5, a6, a7, a8, a9⟩ := r
            dsimp only [recV] at HRB HG e0 e1 e2 e3 e4 e5 e6 e7 e8 e9
            clear hrw hok HRR HOKS
            go_wp2_with fail
            refine HG.out.mono ?_
            clear HG e0 e1 e2 e3 e4 e5 e6 e7 e8 e9
            rintro en w4 ⟨rfl, hb4⟩
            have HB4 := Lib.hid (HBR.out.trans (hb4.mono HBR.out.size))
            have HO4 := Lib.hid (HOR.out.below hb4)
            obtain ⟨e0, e1, e2, e3, e4, e5, e6, e7, e8, e9⟩ := KC.out w4 HB4.out
            dsimp only at e0 e1 e2 e3 e4 e5 e6 e7 e8 e9
            clear hb4 HOR HBR KC
            go_wp2_with fail
            refine (HRB.out w4).mono ?_
            clear HRB e0 e1 e2 e3 e4 e5 e6 e7 e8 e9
            rintro en w5 ⟨⟨v5, rfl, ho5⟩, hb5⟩
            have HB5 := Lib.hid (HB4.out.trans (hb5.mono HB4.out.size))
            obtain ⟨v6, w6, hr6, h1, h2, _⟩ := byteT.append 25 w5 w.heap.size _ (blkTo e n L k) (HO4.out.below hb5) _ rb ho5.bs (by rw [HL5.out, HLN.out]; omega) HB5.out.size
            have HB6 := Lib.hid ((HO4.out.below hb5).grown h2 HB5.out (Nat.le_refl _) HB5.out.size)
            rw [HST.out] at h1
            have HO6 := Lib.hid h1
            clear h1 h2 hb5 ho5 HO4 HB4 HB5
            go_wp2_with (at_builtin; refine Lib.wpList_append_run _ rfl _ _ _ _ rfl _ _ rfl rfl _ _ hr6 ?_)
            go_roundw
            case rel => exact ⟨k + 1, by go_num, by omega, HOK1, HB6, HO6⟩
            case measure => simp [intOf]; omega
          | false =>
            rw [hok] at HG
            have HALL : Hid (bbOk e L = false) := Lib.hid (by
              rw [HAL.out, List.all_eq_false]
              exact ⟨r, List.mem_of_getElem? HRR.out, by rw [hok]; simp⟩)
            obtain ⟨e0, e1, e2, e3, e4, e5, e6, e7, e8, e9⟩ := KC.out wr HBR.out
            obtain ⟨a0, a1, a2, a3, a4, a5, a6, a7, a8, a9⟩ := r
            dsimp only [recV] at HG e0 e1 e2 e3 e4 e5 e6 e7 e8 e9
            clear hrw hok HRR HOKS HST HLN KC
            go_wp2_with fail
            refine HG.out.mono ?_
            clear HG e0 e1 e2 e3 e4 e5 e6 e7 e8 e9
            rintro en w4 ⟨rfl, hb4⟩
            have HB4 := Lib.hid (HBR.out.trans (hb4.mono HBR.out.size))
            clear hb4
            go_wp2_with fail
            go_ret2
            exact ⟨HB4.out, .inr ⟨HALL.out, rfl⟩⟩
        · obtain rfl : k = n := by omega
          have HALL : Hid (bbOk e L = true) := Lib.hid (by
            rw [HAL.out, List.all_eq_true]
            intro r hr
            obtain ⟨i, hi, rfl⟩ := List.getElem_of_mem hr
            exact HOKS.out i (by rw [HN.out]; exact hi) _ (List.getElem?_eq_getElem hi))
          have hlen5 : (blkTo e k L k).length = 16 + 40 * k := blkTo_len _ _ _ _ (by have := HN.out; omega)
          have HF := Lib.hid (fillRef _ _ 256 wr HOR.out.bs (by rw [hlen5]; omega) (by omega) (by omega))
          clear hlen5 HOKS HOR
          go_wp2_with fail
          refine HF.out.mono ?_
          clear HF
          rintro en w5 ⟨v5, rfl, hb5, ho5⟩
          have HB5 := Lib.hid (HBR.out.trans (hb5.mono HBR.out.size))
          have ho5' : Ob 5 w.heap.size w5 v5 (blkB e L) := by
            have h := ho5.mono (base' := w.heap.size) HBR.out.size
            unfold blkB
            rw [← HN.out]
            exact h
          have hl5 := blkB_len e L (by rw [← HN.out]; omega)
          obtain ⟨_, o5, c5, rfl, _, _, _, _⟩ := id ho5'.bs
          rw [hl5] at ho5' ⊢
          have HO5 := Lib.hid ho5'
          clear hb5 ho5 ho5' hl5 HBR
          go_wp2_with fail
          go_ret2
          exact ⟨HB5.out, .inl ⟨HALL.out, o5, c5, rfl, HO5.out⟩⟩
end Go.Proofs.YtpgelebmhhcodaaDoor
