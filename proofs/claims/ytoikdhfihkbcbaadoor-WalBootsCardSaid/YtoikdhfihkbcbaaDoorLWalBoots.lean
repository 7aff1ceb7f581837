/- The walk of the law WalBoots. -/
import Derived.Test.YtoikdhfihkbcbaaDoorWlF
import Derived.Test.YtoikdhfihkbcbaaDoorWalC
import Derived.Test.YtoikdhfihkbcbaaDoorRecS
import Derived.Test.YtoikdhfihkbcbaaDoorNum
import Derived.BigQuiet
import Derived.Deep.RegionHeld3
namespace Go.Proofs.YtoikdhfihkbcbaaDoor
open Go.RowKit
set_option linter.unusedVariables false

def comR (i q : Nat) : RecD := ⟨4, (i : Int) + 1, 0, q, 0, 0, false, false, 0, 0⟩
theorem comR_w {i q : Nat} (hi : i ≤ 8) (hq : q ≤ 8) : (comR i q).W := by constructor <;> simp [comR, I64] <;> omega
theorem comR_ok {i q : Nat} (hi : i ≤ 8) (h1 : 1 ≤ q) (hq : q ≤ 8) : okR (comR i q) = true := by
  show okR ⟨4, (i : Int) + 1, 0, q, 0, 0, false, false, 0, 0⟩ = true
  simp [okR, inB, txnTop, pageTop, prevB, nextB, keyB, valsB]; omega
theorem com_laid (r : RecD) (w : World) : (Instr.buildSlice 28 1 #[(0, recV r)]).run Tryd.prog w = .ok (.slice (some ⟨w.heap.size, 0, none⟩) 1 1) (w.alloc (.cells (recCs r) 31)) := by kernel_rfl

theorem walBoots_idle (v : Value) (l : List Int) (w : World) (hv : Ns .i64 w v l) (hl : 8 < (l.length : Int)) :
    Calls Tryd.prog 8 #[v] w fun e w' => e = .returned (.bool true) ∧ Below w.heap.size w w' := by
  obtain ⟨_, o, cap, rfl, hc1, hc2, hc3, _⟩ := hv
  unfold maxLen at hc2
  generalize l.length = n at *
  go_enter Tryd.func8, Tryd.ntmps8
  go_wp2_with fail
  refine (walFirst w).mono ?_
  rintro e w1 ⟨rfl, hb1⟩
  have HB1 := Lib.hid hb1
  clear hb1
  go_wp2_with fail
  go_ret
  exact ⟨rfl, HB1.out⟩

set_option maxRecDepth 20000 in
set_option maxHeartbeats 4000000 in
theorem walBoots_walk0 {ea : Nat → Addr} (v : Value) (l : List Int) (w : World) (hs : W5 ea w) (hv : Ns .i64 w v l) (hl : (l.length : Int) ≤ 8) :
    Calls Tryd.prog 8 #[v] w fun e w' => e = .returned (.bool true) ∧ Below w.heap.size w w' := by
  have HS := Lib.hid hs
  obtain ⟨hwf, o, cap, rfl, hc1, hc2, hc3, hcell⟩ := hv
  unfold maxLen at hc2
  have HCELL := Lib.hid (fun i (hi : i < l.length) => Ns.at_ hwf hcell hi)
  obtain ⟨n, hn⟩ : ∃ n, n = l.length := ⟨_, rfl⟩
  rw [← hn] at hc1 hl HCELL ⊢
  clear hcell hc3 hwf hs hn
  go_enter Tryd.func8, Tryd.ntmps8
  go_wp2_with fail
  refine (walFirst w).mono ?_
  rintro e w1 ⟨rfl, hb1⟩
  have HB1 := Lib.hid hb1
  clear hb1
  go_wp2_with fail
  refine (dskNew 12 w1).mono ?_
  rintro e w2 ⟨⟨H, g, rfl, hd2, hl2⟩, hb2⟩
  have hb02 := HB1.out.trans (hb2.mono HB1.out.size)
  have hW3 := WL.new hb02 hd2 (fun b hb => Nat.le_trans HB1.out.size (hl2 b hb)) ⟨.pointer (some ⟨H, 0, none⟩), 0, 12, 5, 1, 0⟩ ⟨by dsimp only; omega, by dsimp only; omega, by dsimp only; omega, by dsimp only; omega, by dsimp only; omega, by dsimp only; omega⟩ rfl
  have HNW := Lib.hid (walNew (.pointer (some ⟨H, 0, none⟩)) 0 12 5 1 w2 _ rfl)
  have HHD := Lib.hid (HoldsD.new 12 0 12 (by unfold newN; omega) (fun _ => 1) 1)
  have HWA := Lib.hid (WA.new hW3)
  generalize newD 12 = dd at HHD HWA
  obtain ⟨X, hX⟩ : ∃ X, X = w2.heap.size := ⟨_, rfl⟩
  rw [← hX] at HWA HNW
  clear hb2 hd2 hl2 hb02 HB1 hX hW3
  go_wp2_with fail
  refine HNW.out.mono ?_
  clear HNW
  rintro e w3 ⟨rfl, rfl⟩
  generalize w2.alloc (.cells (headCs ⟨.pointer (some ⟨H, 0, none⟩), 0, 12, 5, 1, 0⟩ (.slice none 0 0)) 97) = w3 at HWA ⊢
  go_wp2_with fail
  go_loopw [5, 6, 7] (fun s5 s6 s7 wr => ∃ i : Nat, s7 = .int .i64 i ∧ i ≤ n ∧ ∃ X v L dd g o m ca ei ep t, s5 = .pointer (some ⟨X, 0, none⟩) ∧ s6 = .slice o m ca ∧ m ≤ 8 * i ∧ 1 ≤ ei ∧ ei ≤ 2 * (i : Int) + 1 ∧ t ≤ ei ∧ Hid (m = L.length) ∧ Hid (WA w X H wr ⟨.pointer (some ⟨H, 0, none⟩), 0, 12, 5, ei, m⟩ v L dd g (.slice o m ca) L) ∧ Hid (HoldsD dd 0 12 L ep t)) (fun _ _ s7 _ => n - (intOf s7).toNat)
  case atStart => exact ⟨0, rfl, by omega, X, _, [], dd, g, none, 0, 0, 1, _, 1, rfl, rfl, by omega, by omega, by omega, by omega, Lib.hid rfl, HWA, HHD⟩
  case round =>
    obtain ⟨i, rfl, hi, X, v, L, dd, g, oa, m, ca, ei, ep, t, rfl, rfl, hm, he1, he2, ht, HM, HWR, HHR⟩ := hrel
    clear HWA HHD
    by_cases hin : (i : Int) < n
    · obtain ⟨a, x, rfl, hx, _, hxw⟩ := HCELL.out i (by omega)
      have hx2 := (HWR.out.wl.bel.cell (Below.lt hx)).trans hx
      obtain ⟨x1, x2⟩ := wf_i64 hxw
      have HN1 := Lib.hid (fun W => number x 9 W (by omega) (by omega) x1 x2)
      have hq0 := Int.emod_nonneg x (show (9 : Int) ≠ 0 by omega)
      have hq1 := Int.emod_lt_of_pos x (show (0 : Int) < 9 by omega)
      obtain ⟨q0, hq⟩ : ∃ q : Nat, x % 9 = q := ⟨(x % 9).toNat, by omega⟩
      rw [hq] at HN1 hq0 hq1
      clear hx hxw hq x1 x2
      go_wp2_with fail
      refine (HN1.out _).mono ?_
      clear HN1
      rintro e w4 ⟨rfl, rfl⟩
      clear hx2
      go_wp2_with fail
      go_loopw [6, 8] (fun s6 s8 wx => ∃ q : Nat, s8 = .int .i64 q ∧ q ≤ 8 ∧ ∃ v M o m' ca, s6 = .slice o m' ca ∧ m' + q ≤ 8 * i + 8 ∧ Hid (m' = (L ++ M).length) ∧ Hid (∀ r ∈ M, okR r = true ∧ r.W) ∧ Hid (WA w X H wx ⟨.pointer (some ⟨H, 0, none⟩), 0, 12, 5, ei, m⟩ v (L ++ M) dd g (.slice o m' ca) (L ++ M))) (fun _ s8 _ => (intOf s8).toNat)
      case atStart => exact ⟨q0, rfl, by omega, v, [], oa, m, ca, rfl, by omega, Lib.hid (by rw [List.append_nil]; exact HM.out), Lib.hid (fun r hr => by simp at hr), Lib.hid (by rw [List.append_nil]; exact HWR.out)⟩
      case round =>
        obtain ⟨q, rfl, hq8, v, M, o2, m2, ca2, rfl, hmq, HM2, HOK, HWX⟩ := hrel
        clear HWR
        by_cases hqp : (0 : Int) < (q : Int)
        · have hrw := comR_w (i := i) (q := q) (by omega) (by omega)
          have hrk := comR_ok (i := i) (q := q) (by omega) (by omega) (by omega)
          obtain ⟨r, hr⟩ : ∃ r, r = comR i q := ⟨_, rfl⟩
          have hrv : r = ⟨4, (i : Int) + 1, 0, q, 0, 0, false, false, 0, 0⟩ := hr
          rw [← hr] at hrw hrk
          obtain ⟨W1, hW1⟩ : ∃ W, W = wr.alloc (.cells (recCs r) 31) := ⟨_, rfl⟩
          have hb1 : Below wr.heap.size wr W1 := by rw [hW1]; exact (Below.refl _ _).alloc (Nat.le_refl _) _
          have hr1 : RW wr.heap.size (recCs r) W1 := by rw [hW1]; exact RW.new wr _
          have hwa1 := HWX.out.below hb1
          have hA : ¬ LogC.F X v wr.heap.size := fun hf => absurd (HWX.out.wl.lg.low hf) (Nat.lt_irrefl _)
          have happ := walAppendE hwa1.wl.lg ((hwa1.wl.bel.cell (Below.lt HS.out.d.r)).trans HS.out.d.r) r hrw hrk (by unfold roomN; dsimp only; rw [← HM2.out]; omega) (by rw [← HM2.out]; omega)
          rw [← HM2.out] at happ
          dsimp only at happ
          rw [show (5 : Int) + (m2 : Int) + 1 = 5 + ((m2 : Int) + 1) from by omega] at happ
          have HAPP := Lib.hid happ
          have HR1 := Lib.hid hr1
          have HWA1 := Lib.hid hwa1
          have HA := Lib.hid hA
          have HRW := Lib.hid hrw
          have HRK := Lib.hid hrk
          have HW1 := Lib.hid hW1
          have HLT : Hid (wr.heap.size < W1.heap.size) := Lib.hid hr1.lt
          clear hb1 hr1 hwa1 hA happ hW1 hr hrw hrk
          subst hrv
          dsimp only [recCs] at HR1 HW1
          dsimp only [recV] at HAPP
          go_upto_region 20 with fail
          rw [← HW1.out]
          generalize wr.heap.size = A at HR1 HA HLT ⊢
          obtain ⟨f0, f1, f2, f3, f4, f5, f6, f7, f8, f9⟩ := HR1.out.cells
          clear HW1
          go_wp2_with fail
          refine HAPP.out.mono ?_
          clear HAPP f0 f1 f2 f3 f4 f5 f6 f7 f8 f9
          rintro e w5 ⟨rfl, v5, hl5, hx5⟩
          have hwa5 := HWA1.out.log hl5 hx5 (fun r hr => by
            rcases List.mem_append.1 hr with h | h
            · exact HWA1.out.wl.ok r h
            · rw [List.mem_singleton] at h; rw [h]; exact HRK.out)
          have hr5 : RW A _ w5 := (hx5.block A HLT.out HA.out).trans HR1.out
          obtain ⟨W6, hW6⟩ : ∃ W, W = w5.alloc (.cells (recCs ⟨4, (i : Int) + 1, 0, q, 0, 0, false, false, 0, 0⟩) 31) := ⟨_, rfl⟩
          have hlaid := com_laid ⟨4, (i : Int) + 1, 0, q, 0, 0, false, false, 0, 0⟩ w5
          rw [← hW6] at hlaid
          have hb6 : Below w5.heap.size w5 W6 := by rw [hW6]; exact (Below.refl _ _).alloc (Nat.le_refl _) _
          have hr6 : RW w5.heap.size (recCs ⟨4, (i : Int) + 1, 0, q, 0, 0, false, false, 0, 0⟩) W6 := by rw [hW6]; exact RW.new w5 _
          have hwa6 := hwa5.below hb6
          obtain ⟨gb, cap7, w7, hrun, ho7, hg7, hat, _, hca7, hcb7⟩ := hwa6.og.append1 _ HRW.out hwa6.wl.bel.size (by rw [← HM2.out]; omega) w5.heap.size hr6 1 28
          have hwa7 := hwa5.all hb6 hg7 ho7 (by
            rcases hat with h | h
            · exact .inl h.symm
            · exact .inr fun b e => by
                have e' : gb = b := by simpa [Value.ownBlock] using e
                rw [← e', h]; exact Nat.le_refl _)
          rw [← HM2.out] at hrun hwa7 hca7
          have HWA7 := Lib.hid hwa7
          unfold maxLen at hcb7
          obtain ⟨f0, f1, f2, f3, f4, f5, f6, f7, f8, f9⟩ := hr5.cells
          dsimp only [recV] at hlaid
          clear hl5 hx5 hwa5 hr5 hb6 hr6 hwa6 ho7 hg7 hat hwa7 hW6 HR1 HWA1 HA HLT
          generalize w5.heap.size = B at hlaid hrun
          go_wp2_with (first | (refine wpList_bs_run _ rfl _ _ _ rfl _ (by kernel_rfl) _ _ hlaid ?_) | (at_builtin; refine Lib.wpList_append_run _ rfl _ _ _ _ rfl _ _ rfl rfl _ _ hrun ?_))
          clear f0 f1 f2 f3 f4 f5 f6 f7 f8 f9 hlaid hrun
          go_roundw
          case rel => exact ⟨q - 1, by congr 1; omega, by omega, v5, M ++ [⟨4, (i : Int) + 1, 0, q, 0, 0, false, false, 0, 0⟩], _, _, _, rfl, by omega, Lib.hid (by rw [← List.append_assoc, List.length_append, ← HM2.out]; rfl), Lib.hid (fun r hr => by
            rcases List.mem_append.1 hr with h | h
            · exact HOK.out r h
            · rw [List.mem_singleton] at h; rw [h]; exact ⟨HRK.out, HRW.out⟩), by rw [← List.append_assoc]; exact HWA7⟩
          case measure => simp [intOf]; omega
        · obtain rfl : q = 0 := by omega
          have hmm : m ≤ m2 := by rw [HM.out, HM2.out, List.length_append]; omega
          obtain ⟨f1, f2, ep', hh5⟩ := HHR.out.flush (M := M) ⟨.pointer (some ⟨H, 0, none⟩), 0, 12, 5, ei, m⟩ rfl (by dsimp only; rw [HM.out]) he1 ht HOK.out (by rw [← HM2.out]; unfold blocksN; omega)
          have hfl := walFlush HWX.out.wl HS.out.d he1 (by dsimp only; omega) (by dsimp only; omega) (by dsimp only; rw [← HM2.out]; omega) (fun s => by rw [HHR.out.dry s]; simp)
          rw [f1, f2, eC_zero, ← HM2.out] at hfl
          have HFL := Lib.hid hfl
          clear hfl f1 f2
          go_wp2_with fail
          refine HFL.out.mono ?_
          clear HFL
          rintro e w5 ⟨rfl, g5, hw5, hx5⟩
          have hwa5 := HWX.out.flush hw5 hx5
          generalize (flushD ⟨.pointer (some ⟨H, 0, none⟩), 0, 12, 5, ei, m⟩ (L ++ M) dd).1 = D5 at hwa5 hh5
          have HWA5 := Lib.hid hwa5
          have HH5 := Lib.hid hh5
          have hcr := dskCrash hwa5.wl.dk (.slice none 0 0) [] (Ns.nil _ _) (fun h => absurd rfl h) (by simp)
          have HCR := Lib.hid hcr
          clear hw5 hx5 hwa5 hh5 hcr HWX HHR
          go_wp2_with fail
          refine HCR.out.mono ?_
          clear HCR
          rintro e w6 ⟨rfl, g6, hd6, hx6⟩
          have hwa6 := HWA5.out.disk hd6 hx6
          have hh6 := HH5.out.crash (D := D5) rfl (fun _ => rfl)
          generalize crashD D5 [] = D6 at hwa6 hh6
          have hopen := hh6.open_ (epoch := 2 * (i : Int) + 2) (reset := 1) (by omega) (by omega) (by omega)
          have hop := walOpen hwa6.wl.bel hwa6.wl.dk hwa6.wl.lowD HS.out 0 12 5 1 (2 * (i : Int) + 2) (by omega) (by omega) (by omega) (by omega) (fun k hk => by
            have h1 := hh6.read k hk
            exact ⟨h1.1, by rw [h1.2]; exact (hwa6.wl.dk.sec (0 + k) (by have := hh6.room; omega)).flen⟩)
          rw [hopen] at hop
          have hop2 : Calls Tryd.prog 33 #[.pointer (some ⟨H, 0, none⟩), .int .i64 0, .int .i64 12, .int .i64 5, .int .i64 1, .int .i64 (2 * (i : Int) + 2)] w6 fun e w' => ∃ X v, e = .returned (.tuple #[.pointer (some ⟨X, 0, none⟩), .nilIface]) ∧ WA w X H w' ⟨.pointer (some ⟨H, 0, none⟩), 0, 12, 5, 2 * (i : Int) + 2, m2⟩ v (L ++ M) D6 g6 (.slice o2 m2 ca2) (L ++ M) := hop.mono (by
            rintro e w' h
            rcases h with ⟨L', X', v', hR, he, hw', ho'⟩ | ⟨k, a, hR, _⟩
            · have hL : L' = L ++ M := (Sum.inl.inj hR).symm
              subst hL
              have e7 : (((L ++ M).length : Nat) : Int) = (m2 : Int) := by rw [HM2.out]
              rw [e7] at hw'
              exact ⟨X', v', he, hwa6.open_ hw' ho'⟩
            · simp at hR)
          have HOP := Lib.hid hop2
          have HH6 := Lib.hid hh6
          clear hop hop2 hopen hd6 hx6 hwa6 hh6 HWA5 HH5
          go_wp2_with fail
          refine HOP.out.mono ?_
          clear HOP
          rintro e w7 ⟨X7, v7, rfl, hwa7⟩
          have HWA7 := Lib.hid hwa7
          have hla : ∀ W, Below w7.heap.size w7 W → Calls Tryd.prog 29 #[.pointer (some ⟨X7, 0, none⟩)] W fun e w' => e = .returned (.int .i64 (5 + m2)) ∧ Qw W w' := fun W hb => (walLast (HWA7.out.below hb).wl.lg).mono (by
            rintro e w' ⟨he, hq⟩
            rw [← HM2.out] at he
            exact ⟨he, hq⟩)
          have hdo : ∀ W, Below w7.heap.size w7 W → Calls Tryd.prog 31 #[.pointer (some ⟨X7, 0, none⟩)] W fun e w' => e = .returned (.int .i64 (5 + m2)) ∧ Qw W w' := fun W hb => walDone (HWA7.out.below hb).wl.lg (by dsimp only; omega) (by dsimp only; omega)
          have hba : ∀ W, Below w7.heap.size w7 W → Calls Tryd.prog 37 #[.pointer (some ⟨X7, 0, none⟩)] W fun e w' => e = .returned (.int .i64 5) ∧ W = w' := fun W hb => walBase (HWA7.out.below hb).wl.lg
          have HLA := Lib.hid hla
          have HDO := Lib.hid hdo
          have HBA := Lib.hid hba
          obtain ⟨oa2, ca3, hv2, hcA, hcB, _, _⟩ := hwa7.og.form
          simp only [Value.slice.injEq] at hv2
          obtain ⟨rfl, hxx, rfl⟩ := hv2
          clear hxx
          unfold maxLen at hcB
          rw [← HM2.out] at hcA
          clear hwa7 hla hdo hba
          go_wp2_with fail
          refine (HLA.out _ (Below.refl _ _)).mono ?_
          rintro e w8 ⟨rfl, hq8⟩
          have HQ8 := Lib.hid (hq8.below w7.heap.size)
          clear hq8
          go_wp2_with fail
          refine (HDO.out _ HQ8.out).mono ?_
          rintro e w9 ⟨rfl, hq9⟩
          have HQ9 := Lib.hid (HQ8.out.trans (hq9.below w7.heap.size))
          clear hq9 HQ8
          go_wp2_with fail
          refine (HLA.out _ HQ9.out).mono ?_
          rintro e w10 ⟨rfl, hq10⟩
          have HQ10 := Lib.hid (HQ9.out.trans (hq10.below w7.heap.size))
          clear hq10 HQ9
          go_wp2_with fail
          refine (HBA.out _ HQ10.out).mono ?_
          rintro e w11 ⟨rfl, rfl⟩
          clear HLA HDO HBA
          go_wp2_with fail
          go_loopw [14] (fun s wr => ∃ k : Nat, s = .int .i64 k ∧ k ≤ m2 ∧ Hid (Below w7.heap.size w7 wr)) (fun s _ => m2 - (intOf s).toNat)
          case atStart => exact ⟨0, rfl, by omega, HQ10⟩
          case round =>
            obtain ⟨k, rfl, hk, HBR⟩ := hrel
            clear HQ10
            by_cases hkm : (k : Int) < m2
            · obtain ⟨gb3, r, hgg, _, _, hrr, hrw, q0, q1, q2, q3, q4, q5, q6, q7, q8, q9⟩ := (HWA7.out.below HBR.out).og.at_ (k := k) (by rw [← HM2.out]; omega)
              subst hgg
              have hra : recAtN 5 (L ++ M) (6 + (k : Int)) = some r := by
                unfold recAtN
                rw [if_pos (by rw [← HM2.out]; omega), show (6 + (k : Int) - 5 - 1).toNat = k from by omega]
                exact hrr
              have hrec := walRecYes (HWA7.out.below HBR.out).wl.lg (6 + (k : Int)) r hra
              have HREC := Lib.hid hrec
              have hsame : sameRB r r = true := (sameRB_iff r r).2 rfl
              have HSAME := Lib.hid hsame
              clear hrr hrw hra hrec hsame
              obtain ⟨a0, a1, a2, a3, a4, a5, a6, a7, a8, a9⟩ := r
              dsimp only [recV] at HREC q0 q1 q2 q3 q4 q5 q6 q7 q8 q9
              go_wp2_with fail
              refine HREC.out.mono ?_
              clear HREC
              rintro e w12 ⟨rfl, hb12⟩
              obtain ⟨W13, hW13⟩ : ∃ W, W = w12.alloc (.cells #[.int .i64 a0, .int .i64 a1, .int .i64 a2, .int .i64 a3, .int .i64 a4, .int .i64 a5, .bool a6, .bool a7, .int .i64 a8, .int .i64 a9] 31) := ⟨_, rfl⟩
              have hb13 : Below w12.heap.size w12 W13 := by rw [hW13]; exact (Below.refl _ _).alloc (Nat.le_refl _) _
              have hr13 : RW w12.heap.size #[.int .i64 a0, .int .i64 a1, .int .i64 a2, .int .i64 a3, .int .i64 a4, .int .i64 a5, .bool a6, .bool a7, .int .i64 a8, .int .i64 a9] W13 := by rw [hW13]; exact RW.new w12 _
              have hbk := hb12.trans (hb13.mono hb12.size)
              have HBK := Lib.hid (HBR.out.trans (hbk.mono HBR.out.size))
              have p0 := (hbk.cell (Below.lt q0)).trans q0
              have p1 := (hbk.cell (Below.lt q1)).trans q1
              have p2 := (hbk.cell (Below.lt q2)).trans q2
              have p3 := (hbk.cell (Below.lt q3)).trans q3
              have p4 := (hbk.cell (Below.lt q4)).trans q4
              have p5 := (hbk.cell (Below.lt q5)).trans q5
              have p6 := (hbk.cell (Below.lt q6)).trans q6
              have p7 := (hbk.cell (Below.lt q7)).trans q7
              have p8 := (hbk.cell (Below.lt q8)).trans q8
              have p9 := (hbk.cell (Below.lt q9)).trans q9
              have hsr := sameRec ⟨a0, a1, a2, a3, a4, a5, a6, a7, a8, a9⟩ ⟨a0, a1, a2, a3, a4, a5, a6, a7, a8, a9⟩ W13.drew
              rw [HSAME.out] at hsr
              dsimp only [recV] at hsr
              have HSR := Lib.hid hsr
              have HW13 := Lib.hid hW13
              have HR13 := Lib.hid hr13
              clear q0 q1 q2 q3 q4 q5 q6 q7 q8 q9 hb12 hb13 hbk hsr hW13 hr13 HSAME HBR
              go_upto_region 34 with fail
              rw [← HW13.out]
              generalize w12.heap.size = A at HR13 ⊢
              obtain ⟨f0, f1, f2, f3, f4, f5, f6, f7, f8, f9⟩ := HR13.out.cells
              clear HW13 HR13
              go_region_law ((first | (go_simp; go_at_call 39; refine HSR.out.mono ?_; rintro e w14 ⟨rfl, hb14⟩)))
              all_goals
                have HB14 := Lib.hid (HBK.out.trans ((((Below.refl _ _).drew).trans hb14).mono HBK.out.size))
                clear f0 f1 f2 f3 f4 f5 f6 f7 f8 f9 p0 p1 p2 p3 p4 p5 p6 p7 p8 p9 hb14
                go_wp2_with fail
                go_roundw
                case rel => exact ⟨k + 1, by go_num, by omega, HB14⟩
                case measure => simp [intOf]; omega
            · go_wp2_with fail
              go_roundw
              case rel => exact ⟨i + 1, by go_num, by omega, X7, v7, L ++ M, D6, g6, _, _, _, 2 * (i : Int) + 2, ep', ei, rfl, rfl, by omega, by omega, by omega, by omega, HM2, Lib.hid (HWA7.out.below HBR.out), HH6⟩
              case measure => simp [intOf]; omega
    · go_wp2_with fail
      go_ret
      exact ⟨rfl, HWR.out.wl.bel⟩

theorem walBoots_walk {ea : Nat → Addr} (v : Value) (l : List Int) (w : World) (hs : W5 ea w) (hv : Ns .i64 w v l) :
    Calls Tryd.prog 8 #[v] w fun e w' => e = .returned (.bool true) ∧ Below w.heap.size w w' := by
  by_cases hl : (l.length : Int) ≤ 8
  · exact walBoots_walk0 v l w hs hv hl
  · exact walBoots_idle v l w hv (by omega)
end Go.Proofs.YtoikdhfihkbcbaaDoor
