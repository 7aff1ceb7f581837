/- Contract: master.Bytes. -/
import Derived.Test.YtabpmpaeakebmaaDoorIdx
import Derived.Lib.SlBytesConst
import Derived.Test.YtabpmpaeakebmaaDoorMasC
import Derived.Test.YtabpmpaeakebmaaDoorPut
import Derived.Test.YtabpmpaeakebmaaDoorFill
namespace Go.Proofs.YtabpmpaeakebmaaDoor
open Go.RowKit
set_option linter.unusedVariables false

theorem masNo_bounds {m : MasD} (h : okM m = true) (k : Nat) (hk : k < 7) : 0 ≤ masNo m k ∧ masNo m k ≤ 1073741824 := by
  have hb := okM_bounds h
  match k, hk with
  | 0, _ | 1, _ | 2, _ | 3, _ | 4, _ | 5, _ | 6, _ => simp only [masNo, List.getD_cons_zero, List.getD_cons_succ]; omega
  | k + 7, h => omega

theorem masNo_row (m : MasD) (k : Nat) (hk : k < 7) : (#[.int .i64 m.epoch, .int .i64 m.base, .int .i64 m.reset, .int .i64 m.ckpt, .int .i64 m.pages, .int .i64 m.blocks, .int .i64 m.frames] : Array Value)[((k : Nat) : Int).toNat]? = some (.int .i64 (masNo m k)) := by
  match k, hk with
  | 0, _ | 1, _ | 2, _ | 3, _ | 4, _ | 5, _ | 6, _ => rfl
  | k + 7, h => omega

/-- bytes of a constant, in a row of their own (marked) -/
theorem Bs.litM {e : TypeId} {w : World} (l : List Int) (cs : Array Value) (hcs : cs = (l.map (Value.int .u8)).toArray) (n : Nat) (hn : n = l.length) (h : IsB l) (hm : l.length ≤ 1000000000000) (r : Nat × Nat) :
    Bs (w.alloc (.cells cs e r)) (.slice (some ⟨w.heap.size, 0, none⟩) n n) l := by
  subst hcs hn
  refine ⟨h, _, _, rfl, Nat.le_refl _, by unfold maxLen; omega, by simp, fun _ => ⟨_, rfl, fun i hi => ?_⟩⟩
  have hadd : (⟨w.heap.size, 0, none⟩ : Addr).add i = ⟨w.heap.size, i, none⟩ := by unfold Addr.add; split <;> simp_all
  rw [hadd, cell_of_row (w.alloc (.cells _ e r)) w.heap.size i _ e r (heap_alloc_new w _)]
  simp [hi, List.getD_eq_getElem?_getD]

set_option maxHeartbeats 800000 in
theorem masBytes (m : MasD) (w : World) (eR : Value) (hE : w.cell? ⟨0, 0, none⟩ = some eR) (hok : okM m = true) :
    Calls Tryd.prog 15 #[masV m] w fun e w' => (∃ v, e = .returned (.tuple #[v, .nilIface]) ∧ Ob 5 w.heap.size w' v (masB m)) ∧ Below w.heap.size w w' := by
  have hb : ∀ o, Below w.heap.size w (w.alloc o) := fun o => (Below.refl _ _).alloc (Nat.le_refl _) _
  have hlt := Below.lt hE
  have hc := fun w' (h : Below w.heap.size w w') => masCheck m w' eR (by rw [h.cell hlt]; exact hE)
  rw [hok] at hc
  dsimp only [masV, errM] at hc ⊢
  simp only [if_true] at hc
  have HC := Lib.hid hc
  have HN := Lib.hid (masNo_bounds hok)
  clear hc
  have hm0 : ∃ n0 n1 n2 n3 n4 n5 n6, m.epoch = n0 ∧ m.base = n1 ∧ m.reset = n2 ∧ m.ckpt = n3 ∧ m.pages = n4 ∧ m.blocks = n5 ∧ m.frames = n6 := ⟨_, _, _, _, _, _, _, rfl, rfl, rfl, rfl, rfl, rfl, rfl⟩
  obtain ⟨n0, n1, n2, n3, n4, n5, n6, e0, e1, e2, e3, e4, e5, e6⟩ := hm0
  have hnk := masNo_row m
  rw [e0, e1, e2, e3, e4, e5, e6] at hnk
  have HM := Lib.hid hnk
  clear hnk
  rw [e0, e1, e2, e3, e4, e5, e6] at HC ⊢
  clear e0 e1 e2 e3 e4 e5 e6
  go_enter Tryd.func15, Tryd.ntmps15
  go_wp2_with fail
  refine (HC.out _ (hb _)).mono ?_
  rintro e w1 ⟨rfl, hb1⟩
  have hbw1 : Below w.heap.size w w1 := (hb _).trans (hb1.mono (hb _).size)
  obtain ⟨c0, c1, c2, c3, c4, c5, c6, hz⟩ := after7 hb1
  clear hE hok
  have kc := fun (w : World) (C : Array Value) (n c : Nat) => Lib.run_convert_bytes_const (P := Tryd.prog) w 24 5 C n c Tryd.underlying24 Tryd.underlying5
  go_wp2_with fail
  have hbs : Bs (w1.alloc (.cells #[.int .u8 80, .int .u8 72, .int .u8 88, .int .u8 77] 5 (4, 5))) (.slice (some ⟨w1.heap.size, 0, none⟩) 4 4) masHead := Bs.litM masHead _ rfl 4 rfl isB_masHead (by simp [masHead]) _
  have hbw2 : Below w.heap.size w (w1.alloc (.cells #[.int .u8 80, .int .u8 72, .int .u8 88, .int .u8 77] 5 (4, 5))) := hbw1.alloc hbw1.size _
  have hz2 : Below w1.heap.size w1 (w1.alloc (.cells #[.int .u8 80, .int .u8 72, .int .u8 88, .int .u8 77] 5 (4, 5))) := (Below.refl _ _).alloc (Nat.le_refl _) _
  generalize (w1.alloc (.cells #[.int .u8 80, .int .u8 72, .int .u8 88, .int .u8 77] 5 (4, 5))) = W at hbs hbw2 hz2 ⊢
  refine (fill _ masHead 256 W hbs (by simp [masHead]) (by omega) (by omega)).mono ?_
  rintro e w2 ⟨v2, rfl, hb2, hob2⟩
  have hh := hz2.trans (hb2.mono hz2.size)
  have d0 : w2.cell? ⟨w.heap.size, 0, none⟩ = some (.int .i64 n0) := by rw [hh.cell hz]; exact c0
  have d1 : w2.cell? ⟨w.heap.size, 1, none⟩ = some (.int .i64 n1) := by rw [hh.cell hz]; exact c1
  have d2 : w2.cell? ⟨w.heap.size, 2, none⟩ = some (.int .i64 n2) := by rw [hh.cell hz]; exact c2
  have d3 : w2.cell? ⟨w.heap.size, 3, none⟩ = some (.int .i64 n3) := by rw [hh.cell hz]; exact c3
  have d4 : w2.cell? ⟨w.heap.size, 4, none⟩ = some (.int .i64 n4) := by rw [hh.cell hz]; exact c4
  have d5 : w2.cell? ⟨w.heap.size, 5, none⟩ = some (.int .i64 n5) := by rw [hh.cell hz]; exact c5
  have d6 : w2.cell? ⟨w.heap.size, 6, none⟩ = some (.int .i64 n6) := by rw [hh.cell hz]; exact c6
  have hbw3 : Below w.heap.size w w2 := hbw2.trans (hb2.mono hbw2.size)
  have hob3 : Ob 5 w.heap.size w2 v2 (masTo m 0) := hob2.mono hbw2.size
  clear c0 c1 c2 c3 c4 c5 c6 hbs hbw1 hbw2 hz2 hb2 hob2 hh hb1 kc hb
  go_wp2_with fail
  clear d0 d1 d2 d3 d4 d5 d6
  go_loopw [5, 31] (fun b i wr => ∃ k : Nat, i = .int .i64 k ∧ k ≤ 7 ∧ Below w.heap.size w wr ∧ Ob 5 w.heap.size wr b (masTo m k)) (fun _ i _ => 7 - (intOf i).toNat)
  case atStart => exact ⟨0, rfl, by omega, hbw3, hob3⟩
  case round =>
    obtain ⟨k, rfl, hk, hbr, hobr⟩ := hrel
    by_cases hlt7 : k < 7
    · have hnb := HN.out k hlt7
      have hstep : masTo m (k + 1) = putL (masTo m k) (4 + 4 * k) 4 (masNo m k) := by rw [masTo, u64M_small hnb.1 hnb.2]
      have hlen := masTo_length m k
      have HST := Lib.hid hstep
      have HL := Lib.hid hlen
      clear hstep hlen
      generalize masTo m k = b0 at hobr HST HL
      have hk7 : (k : Int) < 7 := by omega
      have kI := run_index_in (P := Tryd.prog) wr 72 3 7 #[.int .i64 n0, .int .i64 n1, .int .i64 n2, .int .i64 n3, .int .i64 n4, .int .i64 n5, .int .i64 n6] .i64 k (.int .i64 (masNo m k)) Tryd.underlying72 (by omega) (by omega) (by kernel_rfl) (by kernel_rfl) (HM.out k hlt7)
      generalize masNo m k = nk at kI hnb HST
      go_wp2_with fail
      refine (put _ b0 (4 + 4 * k) 4 nk _ hobr.bs (by rw [HL.out]; omega) (by omega) (by omega) (by omega) (by omega) hnb.1 (by omega)).mono ?_
      rintro e w4 ⟨v4, rfl, hb4, hob4⟩
      rw [← HST.out] at hob4
      have hfin1 := hbr.trans (hb4.mono hbr.size)
      have hfin3 := hob4.mono (base' := w.heap.size) hbr.size
      clear kI
      go_wp2_with fail
      go_roundw
      case rel => exact ⟨k + 1, by go_num, by omega, hfin1, hfin3⟩
      case measure => simp [intOf]; omega
    · obtain rfl : k = 7 := by omega
      have hobr2 : Ob 5 w.heap.size wr _ (masB m) := hobr
      clear hobr
      go_wp2_with fail
      go_ret2
      exact ⟨⟨_, rfl, hobr2⟩, hbr⟩

/-- Bytes of one that may not be -/
theorem masBytesBad (m : MasD) (w : World) (p : Option Addr) (T : TypeId) (hE : w.cell? ⟨0, 0, none⟩ = some (.iface T (.pointer p))) (hok : okM m = false) :
    Calls Tryd.prog 15 #[masV m] w fun e w' => e = .returned (.tuple #[.slice none 0 0, .iface T (.pointer p)]) ∧ Below w.heap.size w w' := by
  have hb : ∀ o, Below w.heap.size w (w.alloc o) := fun o => (Below.refl _ _).alloc (Nat.le_refl _) _
  have hlt := Below.lt hE
  have hc := fun w' (h : Below w.heap.size w w') => masCheck m w' _ (by rw [h.cell hlt]; exact hE)
  rw [hok] at hc
  dsimp only [masV, errM] at hc ⊢
  simp only [Bool.false_eq_true, if_false] at hc
  have HC := Lib.hid hc
  clear hc
  go_enter Tryd.func15, Tryd.ntmps15
  go_wp2_with fail
  refine (HC.out _ (hb _)).mono ?_
  rintro e w1 ⟨rfl, hb1⟩
  go_wp2_with fail
  go_ret2
  exact ⟨rfl, (hb _).trans (hb1.mono (hb _).size)⟩
end Go.Proofs.YtabpmpaeakebmaaDoor
