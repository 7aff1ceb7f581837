/- Contract: the document's MasterBytes. -/
import Derived.Test.YtabpmpaeakebmaaDoorMasB
import Derived.Test.YtabpmpaeakebmaaDoorPutR
import Derived.Test.YtabpmpaeakebmaaDoorFillR
namespace Go.Proofs.YtabpmpaeakebmaaDoor
open Go.RowKit
set_option linter.unusedVariables false

/-- numbers in a row of a block's -/
def CI (B : Nat) (l : List Int) (w : World) : Prop := ∀ k, k < l.length → w.cell? ⟨B, k, none⟩ = some (.int .i64 (l.getD k 0))
theorem CI.below {B : Nat} {l : List Int} {w w' : World} (h : CI B l w) (hb : Below w.heap.size w w') : CI B l w' :=
  fun k hk => by rw [hb.cell (Below.lt (h k hk))]; exact h k hk
theorem CI.new {l : List Int} {w : World} {T : TypeId} {cs : Array Value} (hcs : cs = (l.map (Value.int .i64)).toArray) : CI w.heap.size l (w.alloc (.cells cs T)) := by
  subst hcs
  intro k hk
  rw [cell_of_row (w.alloc (.cells _ T)) w.heap.size k _ T (0, 0) (heap_alloc_new w _)]
  simp [hk, List.getD_eq_getElem?_getD]

def masL (m : MasD) : List Int := [m.epoch, m.base, m.reset, m.ckpt, m.pages, m.blocks, m.frames]

set_option maxHeartbeats 800000 in
theorem masterBytesRef (m : MasD) (w : World) (hok : okM m = true) :
    Calls Tryd.prog 19 #[masV m] w fun e w' => (∃ v, e = .returned v ∧ Ob 5 w.heap.size w' v (masB m)) ∧ Below w.heap.size w w' := by
  have hb : ∀ o, Below w.heap.size w (w.alloc o) := fun o => (Below.refl _ _).alloc (Nat.le_refl _) _
  have HN := Lib.hid (masNo_bounds hok)
  dsimp only [masV]
  have hml : masL m = [m.epoch, m.base, m.reset, m.ckpt, m.pages, m.blocks, m.frames] := rfl
  have hm0 : ∃ n0 n1 n2 n3 n4 n5 n6, m.epoch = n0 ∧ m.base = n1 ∧ m.reset = n2 ∧ m.ckpt = n3 ∧ m.pages = n4 ∧ m.blocks = n5 ∧ m.frames = n6 := ⟨_, _, _, _, _, _, _, rfl, rfl, rfl, rfl, rfl, rfl, rfl⟩
  obtain ⟨n0, n1, n2, n3, n4, n5, n6, e0, e1, e2, e3, e4, e5, e6⟩ := hm0
  rw [e0, e1, e2, e3, e4, e5, e6] at hml ⊢
  clear e0 e1 e2 e3 e4 e5 e6
  have HM := Lib.hid hml
  have hbw1 : Below w.heap.size w (w.alloc (.cells #[.int .i64 n0, .int .i64 n1, .int .i64 n2, .int .i64 n3, .int .i64 n4, .int .i64 n5, .int .i64 n6] 23)) := hb _
  have haf := fun w1 => @after7 w w1 23 (.int .i64 n0) (.int .i64 n1) (.int .i64 n2) (.int .i64 n3) (.int .i64 n4) (.int .i64 n5) (.int .i64 n6)
  go_enter Tryd.func19, Tryd.ntmps19
  clear hml hok
  have HAF := Lib.hid haf
  clear haf hb
  go_wp2_with fail
  obtain ⟨W1, hW1⟩ : ∃ W1, W1 = (w.alloc (.cells #[.int .i64 n0, .int .i64 n1, .int .i64 n2, .int .i64 n3, .int .i64 n4, .int .i64 n5, .int .i64 n6] 23)) := ⟨_, rfl⟩
  have hsz1 : W1.heap.size = w.heap.size + 1 := by rw [hW1]; simp
  rw [← hsz1]
  rw [← hW1] at hbw1 HAF ⊢
  clear hW1
  have hbs : Bs (W1.alloc (.cells #[.int .u8 80, .int .u8 72, .int .u8 88, .int .u8 77] 5)) (.slice (some ⟨W1.heap.size, 0, none⟩) 4 4) masHead := (Ob.lit (base := 0) masHead _ rfl 4 rfl isB_masHead (Nat.zero_le _) (by simp [masHead])).bs
  have hz2 : Below W1.heap.size W1 (W1.alloc (.cells #[.int .u8 80, .int .u8 72, .int .u8 88, .int .u8 77] 5)) := (Below.refl _ _).alloc (Nat.le_refl _) _
  generalize (W1.alloc (.cells #[.int .u8 80, .int .u8 72, .int .u8 88, .int .u8 77] 5)) = W at hbs hz2 ⊢
  have hbw2 := hbw1.trans (hz2.mono hbw1.size)
  refine (fillRef _ masHead 256 W hbs (by simp [masHead]) (by omega) (by omega)).mono ?_
  rintro e w2 ⟨v2, rfl, hb2, hob2⟩
  have hh := hz2.trans (hb2.mono hz2.size)
  obtain ⟨d0, d1, d2, d3, d4, d5, d6, dz⟩ := HAF.out _ hh
  have hbw3 : Below w.heap.size w w2 := hbw2.trans (hb2.mono hbw2.size)
  have hob3 : Ob 5 w.heap.size w2 v2 (masTo m 0) := hob2.mono hbw2.size
  have hci : CI w2.heap.size (masL m) (w2.alloc (.cells #[.int .i64 n0, .int .i64 n1, .int .i64 n2, .int .i64 n3, .int .i64 n4, .int .i64 n5, .int .i64 n6] 3)) := CI.new (by rw [HM.out]; rfl)
  have hz3 : Below w2.heap.size w2 (w2.alloc (.cells #[.int .i64 n0, .int .i64 n1, .int .i64 n2, .int .i64 n3, .int .i64 n4, .int .i64 n5, .int .i64 n6] 3)) := (Below.refl _ _).alloc (Nat.le_refl _) _
  clear hbw1 HAF hbs hbw2 hz2 hb2 hob2 hh
  have HCI := Lib.hid hci
  clear hci
  go_wp2_with fail
  clear d0 d1 d2 d3 d4 d5 d6
  generalize (w2.alloc (.cells #[.int .i64 n0, .int .i64 n1, .int .i64 n2, .int .i64 n3, .int .i64 n4, .int .i64 n5, .int .i64 n6] 3)) = W3 at HCI hz3 ⊢
  have hbw4 := hbw3.trans (hz3.mono hbw3.size)
  have hob4 := hob3.below hz3
  generalize w2.heap.size = B at HCI ⊢
  clear hz3 hob3 hbw3
  go_loopw [3, 5] (fun b i wr => ∃ k : Nat, i = .int .i64 k ∧ k ≤ 7 ∧ Below w.heap.size w wr ∧ Ob 5 w.heap.size wr b (masTo m k) ∧ Hid (CI B (masL m) wr)) (fun _ i _ => 7 - (intOf i).toNat)
  case atStart => exact ⟨0, rfl, by omega, hbw4, hob4, HCI⟩
  case round =>
    obtain ⟨k, rfl, hk, hbr, hobr, hcir⟩ := hrel
    by_cases hlt7 : k < 7
    · have hnb := HN.out k hlt7
      have hstep : masTo m (k + 1) = putL (masTo m k) (4 + 4 * k) 4 (masNo m k) := by rw [masTo, u64M_small hnb.1 hnb.2]
      have hlen := masTo_length m k
      have ck : wr.cell? ⟨B, k, none⟩ = some (.int .i64 (masNo m k)) := hcir.out k hlt7
      have HST := Lib.hid hstep
      have HL := Lib.hid hlen
      clear hstep hlen
      generalize masTo m k = b0 at hobr HST HL
      generalize masNo m k = nk at ck hnb HST
      have hk7 : (k : Int) < 7 := by omega
      go_wp2_with fail
      refine (putRef _ b0 (4 + 4 * k) 4 nk _ hobr.bs (by rw [HL.out]; omega) (by omega) (by omega) (by omega) (by omega) hnb.1 (by omega)).mono ?_
      rintro e w4 ⟨v4, rfl, hb4, hob4⟩
      rw [← HST.out] at hob4
      have hfin1 := hbr.trans (hb4.mono hbr.size)
      have hfin3 := hob4.mono (base' := w.heap.size) hbr.size
      have hfin4 : Hid (CI B (masL m) w4) := hcir.out.below hb4
      go_wp2_with fail
      go_roundw
      case rel => exact ⟨k + 1, by go_num, by omega, hfin1, hfin3, hfin4⟩
      case measure => simp [intOf]; omega
    · obtain rfl : k = 7 := by omega
      have hobr2 : Ob 5 w.heap.size wr _ (masB m) := hobr
      clear hobr
      go_wp2_with fail
      go_ret
      exact ⟨⟨_, rfl, hobr2⟩, hbr⟩
end Go.Proofs.YtabpmpaeakebmaaDoor
