/- Contracts of phoenixref.Recs. -/
import Derived.Test.YtccfiohcblecoaaDoorGs
namespace Go.Proofs.YtccfiohcblecoaaDoor
open Go.RowKit
set_option linter.unusedVariables false

theorem Og.made {base : Nat} {w : World} (cur : Array Value) (cap : Nat) (hb : base ≤ w.heap.size) (hm : cap ≤ maxLen) (hs : cur.size = cap * 10) :
    Og base (w.alloc (.cells cur 33)) (.slice (some ⟨w.heap.size, 0, none⟩) 0 cap) [] :=
  ⟨fun _ h => by simp at h, by simpa using World.ownsRow_made (size := 10) w cur cap hb hm hs⟩
/-- make([]api.Rec, 0, n) -/
theorem recsMake (w : World) (n : Nat) (hn : n ≤ 100000) : ∃ cur, (Instr.makeSlice 60 (.int .i64 0) (.int .i64 n)).run Tryd.prog w = .ok (.slice (some ⟨w.heap.size, 0, none⟩) 0 n) (w.alloc (.cells cur 33)) ∧ cur.size = n * 10 := by
  obtain ⟨i0, hi0, hz0, hz1, hz2⟩ := info_parts recInfo
  have hr := run_make (P := Tryd.prog) w 60 33 i0 _ Tryd.underlying60 hi0 hz0 .i64 .i64 0 n (by omega) (by omega) (by rw [hz2]; omega) (by omega)
  exact ⟨_, hr, by rw [size_madeCells, hz1]; simp⟩

set_option maxHeartbeats 1000000 in
theorem recsRef (v : Value) (L : List RecD) (w : World) (hv : Gs w v L) (hl : L.length ≤ 10000) :
    Calls Tryd.prog 97 #[v] w fun e w' => ∃ o cap, e = .returned (.slice o L.length cap) ∧ Below w.heap.size w w' ∧ Og w.heap.size w' (.slice o L.length cap) L := by
  obtain ⟨hW, o, c, rfl, hlc, hcm, hon, hcell⟩ := hv
  unfold maxLen at hcm
  have HCELL := Lib.hid (fun k (hk : k < L.length) => Gs.at_ hW hcell hk)
  obtain ⟨cur, hmk, hcs⟩ := recsMake w L.length (by omega)
  have HB0 : Hid (Below w.heap.size w (w.alloc (.cells cur 33))) := Lib.hid ((Below.refl _ _).alloc (Nat.le_refl _) _)
  have HO0 : Hid (Og w.heap.size (w.alloc (.cells cur 33)) (.slice (some ⟨w.heap.size, 0, none⟩) 0 L.length) []) := Lib.hid (Og.made cur _ (Nat.le_refl _) (by simp [maxLen]; omega) hcs)
  clear hcell hon hcs hW
  obtain ⟨n, hn⟩ : ∃ n, n = L.length := ⟨_, rfl⟩
  rw [← hn] at hlc hl hmk HO0 ⊢
  have HN := Lib.hid hn
  clear hn
  go_enter Tryd.func97, Tryd.ntmps97
  go_wp2_with fail
  go_loopw [3, 4] (fun s i wr => ∃ k : Nat, i = .int .i64 k ∧ (k : Int) ≤ n ∧ Hid (Below w.heap.size w wr) ∧ ∃ o' c', s = .slice o' k c' ∧ Hid (Og w.heap.size wr (.slice o' k c') (L.take k))) (fun _ i _ => n - (intOf i).toNat)
  case atStart => exact ⟨0, rfl, by omega, HB0, _, _, rfl, by simpa using HO0⟩
  case round =>
    obtain ⟨k, rfl, hk, HBR, o', c', rfl, HOR⟩ := hrel
    by_cases hlt : (k : Int) < n
    · obtain ⟨g, off, r, rfl, hr, hrw, c0, c1, c2, c3, c4, c5, c6, c7, c8, c9⟩ := HCELL.out k (by have := HN.out; omega)
      have hblk := Below.lt c0
      have e0 := (HBR.out.cell hblk).trans c0
      have e1 := (HBR.out.cell (Below.lt c1)).trans c1
      have e2 := (HBR.out.cell (Below.lt c2)).trans c2
      have e3 := (HBR.out.cell (Below.lt c3)).trans c3
      have e4 := (HBR.out.cell (Below.lt c4)).trans c4
      have e5 := (HBR.out.cell (Below.lt c5)).trans c5
      have e6 := (HBR.out.cell (Below.lt c6)).trans c6
      have e7 := (HBR.out.cell (Below.lt c7)).trans c7
      have e8 := (HBR.out.cell (Below.lt c8)).trans c8
      have e9 := (HBR.out.cell (Below.lt c9)).trans c9
      have hlen : (L.take k).length = k := by rw [List.length_take]; have := HN.out; omega
      have hsz := HBR.out.size
      have hal : Below wr.heap.size wr (wr.alloc (.cells (recCs r) 33)) := (Below.refl _ _).alloc (Nat.le_refl _) _
      have hor := HOR.out.below hal
      obtain ⟨gb, cap, w3, hrun, ho3, hg3, _⟩ := hor.append1 r hrw (by simp; omega) (by rw [hlen]; omega) wr.heap.size (RW.new wr _) 1 60
      rw [hlen] at hrun ho3
      have ht : L.take k ++ [r] = L.take (k + 1) := by rw [List.take_add_one, hr]; rfl
      rw [ht] at ho3
      have HB3 := Lib.hid (hor.grown hg3 (HBR.out.alloc hsz _) (Nat.le_refl _) (by simp; omega))
      have HO3 := Lib.hid ho3
      dsimp only [recCs] at hrun
      clear hal hor ho3 hg3 ht hlen c0 c1 c2 c3 c4 c5 c6 c7 c8 c9 hr hrw hblk HOR HBR hsz
      go_wp2_with (at_builtin; refine Lib.wpList_append_run _ rfl _ _ _ _ rfl _ _ rfl rfl _ _ hrun ?_)
      go_roundw
      case rel => exact ⟨k + 1, by go_num, by omega, HB3, _, _, rfl, HO3⟩
      case measure => simp [intOf]; omega
    · obtain rfl : k = n := by omega
      have hfin : L.take k = L := List.take_of_length_le (by have := HN.out; omega)
      rw [hfin] at HOR
      go_wp2_with fail
      go_ret
      exact ⟨_, _, rfl, HBR.out, HOR.out⟩
end Go.Proofs.YtccfiohcblecoaaDoor
