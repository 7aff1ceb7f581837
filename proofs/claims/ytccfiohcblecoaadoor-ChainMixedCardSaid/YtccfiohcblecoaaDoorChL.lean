/- Contract: chapter 16's logs. -/
import Derived.Test.YtccfiohcblecoaaDoorWalC
import Derived.Test.YtccfiohcblecoaaDoorRefD
import Derived.Test.YtccfiohcblecoaaDoorNewR
import Derived.Test.YtccfiohcblecoaaDoorErC
import Derived.Deep.CutRange
import Derived.Test.YtccfiohcblecoaaDoorChN
import Derived.Test.YtccfiohcblecoaaDoorIsAt
namespace Go.Proofs.YtccfiohcblecoaaDoor
open Go.RowKit
set_option linter.unusedVariables false

/-- the two logs, apart from each other, above what was -/
structure Two (w0 w : World) (X Y : Nat) (cx cy : LogC) (vx vy : Value) (L : List RecD) : Prop where
  x : Lg 102 w X cx vx L
  y : Lg 133 w Y cy vy L
  bel : Below w0.heap.size w0 w
  lx : ∀ b, LogC.F X vx b → w0.heap.size ≤ b
  ly : ∀ b, LogC.F Y vy b → w0.heap.size ≤ b
  xy : ∀ b, LogC.F X vx b → ¬ LogC.F Y vy b
theorem Two.turnX {w0 w w' : World} {X Y : Nat} {cx cy : LogC} {vx vy vx' : Value} {L M : List RecD} (hx : Lg 102 w X cx vx L) (hy : Lg 133 w Y cy vy M) (hb : Below w0.heap.size w0 w)
    (lx : ∀ b, LogC.F X vx b → w0.heap.size ≤ b) (xy : ∀ b, LogC.F X vx b → ¬ LogC.F Y vy b) (he : Ext (LogC.F X vx) w (LogC.F X vx') w') :
    Lg 133 w' Y cy vy M ∧ Below w0.heap.size w0 w' ∧ (∀ b, LogC.F X vx' b → w0.heap.size ≤ b) ∧ ∀ b, LogC.F X vx' b → ¬ LogC.F Y vy b := by
  refine ⟨hy.apart he fun b h1 h2 => xy b h2 h1, hb.trans (he.below lx hb.size), he.low lx hb.size, fun b h1 h2 => ?_⟩
  rcases he.grow b h1 with h | h
  · exact xy b h h2
  · have := hy.low h2; omega
theorem Two.turnY {w0 w w' : World} {X Y : Nat} {cx cy : LogC} {vx vy vy' : Value} {L M : List RecD} (hx : Lg 102 w X cx vx L) (hy : Lg 133 w Y cy vy M) (hb : Below w0.heap.size w0 w)
    (ly : ∀ b, LogC.F Y vy b → w0.heap.size ≤ b) (xy : ∀ b, LogC.F X vx b → ¬ LogC.F Y vy b) (he : Ext (LogC.F Y vy) w (LogC.F Y vy') w') :
    Lg 102 w' X cx vx L ∧ Below w0.heap.size w0 w' ∧ (∀ b, LogC.F Y vy' b → w0.heap.size ≤ b) ∧ ∀ b, LogC.F X vx b → ¬ LogC.F Y vy' b := by
  refine ⟨hx.apart he xy, hb.trans (he.below ly hb.size), he.low ly hb.size, fun b h1 h2 => ?_⟩
  rcases he.grow b h2 with h | h
  · exact xy b h1 h
  · have := hx.low h1; omega

theorem room29 {c : LogC} (h1 : c.blocks = 29) (h2 : c.base ≤ 100000) {n : Nat} (hn : n ≤ 100) : 1 ≤ roomN c n := by unfold roomN; rw [h1]; omega

/-- what logs leaves -/
def LogsPost (w : World) (base : Int) (L : List RecD) (e : Ending) (w' : World) : Prop :=
  ∃ X Y dx dy vx vy, e = .returned (.tuple #[.pointer (some ⟨X, 0, none⟩), .pointer (some ⟨Y, 0, none⟩), .bool true]) ∧ Two w w' X Y ⟨dx, 1, 29, base, 1, 0⟩ ⟨dy, 1, 29, base, 1, base⟩ vx vy L

set_option maxRecDepth 20000 in
set_option maxHeartbeats 4000000 in
theorem chainLogs {ea : Nat → Addr} (v : Value) (L : List RecD) (base : Int) (w : World) (hs : Sen ea w) (hv : Gs w v L) (hok : ∀ r ∈ L, okR r = true) (hl : L.length ≤ 100) (hb0 : 0 ≤ base) (hb1 : base ≤ 100000) :
    Calls Tryd.prog 37 #[v, .int .i64 base] w (LogsPost w base L) := by
  have HV := Lib.hid hv
  have HS := Lib.hid hs
  have HOK := Lib.hid hok
  have HI0 := Lib.hid (fun W (hb : Below w.heap.size w W) => isC (ea := ea) W (hs.below hb) 0 (Or.inl rfl) 0)
  obtain ⟨hW, o, cap, rfl, hc1, hc2, hc3, hcell⟩ := hv
  unfold maxLen at hc2
  have HCELL := Lib.hid (fun k (hk : k < L.length) => Gs.at_ hW hcell hk)
  have HWL := Lib.hid hW
  obtain ⟨n, hn⟩ : ∃ n, n = L.length := ⟨_, rfl⟩
  rw [← hn] at hc1 hl ⊢
  have HN := Lib.hid hn
  clear hs hok hn hcell hc3 hW
  go_enter Tryd.func37, Tryd.ntmps37
  go_wp2_with fail
  refine (dskNew 30 w).mono ?_
  rintro e w1 ⟨⟨H, g, rfl, _, _⟩, hb1'⟩
  have HB1 := Lib.hid hb1'
  clear hb1'
  go_wp2_with fail
  refine (walNew (.pointer (some ⟨H, 0, none⟩)) 1 29 base 1 w1 _ rfl).mono ?_
  rintro e w2 ⟨rfl, rfl⟩
  have hcx : LogC.Ok ⟨.pointer (some ⟨H, 0, none⟩), 1, 29, base, 1, 0⟩ := ⟨hb0, by simp; omega, by simp, by simp, by simp, by simp⟩
  have hx2 := Lg.new 102 w1 ⟨.pointer (some ⟨H, 0, none⟩), 1, 29, base, 1, 0⟩ hcx
  have hb2 : Below w.heap.size w (w1.alloc (.cells (headCs ⟨.pointer (some ⟨H, 0, none⟩), 1, 29, base, 1, 0⟩ (.slice none 0 0)) 102)) := HB1.out.alloc HB1.out.size _
  generalize (w1.alloc (.cells (headCs ⟨.pointer (some ⟨H, 0, none⟩), 1, 29, base, 1, 0⟩ (.slice none 0 0)) 102)) = w2 at hx2 hb2 ⊢
  obtain ⟨X, hX⟩ : ∃ X, X = w1.heap.size := ⟨_, rfl⟩
  have HXL : Hid (w.heap.size ≤ X) := Lib.hid (by rw [hX]; exact HB1.out.size)
  rw [← hX] at hx2 ⊢
  have HX2 := Lib.hid hx2
  have HB2 := Lib.hid hb2
  clear hX hx2 hb2 HB1
  go_wp2_with fail
  refine (refNewDisk w2).mono ?_
  rintro e w3 ⟨⟨D, rfl⟩, hb3⟩
  have HB3 := Lib.hid (HB2.out.trans (hb3.mono HB2.out.size))
  have HX3 := Lib.hid (HX2.out.below hb3)
  clear hb3 HX2 HB2
  go_wp2_with fail
  refine (refNew (.pointer (some ⟨D, 0, none⟩)) 1 29 base 1 w3 _ rfl).mono ?_
  rintro e w4 ⟨rfl, rfl⟩
  have hcy : LogC.Ok ⟨.pointer (some ⟨D, 0, none⟩), 1, 29, base, 1, base⟩ := ⟨hb0, by simp; omega, by simp, by simp, by simp, by simp⟩
  have hy4 := Lg.new 133 w3 ⟨.pointer (some ⟨D, 0, none⟩), 1, 29, base, 1, base⟩ hcy
  have hb4 : Below w3.heap.size w3 (w3.alloc (.cells (headCs ⟨.pointer (some ⟨D, 0, none⟩), 1, 29, base, 1, base⟩ (.slice none 0 0)) 133)) := (Below.refl _ _).alloc (Nat.le_refl _) _
  have HT0 : Hid (Two w (w3.alloc (.cells (headCs ⟨.pointer (some ⟨D, 0, none⟩), 1, 29, base, 1, base⟩ (.slice none 0 0)) 133)) X w3.heap.size ⟨.pointer (some ⟨H, 0, none⟩), 1, 29, base, 1, 0⟩ ⟨.pointer (some ⟨D, 0, none⟩), 1, 29, base, 1, base⟩ (.slice none 0 0) (.slice none 0 0) []) := Lib.hid
    ⟨HX3.out.below hb4, hy4, HB3.out.trans (hb4.mono HB3.out.size), fun b hb => by
        rcases hb with rfl | hb
        · exact HXL.out
        · simp [Value.ownBlock] at hb, fun b hb => by
        rcases hb with rfl | hb
        · exact HB3.out.size
        · simp [Value.ownBlock] at hb, fun b hb1 hb2 => by
        rcases hb1 with rfl | hb1
        · rcases hb2 with h | hb2
          · have := HX3.out.low (.inl rfl); omega
          · simp [Value.ownBlock] at hb2
        · simp [Value.ownBlock] at hb1⟩
  generalize (w3.alloc (.cells (headCs ⟨.pointer (some ⟨D, 0, none⟩), 1, 29, base, 1, base⟩ (.slice none 0 0)) 133)) = w4 at HT0 ⊢
  generalize w3.heap.size = Y at HT0 ⊢
  clear hy4 hb4 HX3 HB3 HXL hcx hcy
  go_wp2_with fail
  go_loopw [10] (fun i wr => ∃ k : Nat, i = .int .i64 k ∧ (k : Int) ≤ n ∧ ∃ vx vy, Hid (Two w wr X Y ⟨.pointer (some ⟨H, 0, none⟩), 1, 29, base, 1, 0⟩ ⟨.pointer (some ⟨D, 0, none⟩), 1, 29, base, 1, base⟩ vx vy (L.take k))) (fun i _ => n - (intOf i).toNat)
  case atStart => exact ⟨0, rfl, by omega, _, _, HT0⟩
  case round =>
    obtain ⟨k, rfl, hk, vx, vy, HT⟩ := hrel
    clear HT0
    by_cases hkn : (k : Int) < n
    · obtain ⟨gr, off, r, rfl, hr, hrw, hcs⟩ := HCELL.out k (by have := HN.out; omega)
      have hokr : okR r = true := HOK.out r (List.mem_of_getElem? hr)
      have hlen : (L.take k).length = k := by rw [List.length_take]; have := HN.out; omega
      have htk : L.take k ++ [r] = L.take (k + 1) := by rw [List.take_add_one, hr]; rfl
      have hax := walAppend HT.out.x (HS.out.below HT.out.bel) r hrw hokr (room29 rfl hb1 (by rw [hlen]; omega)) (by rw [hlen]; omega)
      rw [hlen, htk] at hax
      have HAX := Lib.hid hax
      have hay := fun W vy (hy : Lg 133 W Y ⟨.pointer (some ⟨D, 0, none⟩), 1, 29, base, 1, base⟩ vy (L.take k)) => refAppend hy r hrw hokr (room29 rfl hb1 (by rw [hlen]; omega)) (by rw [hlen]; omega)
      rw [hlen, htk] at hay
      have HAY := Lib.hid hay
      have HC := Lib.hid (fun (W : World) (hb : Below w.heap.size w W) => (show cells10 W gr (off + k * 10) r from by
        obtain ⟨c0, c1, c2, c3, c4, c5, c6, c7, c8, c9⟩ := hcs
        exact ⟨(hb.cell (Below.lt c0)).trans c0, (hb.cell (Below.lt c1)).trans c1, (hb.cell (Below.lt c2)).trans c2, (hb.cell (Below.lt c3)).trans c3, (hb.cell (Below.lt c4)).trans c4, (hb.cell (Below.lt c5)).trans c5, (hb.cell (Below.lt c6)).trans c6, (hb.cell (Below.lt c7)).trans c7, (hb.cell (Below.lt c8)).trans c8, (hb.cell (Below.lt c9)).trans c9⟩))
      clear hax hay hr hrw hcs hokr hlen htk
      obtain ⟨c0, c1, c2, c3, c4, c5, c6, c7, c8, c9⟩ := HC.out _ HT.out.bel
      obtain ⟨a0, a1, a2, a3, a4, a5, a6, a7, a8, a9⟩ := r
      dsimp only [recV] at HAX HAY c0 c1 c2 c3 c4 c5 c6 c7 c8 c9
      go_wp2_with fail
      refine HAX.out.mono ?_
      clear HAX
      rintro e w5 ⟨rfl, vx5, hx5, he5⟩
      obtain ⟨hy5, hb5, lx5, xy5⟩ := Two.turnX HT.out.x HT.out.y HT.out.bel HT.out.lx HT.out.xy he5
      have HX5 := Lib.hid hx5
      have HY5 := Lib.hid hy5
      have HB5 := Lib.hid hb5
      have HLX5 := Lib.hid lx5
      have HXY5 := Lib.hid xy5
      have HLY := Lib.hid HT.out.ly
      clear hx5 hy5 hb5 lx5 xy5 he5 HT c0 c1 c2 c3 c4 c5 c6 c7 c8 c9
      obtain ⟨c0, c1, c2, c3, c4, c5, c6, c7, c8, c9⟩ := HC.out _ HB5.out
      dsimp only at c0 c1 c2 c3 c4 c5 c6 c7 c8 c9
      go_wp2_with fail
      refine (HAY.out _ _ HY5.out).mono ?_
      clear HAY
      rintro e w6 ⟨rfl, vy6, hy6, he6⟩
      obtain ⟨hx6, hb6, ly6, xy6⟩ := Two.turnY HX5.out HY5.out HB5.out HLY.out HXY5.out he6
      have HT6 : Hid (Two w w6 X Y ⟨.pointer (some ⟨H, 0, none⟩), 1, 29, base, 1, 0⟩ ⟨.pointer (some ⟨D, 0, none⟩), 1, 29, base, 1, base⟩ vx5 vy6 (L.take (k + 1))) := Lib.hid ⟨hx6, hy6, hb6, HLX5.out, ly6, xy6⟩
      clear hx6 hy6 hb6 ly6 xy6 he6 HX5 HY5 HB5 HLX5 HXY5 HLY c0 c1 c2 c3 c4 c5 c6 c7 c8 c9
      go_wp2_with fail
      have hi := HI0.out _ HT6.out.bel
      rw [eC_zero] at hi
      refine hi.mono ?_
      rintro e w7 ⟨rfl, hb7⟩
      have HT7 : Hid (Two w w7 X Y ⟨.pointer (some ⟨H, 0, none⟩), 1, 29, base, 1, 0⟩ ⟨.pointer (some ⟨D, 0, none⟩), 1, 29, base, 1, base⟩ vx5 vy6 (L.take (k + 1))) := Lib.hid
        ⟨HT6.out.x.below hb7, HT6.out.y.below hb7, HT6.out.bel.trans (hb7.mono HT6.out.bel.size), HT6.out.lx, HT6.out.ly, HT6.out.xy⟩
      clear hi hb7 HT6
      go_wp2_with fail
      go_roundw
      case rel => exact ⟨k + 1, by go_num, by omega, _, _, HT7⟩
      case measure => simp [intOf]; omega
    · obtain rfl : k = n := by omega
      have hfin : L.take k = L := List.take_of_length_le (by have := HN.out; omega)
      rw [hfin] at HT
      go_wp2_with fail
      go_ret3
      exact ⟨_, _, _, _, _, _, rfl, HT.out⟩

theorem normFine {ea : Nat → Addr} {w : World} {X : Nat} {c : LogC} {v : Value} {L : List RecD} (h : Lg 102 w X c v L) (hs : Sen ea w) (lsn k : Int) (hl1 : -9223372036854775808 ≤ lsn) (hl2 : lsn ≤ 9223372036854775807) (hn : norm c.base L lsn = (k, none)) :
    Calls Tryd.prog 38 #[.pointer (some ⟨X, 0, none⟩), .int .i64 lsn] w fun e w' => e = .returned (.tuple #[.int .i64 k, .nilIface]) ∧ Below w.heap.size w w' := by
  refine (chainNorm h hs lsn hl1 hl2).mono ?_
  rintro e w' ⟨hb, h⟩
  rw [hn] at h
  rcases h with ⟨_, rfl⟩ | ⟨p, a, hp, _⟩
  · exact ⟨rfl, hb⟩
  · simp at hp
theorem normBad {ea : Nat → Addr} {w : World} {X : Nat} {c : LogC} {v : Value} {L : List RecD} (h : Lg 102 w X c v L) (hs : Sen ea w) (lsn p : Int) (hl1 : -9223372036854775808 ≤ lsn) (hl2 : lsn ≤ 9223372036854775807) (hn : (norm c.base L lsn).2 = some p) :
    Calls Tryd.prog 38 #[.pointer (some ⟨X, 0, none⟩), .int .i64 lsn] w fun e w' => ∃ a, e = .returned (.tuple #[.int .i64 0, .iface 138 (.pointer (some ⟨a, 0, none⟩))]) ∧ Below w.heap.size w w' ∧ ErV ea w' (.iface 138 (.pointer (some ⟨a, 0, none⟩))) (.at_ p 7) := by
  refine (chainNorm h hs lsn hl1 hl2).mono ?_
  rintro e w' ⟨hb, h⟩
  rcases h with ⟨hp, _⟩ | ⟨q, a, hp, rfl, hev⟩
  · rw [hn] at hp; simp at hp
  · rw [hn] at hp
    obtain rfl : p = q := by simpa using hp
    exact ⟨a, rfl, hb, hev⟩
theorem allFine {ea : Nat → Addr} {w : World} {X : Nat} {c : LogC} {v : Value} {L : List RecD} (h : Lg 102 w X c v L) (hs : Sen ea w) (lsn : Int) (l : List Int) (hl1 : -9223372036854775808 ≤ lsn) (hl2 : lsn ≤ 9223372036854775807) (hn : chain c.base L [] lsn = (l, none)) :
    Calls Tryd.prog 39 #[.pointer (some ⟨X, 0, none⟩), .int .i64 lsn] w fun e w' => ∃ o cap, e = .returned (.tuple #[.slice o l.length cap, .nilIface]) ∧ Below w.heap.size w w' ∧ Ns .i64 w' (.slice o l.length cap) l := by
  refine (chainAll h hs lsn hl1 hl2).mono ?_
  rintro e w' ⟨hb, h⟩
  rw [hn] at h
  rcases h with ⟨_, o, cap, rfl, hv⟩ | ⟨p, a, hp, _⟩
  · exact ⟨o, cap, rfl, hb, hv⟩
  · simp at hp
theorem allBad {ea : Nat → Addr} {w : World} {X : Nat} {c : LogC} {v : Value} {L : List RecD} (h : Lg 102 w X c v L) (hs : Sen ea w) (lsn p : Int) (hl1 : -9223372036854775808 ≤ lsn) (hl2 : lsn ≤ 9223372036854775807) (hn : (chain c.base L [] lsn).2 = some p) :
    Calls Tryd.prog 39 #[.pointer (some ⟨X, 0, none⟩), .int .i64 lsn] w fun e w' => ∃ a, e = .returned (.tuple #[.slice none 0 0, .iface 138 (.pointer (some ⟨a, 0, none⟩))]) ∧ Below w.heap.size w w' ∧ ErV ea w' (.iface 138 (.pointer (some ⟨a, 0, none⟩))) (.at_ p 7) := by
  refine (chainAll h hs lsn hl1 hl2).mono ?_
  rintro e w' ⟨hb, h⟩
  rcases h with ⟨hp, _⟩ | ⟨q, a, hp, rfl, hev⟩
  · rw [hn] at hp; simp at hp
  · rw [hn] at hp
    obtain rfl : p = q := by simpa using hp
    exact ⟨a, rfl, hb, hev⟩
/-- an error around this record -/
theorem sameAt {ea : Nat → Addr} (w : World) (h : Sen ea w) (v : Value) (p : Int) (hv : ErV ea w v (.at_ p 7)) :
    Calls Tryd.prog 40 #[v, .agg #[.int .i64 108, .bool true, .int .i64 p]] w fun e w' => e = .returned (.bool true) ∧ Below w.heap.size w w' := by
  refine (sameAny w h v (.at_ p 7) hv 108 p true).mono ?_
  rintro e w' ⟨rfl, hb⟩
  refine ⟨?_, hb⟩
  simp [Er.code, Er.placed, Er.pos]

set_option maxHeartbeats 1000000 in
theorem chainFirst {ea : Nat → Addr} (w : World) (hs : Sen ea w) :
    Calls Tryd.prog 36 #[] w fun e w' => e = .returned (.bool true) ∧ Below w.heap.size w w' := by
  have HL := Lib.hid (chainLogs (ea := ea) (.slice none 0 0) [] 0 w hs (Gs.nil w) (fun r h => by simp at h) (by simp) (by omega) (by omega))
  have HS := Lib.hid hs
  clear hs
  go_enter Tryd.func36, Tryd.ntmps36
  go_wp2_with fail
  refine HL.out.mono ?_
  rintro e w1 ⟨X, Y, dx, dy, vx, vy, rfl, ht⟩
  have HB1 := Lib.hid ht.bel
  have HA := Lib.hid (allFine ht.x (HS.out.below ht.bel) 0 [] (by omega) (by omega) (chain_end (norm_zero _ _)))
  clear ht HL
  go_wp2_with fail
  refine HA.out.mono ?_
  rintro e w2 ⟨o, cap, rfl, hb2, _⟩
  have HB2 := Lib.hid (HB1.out.trans (hb2.mono HB1.out.size))
  clear hb2 HA
  dsimp only [List.length_nil]
  go_wp2_with fail
  go_ret
  exact ⟨rfl, HB2.out⟩

/-- two records written out -/
theorem recs2_laid (a0 a1 a2 a3 a4 a5 a8 a9 b0 b1 b2 b3 b4 b5 b8 b9 : Int) (a6 a7 b6 b7 : Bool) (w : World) : (Instr.buildSlice 60 2 #[(0, .agg #[.int .i64 a0, .int .i64 a1, .int .i64 a2, .int .i64 a3, .int .i64 a4, .int .i64 a5, .bool a6, .bool a7, .int .i64 a8, .int .i64 a9]), (1, .agg #[.int .i64 b0, .int .i64 b1, .int .i64 b2, .int .i64 b3, .int .i64 b4, .int .i64 b5, .bool b6, .bool b7, .int .i64 b8, .int .i64 b9])]).run Tryd.prog w = .ok (.slice (some ⟨w.heap.size, 0, none⟩) 2 2) (w.alloc (.cells #[.int .i64 a0, .int .i64 a1, .int .i64 a2, .int .i64 a3, .int .i64 a4, .int .i64 a5, .bool a6, .bool a7, .int .i64 a8, .int .i64 a9, .int .i64 b0, .int .i64 b1, .int .i64 b2, .int .i64 b3, .int .i64 b4, .int .i64 b5, .bool b6, .bool b7, .int .i64 b8, .int .i64 b9] 33)) := by kernel_rfl
theorem wpList_buildSlice_run {P : Program} (w : World) {ops : Array Oper} {rest : List Oper} {o : Oper} {a : Act} {Q : Exit → Act → World → Prop} (hgd : o.guard = none) (t : TypeId) (n : Nat) (ps : Array (Nat × Operand)) (ho : o.op = .buildSlice t n ps) (vs : Array (Nat × Value)) (hv : (ps.map fun (i, x) => (i, a.eval x)) = vs) (v' : Value) (w' : World)
    (hr : (Instr.buildSlice t n vs).run P w = .ok v' w') (h : wpList P ops Q rest (a.put o.dst v') w') : wpList P ops Q (o :: rest) a w :=
  wpList_step fun K hK => step_buildSlice_run w hgd t n ps ho vs hv v' w' hr (hK _ _ h)
/-- a row of records is a slice of them -/
theorem Gs.lit {w : World} {g : Nat} {L : List RecD} (h : w.heap[g]? = some (.cells (L.flatMap recCl).toArray 33 (0, 0))) (hW : ∀ r ∈ L, r.W) (n : Nat) (hn : n = L.length) (hm : n ≤ 1000) : Gs w (.slice (some ⟨g, 0, none⟩) n n) L := by
  subst hn
  refine ⟨hW, _, _, rfl, Nat.le_refl _, by simp [maxLen]; omega, by simp, fun _ => ⟨g, 0, rfl, fun i r hr j hj => ?_⟩⟩
  rw [cell_of_row w g _ _ _ _ h, Nat.zero_add]
  simpa using flatR L i j r hr hj
end Go.Proofs.YtccfiohcblecoaaDoor
