/- The walk of the law DiskKeeps. -/
import Derived.Test.YtcpicfahajhplaaDoorDskK
import Derived.Test.YtcpicfahajhplaaDoorFilled
import Derived.Test.YtcpicfahajhplaaDoorNum
import Derived.Test.YtcpicfahajhplaaDoorBytesR
import Derived.Test.YtcpicfahajhplaaDoorSame
import Derived.Deep.CutRange
namespace Go.Proofs.YtcpicfahajhplaaDoor
open Go.RowKit
set_option linter.unusedVariables false

theorem diskKeeps_idle {ea : Nat → Addr} (v u : Value) (l keep : List Int) (syn : Int) (w : World) (hs : D3 ea w) (hv : Ns .i64 w v l) (hu : Ns .i64 w u keep) (hbig : (40 : Int) < l.length ∨ (20 : Int) < keep.length) :
    Calls Tryd.prog 5 #[v, u, .int .i64 syn] w fun e w' => e = .returned (.bool true) ∧ Below w.heap.size w w' := by
  obtain ⟨_, o, cap, rfl, hc1, hc2, hc3, _⟩ := hv
  obtain ⟨_, o', cap', rfl, hd1, hd2, hd3, _⟩ := hu
  unfold maxLen at hc2 hd2
  have HF := Lib.hid (dskFirst w hs)
  clear hs
  generalize l.length = n at *
  generalize keep.length = k at *
  by_cases h1 : (40 : Int) < n
  · go_enter Tryd.func5, Tryd.ntmps5
    go_wp2_with fail
    refine HF.out.mono ?_
    rintro e w1 ⟨rfl, hb1⟩
    have HB1 := Lib.hid hb1
    clear hb1
    go_wp2_with fail
    go_ret
    exact ⟨rfl, HB1.out⟩
  · have h2 : (20 : Int) < k := by omega
    go_enter Tryd.func5, Tryd.ntmps5
    go_wp2_with fail
    refine HF.out.mono ?_
    rintro e w1 ⟨rfl, hb1⟩
    have HB1 := Lib.hid hb1
    clear hb1
    go_wp2_with fail
    go_ret
    exact ⟨rfl, HB1.out⟩

theorem upd_lt {α : Type} (a b : α) (k : Nat) : upd (fun s => if s < k then a else b) k a = fun s => if s < k + 1 then a else b := by
  funext s
  unfold upd
  by_cases e : s = k
  · subst e; simp
  · rw [if_neg e]
    show (if s < k then a else b) = _
    by_cases h : s < k
    · rw [if_pos h, if_pos (by omega)]
    · rw [if_neg h, if_neg (by omega)]
theorem upd_drop (M : Nat → List Int) (f : List Int → List Int) (k : Nat) : upd (fun s => if s < k then f (M s) else M s) k (f (M k)) = fun s => if s < k + 1 then f (M s) else M s := by
  funext s
  unfold upd
  by_cases e : s = k
  · subst e; simp
  · rw [if_neg e]
    show (if s < k then f (M s) else M s) = _
    by_cases h : s < k
    · rw [if_pos h, if_pos (by omega)]
    · rw [if_neg h, if_neg (by omega)]
def lastL (l : List Int) : List Int := l.drop (l.length - 1)

set_option maxRecDepth 20000 in
set_option maxHeartbeats 4000000 in
theorem diskKeeps_walk0 {ea : Nat → Addr} (v u : Value) (l keep : List Int) (syn : Int) (y1 : -9223372036854775808 ≤ syn) (y2 : syn ≤ 9223372036854775807) (w : World) (hs : D3 ea w) (hv : Ns .i64 w v l) (hu : Ns .i64 w u keep) (hl : (l.length : Int) ≤ 40) (hkp : (keep.length : Int) ≤ 20) :
    Calls Tryd.prog 5 #[v, u, .int .i64 syn] w fun e w' => e = .returned (.bool true) ∧ Below w.heap.size w w' := by
  have HU := Lib.hid hu
  obtain ⟨hwf, o, cap, rfl, hc1, hc2, hc3, hcell⟩ := hv
  obtain ⟨_, o', cap', rfl, hd1, hd2, hd3, hucell⟩ := hu
  unfold maxLen at hc2 hd2
  have HF := Lib.hid (dskFirst w hs)
  have HS := Lib.hid hs
  have HKL := Lib.hid hkp
  have HULT : Hid (∀ b, (Value.slice o' keep.length cap').ownBlock = some b → b < w.heap.size ∨ keep = []) := Lib.hid (fun b e => by
    by_cases hne : keep = []
    · exact .inr hne
    · obtain ⟨a, ha, hc⟩ := hucell hne
      left
      have hp : 0 < keep.length := List.length_pos_iff.2 hne
      have h1 := Below.lt (hc 0 hp)
      have e2 : (a.add 0).block = a.block := by unfold Addr.add; split <;> rfl
      rw [e2] at h1
      have : a.block = b := by rw [ha] at e; simpa [Value.ownBlock] using e
      omega)
  have hny := fun W => number syn ((l.length : Int) + 1) W (by omega) (by omega) y1 y2
  obtain ⟨sy, hsy⟩ := Int.eq_ofNat_of_zero_le (Int.emod_nonneg syn (show (l.length : Int) + 1 ≠ 0 by omega))
  rw [hsy] at hny
  have HCELL := Lib.hid (fun i (hi : i < l.length) => Ns.at_ hwf hcell hi)
  have HNEW := Lib.hid (fun W => dskNew 5 W)
  have h5 : (newD 5).l.length = 5 := newD_len 5
  have h5v : ∀ s, s < 5 → vers ((newD 5).sec s) = ((fun s => if s < 5 then [0] else []) s : List Int).map fillB := fun s hs => by
    rw [newD_sec0]
    simp only [if_pos hs]
    rfl
  have HD0 := Lib.hid (And.intro h5 (And.intro (show (newD 5).off = false from rfl) (And.intro (show (newD 5).fuse = -1 from rfl) h5v)))
  generalize newD 5 = d0 at HNEW HD0
  obtain ⟨n, hn⟩ : ∃ n, n = l.length := ⟨_, rfl⟩
  rw [← hn] at hc1 hl hny ⊢
  have HNY := Lib.hid hny
  have HN := Lib.hid hn
  obtain ⟨kn, hkn⟩ : ∃ kn, kn = keep.length := ⟨_, rfl⟩
  rw [← hkn] at hd1 hkp ⊢
  have HKN := Lib.hid hkn
  clear hsy hny hs hwf hcell hn h5 h5v y1 y2 hucell hkn
  go_enter Tryd.func5, Tryd.ntmps5
  go_wp2_with fail
  refine HF.out.mono ?_
  clear HF
  rintro e w1 ⟨rfl, hb1⟩
  have HB1 := Lib.hid hb1
  clear hb1
  go_wp2_with fail
  refine (HNEW.out _).mono ?_
  clear HNEW
  rintro e w2 ⟨⟨H, g, rfl, hd2', hlow⟩, hb2⟩
  have HD2 : Hid (HDk w H w2 d0 g) := Lib.hid ⟨hd2', HB1.out.trans (hb2.mono HB1.out.size), fun b hb => Nat.le_trans HB1.out.size (hlow b hb)⟩
  clear hd2' hlow hb2 HB1
  go_wp2_with fail
  refine (HNY.out _).mono ?_
  clear HNY
  rintro e w3 ⟨rfl, rfl⟩
  have hal : Below w2.heap.size w2 (w2.alloc (.cells #[.slice none 0 0, .slice none 0 0, .slice none 0 0, .slice none 0 0, .slice none 0 0] 43)) := (Below.refl _ _).alloc (Nat.le_refl _) _
  have HD3 := Lib.hid (HD2.out.below hal)
  have HM3 : Hid (M5 w2.heap.size (g.F H d0.l.length) (w2.alloc (.cells #[.slice none 0 0, .slice none 0 0, .slice none 0 0, .slice none 0 0, .slice none 0 0] 43)) (fun _ => .slice none 0 0) (fun s => if s < 0 then [0] else [])) := Lib.hid
    ⟨heap_alloc_new w2 _, fun k hk => by rw [if_neg (by omega)]; exact Bs.nil _, fun k hk b e => by simp [Value.ownBlock] at e⟩
  have HNA : Hid (¬ g.F H d0.l.length w2.heap.size) := Lib.hid (fun hf => by have := HD2.out.dk.low hf; omega)
  have HLA : Hid (w.heap.size ≤ w2.heap.size) := Lib.hid HD2.out.bel.size
  clear hal HD2
  go_wp2_with fail
  generalize (w2.alloc (.cells #[.slice none 0 0, .slice none 0 0, .slice none 0 0, .slice none 0 0, .slice none 0 0] 43)) = w3 at HD3 HM3 ⊢
  generalize w2.heap.size = A at HM3 HNA HLA ⊢
  -- the five lists begin as [0]
  go_loopw [10] (fun i wr => ∃ k : Nat, i = .int .i64 k ∧ (k : Int) ≤ 5 ∧ ∃ vs, Hid (HDk w H wr d0 g) ∧ Hid (M5 A (g.F H d0.l.length) wr vs (fun s => if s < k then [0] else []))) (fun i _ => 5 - (intOf i).toNat)
  case atStart => exact ⟨0, rfl, by omega, _, HD3, HM3⟩
  case round =>
    obtain ⟨k, rfl, hk, vs, HDR, HMR⟩ := hrel
    by_cases hk5 : (k : Int) < 5
    · have hal : Below wr.heap.size wr (wr.alloc (.cells #[.int .u8 0] 5)) := (Below.refl _ _).alloc (Nat.le_refl _) _
      have hone := Ob.one (e := 5) (w := wr) (base := wr.heap.size) (x := 0) (by omega) (by omega) (Nat.le_refl _)
      have hd4 := HDR.out.below hal
      have hm4 := HMR.out.below hal
      have hc4 := hm4.cell (k := k) (by omega)
      have hf4 := hm4.frozen k
      have hset := hm4.set (k := k) (by omega) (.slice (some ⟨wr.heap.size, 0, none⟩) 1 1) [0] hone.bs (fun b e => by
        have e' : wr.heap.size = b := by simpa [Value.ownBlock] using e
        subst e'
        exact ⟨by have := HMR.out.ltA; omega, fun hf => by have := HDR.out.dk.low hf; omega, by rw [allocSize]; omega⟩)
      rw [upd_lt] at hset
      have HM5 := Lib.hid hset
      have HD5 := Lib.hid (hd4.setA HNA.out HLA.out k (.slice (some ⟨wr.heap.size, 0, none⟩) 1 1))
      clear hal hone hd4 hm4 hset HDR HMR HD3 HM3
      go_wp2_with fail
      go_roundw
      case rel => exact ⟨k + 1, by go_num, by omega, _, HD5, HM5⟩
      case measure => simp [intOf]; omega
    · obtain rfl : k = 5 := by omega
      have HK0 : Hid (KState w H A 0 wr d0 g vs (fun s => if s < 5 then [0] else [])) := Lib.hid
        ⟨HDR.out, HNA.out, HLA.out, HMR.out, HD0.out.1, HD0.out.2.1, HD0.out.2.2.1, HD0.out.2.2.2, fun s hs => by simp [hs]⟩
      clear HDR HMR HNA HD0 HD3 HM3
      go_wp2_with fail
      -- the writes
      go_loopw [11] (fun i wx => ∃ i' : Nat, i = .int .i64 i' ∧ (i' : Int) ≤ n ∧ ∃ d g vs M, Hid (KState w H A i' wx d g vs M)) (fun i _ => n - (intOf i).toNat)
      case atStart => exact ⟨0, rfl, by omega, d0, g, vs, _, HK0⟩
      case round =>
        clear HK0
        obtain ⟨i, rfl, hi, d, g1, vs1, M, HK⟩ := hrel
        by_cases hi2 : (i : Int) < n
        · go_upto_if 54 with fail
          go_cut [] from 46 to 95 (fun wx => ∃ d' g' vs' M', Hid (KState w H A i wx d' g' vs' M'))
          case first =>
            cases hb : ((i : Int) == (sy : Int)) with
            | true =>
              have hsy := dskSync HK.out.hd.dk (HS.out.below HK.out.hd.bel) (HK.out.hd.noOff HS.out)
              obtain ⟨p1, p2, p3, p4⟩ := syncK HK.out.off HK.out.fuse
              rw [p1, eC_zero] at hsy
              have HSY := Lib.hid hsy
              have HP := Lib.hid (And.intro p2 (And.intro p3 p4))
              clear hsy p1 p2 p3 p4
              go_wp2_with fail
              refine HSY.out.mono ?_
              clear HSY
              rintro e w4 ⟨rfl, g4, hd4, hx4⟩
              have HD4 := Lib.hid (HK.out.hd.turn hd4 hx4)
              have e0 : (fun s => if s < 0 then lastL (M s) else M s) = M := by funext s; rw [if_neg (by omega)]
              have hm4 := HK.out.m5.ext hx4 HK.out.notA
              rw [← e0] at hm4
              have HM4 := Lib.hid hm4
              have HNA4 := Lib.hid (notA_ext hx4 HK.out.notA HK.out.m5.ltA)
              clear hd4 hx4 e0 hm4
              go_wp2_with fail
              go_loopw [12] (fun s wx => ∃ t : Nat, s = .int .i64 t ∧ (t : Int) ≤ 5 ∧ ∃ vs', Hid (HDk w H wx (syncD d) g4) ∧ Hid (M5 A (g4.F H (syncD d).l.length) wx vs' (fun s => if s < t then lastL (M s) else M s))) (fun s _ => 5 - (intOf s).toNat)
              case atStart => exact ⟨0, rfl, by omega, vs1, HD4, HM4⟩
              case round =>
                obtain ⟨t, rfl, ht, vs', HDR, HMR⟩ := hrel
                by_cases ht5 : (t : Int) < 5
                · have ht5n : t < 5 := by omega
                  have hbt := HMR.out.bs t ht5n
                  simp only [if_neg (Nat.lt_irrefl t)] at hbt
                  have hct := HMR.out.cell ht5n
                  have hft := HMR.out.frozen t
                  have hown := HMR.out.own t ht5n
                  have hln := vers_len _ _ (HK.out.ver t ht5n)
                  obtain ⟨_, ot, ct, hvt, hct1, hct2, _, hcc⟩ := id hbt
                  obtain ⟨at_, hat, _⟩ := hcc (by intro e; rw [e] at hln; simp at hln)
                  subst hat
                  rw [hvt] at hbt hct hown
                  have hsub := hbt.sub ((M t).length - 1) (M t).length (by omega) (Nat.le_refl _)
                  rw [if_neg (by omega), List.take_length] at hsub
                  simp only [Option.map_some] at hsub
                  have hset := HMR.out.set ht5n _ (lastL (M t)) hsub (fun b e => hown b (by
                    have eb : (at_.add ((M t).length - 1)).block = at_.block := by unfold Addr.add; split <;> rfl
                    simp only [Value.ownBlock, eb] at e
                    simpa [Value.ownBlock] using e))
                  rw [upd_drop M lastL t] at hset
                  unfold maxLen at hct2
                  obtain ⟨L, hL⟩ : ∃ L, L = (M t).length := ⟨_, rfl⟩
                  rw [← hL] at hct hln hct1 hset
                  have hL1 : 1 ≤ L := by omega
                  have HSET := Lib.hid hset
                  clear hbt hown hln hvt hsub hset hL hcc HMR HM4 HD4
                  have hL2 : (1 : Int) ≤ (L : Int) := by omega
                  have hw1 : IntKind.i64.wrap ((L : Int) - 1) = (L : Int) - 1 := by rw [IntKind.wrap_i64]; omega
                  have hL5 : ¬ ct = L - 1 := by omega
                  have hL6 : (L : Int) - 1 ≤ (L : Int) := by omega
                  have hL3 : (L : Int) ≤ (ct : Int) := by omega
                  have hL4 : ((L : Int) - 1).toNat = L - 1 := by omega
                  go_wp2_with fail
                  go_region_law (fail)
                  all_goals
                    have HD5 := Lib.hid (HDR.out.setA HNA4.out HLA.out t (.slice (some (at_.add (L - 1))) (L - (L - 1)) (ct - (L - 1))))
                    go_wp2_with fail
                    go_roundw
                    case rel => exact ⟨t + 1, by go_num, by omega, _, Lib.hid ⟨HD5.out.dk.same (Nat.le_refl _) (fun _ _ => rfl), ⟨HD5.out.bel.os, HD5.out.bel.tape, HD5.out.bel.output, HD5.out.bel.size, HD5.out.bel.block⟩, HD5.out.low⟩, Lib.hid (HSET.out.below ⟨rfl, rfl, rfl, Nat.le_refl _, fun _ _ => rfl⟩)⟩
                    case measure => simp [intOf]; omega
                · obtain rfl : t = 5 := by omega
                  have HFIN : Hid (KState w H A i wr (syncD d) g4 vs' (fun s => if s < 5 then lastL (M s) else M s)) := Lib.hid
                    ⟨HDR.out, HNA4.out, HLA.out, HMR.out, by rw [syncD_len]; exact HK.out.len, HP.out.1, HP.out.2.1,
                      fun s hs => by rw [HP.out.2.2 s (by rw [HK.out.len]; exact hs), if_pos hs]; exact vers_sync _ _ (HK.out.ver s hs),
                      fun s hs => by rw [if_pos hs]; unfold lastL; rw [List.length_drop]; omega⟩
                  go_wp2_with fail
                  go_meet
                  exact ⟨_, _, _, _, HFIN⟩
            | false =>
              go_wp2_with fail
              go_meet
              exact ⟨d, g1, vs1, M, HK⟩
          obtain ⟨d1, g2, vs2, M2, HK1⟩ := hcut
          clear HK
          generalize wc = w5 at HK1 ⊢
          obtain ⟨a, x, ha, hxc, _, hxw⟩ := HCELL.out i (by rw [← HN.out]; omega)
          subst ha
          have hxc1 : w5.cell? (a.add i) = some (.int .i64 x) := (HK1.out.hd.bel.cell (Below.lt hxc)).trans hxc
          have hxb := wf_i64 hxw
          have hnx := fun W => number x 5 W (by omega) (by omega) hxb.1 hxb.2
          obtain ⟨t, ht⟩ := Int.eq_ofNat_of_zero_le (Int.emod_nonneg x (show (5 : Int) ≠ 0 by omega))
          have ht1 := Int.emod_lt_of_pos x (show (0 : Int) < 5 by omega)
          rw [ht] at hnx ht1
          have HNX := Lib.hid hnx
          have ht5 : t < 5 := by omega
          clear hnx ht hxb hxw hxc
          go_wp2_with fail
          refine (HNX.out _).mono ?_
          clear HNX
          rintro e w6 ⟨rfl, rfl⟩
          clear hxc1
          have hbt := HK1.out.m5.bs t ht5
          have hct := HK1.out.m5.cell ht5
          have hln := vers_len _ _ (HK1.out.ver t ht5)
          have hle := HK1.out.le t ht5
          obtain ⟨_, ot, ct, hvt, hct1, hct2, _, _⟩ := id hbt
          unfold maxLen at hct2
          rw [hvt] at hct hbt
          have HBT := Lib.hid hbt
          obtain ⟨L, hL⟩ : ∃ L, L = (M2 t).length := ⟨_, rfl⟩
          rw [← hL] at hct hct1 hle hln
          have HLL := Lib.hid hL
          have hL40 : L ≤ 41 := by omega
          clear hbt hvt hL
          go_wp2_with fail
          have hbt2 := HBT.out
          rw [← HLL.out] at hbt2
          refine (bytesRef _ (M2 t) _ hbt2 (by rw [← HLL.out]; omega)).mono ?_
          rintro e w7 ⟨vb, rfl, hb7, hob⟩
          have hal7 : Below w7.heap.size w7 (w7.alloc (.cells #[.int .u8 ((i : Int) + 1)] 5)) := (Below.refl _ _).alloc (Nat.le_refl _) _
          have hba7 : Below w5.heap.size w5 (w7.alloc (.cells #[.int .u8 ((i : Int) + 1)] 5)) := hb7.trans (hal7.mono hb7.size)
          obtain ⟨v8, w8, hr, h1, h2, h3⟩ := byteT.append 27 (w7.alloc (.cells #[.int .u8 ((i : Int) + 1)] 5)) w5.heap.size _ (M2 t) (hob.below hal7) _ [(i : Int) + 1] (Ob.one (base := 0) (by omega) (by omega) (Nat.zero_le _)).bs (by rw [← HLL.out]; simp; omega) (by rw [allocSize]; have := hb7.size; omega)
          have hb8 : Below w5.heap.size w5 w8 := (hob.below hal7).grown h2 hba7 (Nat.le_refl _) (by rw [allocSize]; have := hb7.size; omega)
          have hlen8 : (M2 t ++ [(i : Int) + 1]).length = L + 1 := by rw [List.length_append, ← HLL.out]; rfl
          have hk8 := HK1.out.below hb8
          have hset := hk8.m5.set ht5 v8 (M2 t ++ [(i : Int) + 1]) h1.bs (fun b e => by
            obtain ⟨e1, e2⟩ := h1.lt e
            exact ⟨by have := HK1.out.m5.ltA; omega, fun hf => by have := HK1.out.hd.dk.low hf; omega, e2⟩)
          have hd9 := hk8.hd.setA hk8.notA hk8.lowA t v8
          have hc8 := hk8.m5.cell ht5
          have hf8 := hk8.m5.frozen t
          obtain ⟨_, o8, c8, hv8, h81, h82, _, _⟩ := h1.bs
          obtain ⟨_, ob, cb, hvb, hb1, hb2, _, _⟩ := hob.bs
          rw [hlen8] at hv8 h81
          rw [← HLL.out] at hvb hb1
          subst hv8
          subst hvb
          unfold maxLen at h82 hb2
          have HSET := Lib.hid hset
          have HD9 := Lib.hid hd9
          have hu8 : IntKind.u8.wrap ((i : Int) + 1) = (i : Int) + 1 := by rw [IntKind.wrap_u8]; omega
          clear hob hal7 hba7 h1 h2 h3 hb8 hk8 hset hd9 hb7 hbt2 HBT
          go_wp2_with (at_builtin; refine Lib.wpList_append_run _ rfl _ _ _ _ rfl _ _ rfl rfl _ _ hr ?_)
          generalize (w8.setCell ⟨A, t, none⟩ (.slice o8 (L + 1) c8)) = w9 at HSET HD9 ⊢
          clear hr hc8 hf8 hct
          refine (filled ((i : Int) + 1) _).mono ?_
          rintro e w10 ⟨⟨f, rfl, hf⟩, hb10⟩
          have HD10 := Lib.hid (HD9.out.below hb10)
          have HM10 := Lib.hid (HSET.out.below hb10)
          have hfb : Bs w10 f (fillB ((i : Int) + 1)) := hf.bs
          obtain ⟨q1, q2⟩ := writeK HK1.out.off HK1.out.fuse t (by rw [HK1.out.len]; exact ht5) (fillB ((i : Int) + 1)) (fillB_len _)
          have hwr := dskWrite HD10.out.dk (HS.out.below HD10.out.bel) (HD10.out.noOff HS.out) (t : Int) (by omega) (by omega) f _ hfb (by rw [Int.toNat_natCast]; omega)
          rw [q1, q2, eC_zero] at hwr
          have HWR := Lib.hid hwr
          clear hf hb10 hfb hwr q1 q2 HD9 HSET
          go_wp2_with fail
          refine HWR.out.mono ?_
          clear HWR
          rintro e w11 ⟨rfl, g11, hd11, hx11⟩
          have HFIN : Hid (KState w H A (i + 1) w11 (addL d1 t (fillB ((i : Int) + 1))) g11 (upd vs2 t (.slice o8 (L + 1) c8)) (upd M2 t (M2 t ++ [(i : Int) + 1]))) := Lib.hid
            ⟨HD10.out.turn hd11 hx11, notA_ext hx11 HK1.out.notA HM10.out.ltA, HK1.out.lowA, HM10.out.ext hx11 HK1.out.notA, by rw [addL_len]; exact HK1.out.len, HK1.out.off, HK1.out.fuse,
              fun s hs => by
                unfold addL
                rw [sec_set (by rw [HK1.out.len]; exact ht5)]
                by_cases e : s = t
                · subst e; rw [if_pos rfl, upd_at]; exact vers_add _ _ _ (HK1.out.ver s hs)
                · rw [if_neg e, upd_ne _ _ e]; exact HK1.out.ver s hs,
              fun s hs => by
                by_cases e : s = t
                · subst e; rw [upd_at, List.length_append, ← HLL.out]; simp; omega
                · rw [upd_ne _ _ e]; have := HK1.out.le s hs; omega⟩
          clear hd11 hx11 HD10 HM10
          go_wp2_with fail
          go_roundw
          case rel => exact ⟨i + 1, by go_num, by omega, _, g11, _, _, HFIN⟩
          case measure => simp [intOf]; omega
        · obtain rfl : i = n := by omega
          have hcr := dskCrash HK.out.hd.dk _ keep (HU.out.below HK.out.hd.bel) (fun hne b e hf => by
            rcases HULT.out b e with h | h
            · have := HK.out.hd.low b hf; omega
            · exact hne h) (by have := HKL.out; omega)
          rw [← HKN.out] at hcr
          have HCR := Lib.hid hcr
          clear hcr
          go_wp2_with fail
          refine HCR.out.mono ?_
          clear HCR
          rintro e w5 ⟨rfl, g5, hd5, hx5⟩
          have HD5 := Lib.hid (HK.out.hd.turn hd5 hx5)
          have HM5 := Lib.hid (HK.out.m5.ext hx5 HK.out.notA)
          have hcl : (crashD d keep).l.length = 5 := by rw [crashD_len]; exact HK.out.len
          have HRC : Hid (∀ s : Nat, s < 5 → readC (crashD d keep) (s : Int) = 0 ∧ readL (crashD d keep) (s : Int) ∈ (M s).map fillB) := Lib.hid (fun s hs => by
            obtain ⟨q1, q2⟩ := read_on (C := crashD d keep) (n := s) rfl (by rw [hcl]; exact hs)
            obtain ⟨q3, q4⟩ := crashD_mem d keep s
            refine ⟨q1, ?_⟩
            rw [q2, ← HK.out.ver s hs]
            unfold topS
            rw [q4]
            exact q3)
          have HLC : Hid (looseD (crashD d keep) = []) := Lib.hid (by
            have : ∀ n, looseTo (crashD d keep) n = [] := fun n => by
              induction n with
              | zero => rfl
              | succ n ih => rw [looseTo_succ, ih, (crashD_mem d keep n).2]; rfl
            exact this _)
          have HOF : Hid ((crashD d keep).off = false) := Lib.hid rfl
          have HLE := Lib.hid HK.out.le
          generalize crashD d keep = C at HD5 HM5 HRC HLC HOF
          clear hd5 hx5 HK hcl
          go_wp2_with fail
          go_loopw [14] (fun s wx => ∃ t : Nat, s = .int .i64 t ∧ (t : Int) ≤ 5 ∧ Hid (HDk w H wx C g5) ∧ Hid (M5 A (g5.F H C.l.length) wx vs1 M)) (fun s _ => 5 - (intOf s).toNat)
          case atStart => exact ⟨0, rfl, by omega, HD5, HM5⟩
          case round =>
            obtain ⟨t, rfl, ht, HDR, HMR⟩ := hrel
            by_cases ht5 : (t : Int) < 5
            · have ht5n : t < 5 := by omega
              obtain ⟨q1, q2⟩ := HRC.out t ht5n
              have hrd := dskRead HDR.out.dk (HS.out.below HDR.out.bel) (t : Int) (by omega) (by omega)
              rw [q1, eC_zero] at hrd
              generalize readL C (t : Int) = b at hrd q2
              have hbl : b.length = 256 := by
                obtain ⟨x, _, rfl⟩ := List.mem_map.1 q2
                exact fillB_len x
              have hany := anyTo_all b (M t) q2
              have HANY := Lib.hid hany
              have HRD := Lib.hid hrd
              clear hrd q1 q2 hany HM5 HD5
              go_wp2_with fail
              refine HRD.out.mono ?_
              clear HRD
              rintro e w6 ⟨⟨xb, rfl, hxb⟩, hb6⟩
              have HX6 := Lib.hid hxb.bs
              obtain ⟨_, ox, cx, hxv, hx1, hx2, _, _⟩ := hxb.bs
              rw [hbl] at hxv hx1
              subst hxv
              unfold maxLen at hx2
              have HD6 := Lib.hid (HDR.out.below hb6)
              have HM6 := Lib.hid (HMR.out.below hb6)
              obtain ⟨L, hL⟩ : ∃ L, L = (M t).length := ⟨_, rfl⟩
              have hL40 : L ≤ 41 := by have := HLE.out t ht5n; omega
              rw [← hL] at HANY
              have HLL := Lib.hid hL
              clear hxb hb6 HDR HMR hL
              go_wp2_with fail
              go_loopw [17, 18] (fun is j wx => ∃ j' : Nat, j = .int .i64 j' ∧ (j' : Int) ≤ L ∧ is = .bool (anyTo b (M t) j') ∧ Hid (HDk w H wx C g5) ∧ Hid (M5 A (g5.F H C.l.length) wx vs1 M) ∧ Hid (Bs wx (.slice ox 256 cx) b)) (fun _ j _ => L - (intOf j).toNat)
              case atStart => exact ⟨0, rfl, by omega, rfl, HD6, HM6, HX6⟩
              case round =>
                obtain ⟨j, rfl, hj, rfl, HDR, HMR, HXR⟩ := hrel
                have hbt := HMR.out.bs t ht5n
                have hct := HMR.out.cell ht5n
                obtain ⟨hib, ot, ct, hvt, hct1, hct2, _, hcc⟩ := id hbt
                unfold maxLen at hct2
                rw [hvt, ← HLL.out] at hct
                rw [← HLL.out] at hct1
                by_cases hjL : (j : Int) < L
                · have hsucc := anyTo_succ b (M t) j
                  cases hq : anyTo b (M t) j with
                  | true =>
                    rw [hq, Bool.true_or] at hsucc
                    have HSU := Lib.hid hsucc
                    clear hsucc hbt hvt hcc hib hq
                    go_wp2_with fail
                    go_roundw
                    case rel => exact ⟨j + 1, by go_num, by omega, by rw [HSU.out], HDR, HMR, HXR⟩
                    case measure => simp [intOf]; omega
                  | false =>
                    rw [hq, Bool.false_or] at hsucc
                    obtain ⟨a, y, ha, hyc, hye, hy0, hy1⟩ := Bs.at_ hib hcc (k := j) (by rw [← HLL.out]; omega)
                    subst ha
                    rw [hye.out] at hsucc
                    have HSU := Lib.hid hsucc
                    have hyw : IntKind.i64.wrap y = y := by rw [IntKind.wrap_i64]; omega
                    clear hsucc hbt hvt hcc hib hq
                    go_wp2_with fail
                    refine (filled y _).mono ?_
                    rintro e w7 ⟨⟨f, rfl, hf⟩, hb7⟩
                    have HD7 := Lib.hid (HDR.out.below hb7)
                    have HM7 := Lib.hid (HMR.out.below hb7)
                    have HX7 := Lib.hid (HXR.out.below hb7)
                    have hfb : Bs w7 f (fillB y) := hf.bs
                    have hsame := same_calls _ _ _ _ w7 HX7.out hfb
                    have HSAME := Lib.hid hsame
                    clear hf hfb hsame hb7 HDR HMR HXR hct hyc
                    go_wp2_with fail
                    refine HSAME.out.mono ?_
                    clear HSAME
                    rintro e w8 ⟨rfl, hq8⟩
                    have HD8 := Lib.hid (HD7.out.below (hq8.below _))
                    have HM8 := Lib.hid (HM7.out.below (hq8.below _))
                    have HX8 := Lib.hid (HX7.out.below (hq8.below _))
                    rw [← HSU.out]
                    clear hq8 HD7 HM7 HX7
                    go_wp2_with fail
                    go_roundw
                    case rel => exact ⟨j + 1, by go_num, by omega, rfl, HD8, HM8, HX8⟩
                    case measure => simp [intOf]; omega
                · obtain rfl : j = L := by omega
                  rw [HANY.out]
                  clear hbt hvt hcc hib
                  go_wp2_with fail
                  go_roundw
                  case rel => exact ⟨t + 1, by go_num, by omega, HDR, HMR⟩
                  case measure => simp [intOf]; omega
            · go_wp2_with fail
              refine (dskLoose HDR.out.dk).mono ?_
              rintro e w6 ⟨⟨vp, rfl, hp⟩, hb6⟩
              rw [HLC.out] at hp
              obtain ⟨op, kp, hvp, hp1, hp2⟩ := hp.form
              rw [List.length_nil] at hvp hp1
              subst hvp
              unfold maxLen at hp2
              have HD6 := Lib.hid (HDR.out.below hb6)
              clear hp hb6 HDR
              go_wp2_with fail
              refine (dskOff HD6.out.dk).mono ?_
              rintro e w7 ⟨rfl, rfl⟩
              rw [HOF.out]
              go_wp2_with fail
              go_ret
              exact ⟨rfl, HD6.out.bel⟩

theorem diskKeeps_walk {ea : Nat → Addr} (v u : Value) (l keep : List Int) (syn : Int) (y1 : -9223372036854775808 ≤ syn) (y2 : syn ≤ 9223372036854775807) (w : World) (hs : D3 ea w) (hv : Ns .i64 w v l) (hu : Ns .i64 w u keep) :
    Calls Tryd.prog 5 #[v, u, .int .i64 syn] w fun e w' => e = .returned (.bool true) ∧ Below w.heap.size w w' := by
  by_cases h : (40 : Int) < l.length ∨ (20 : Int) < keep.length
  · exact diskKeeps_idle v u l keep syn w hs hv hu h
  · exact diskKeeps_walk0 v u l keep syn y1 y2 w hs hv hu (by omega) (by omega)
end Go.Proofs.YtcpicfahajhplaaDoor
