/- Contracts: chain.bad, chain.Norm. -/
import Derived.Test.YtccfiohcblecoaaDoorWalA
import Derived.Test.YtccfiohcblecoaaDoorIs
import Derived.Deep.CutRange
import Derived.Test.YtccfiohcblecoaaDoorInts
namespace Go.Proofs.YtccfiohcblecoaaDoor
open Go.RowKit
set_option linter.unusedVariables false

/-- an error around a record: none where there is none -/
def erAt : Option Int → Er
  | none => .none
  | some p => .at_ p 7

theorem chainBad {ea : Nat → Addr} (w : World) (hs : Sen ea w) (p : Int) :
    Calls Tryd.prog 70 #[.int .i64 p] w fun e w' => (∃ a, e = .returned (.iface 138 (.pointer (some ⟨a, 0, none⟩))) ∧ ErV ea w' (.iface 138 (.pointer (some ⟨a, 0, none⟩))) (.at_ p 7)) ∧ Below w.heap.size w w' := by
  have h7 : w.cell? ⟨5, 0, none⟩ = some (eV ea 7) := hs.cell 7 (by decide)
  have HB : Hid (∀ o, Below w.heap.size w (w.alloc o)) := Lib.hid fun o => (Below.refl _ _).alloc (Nat.le_refl _) o
  have HE : Hid (ErV ea (w.alloc (.cells #[.int .i64 p, eV ea 7] 140)) (.iface 138 (.pointer (some ⟨w.heap.size, 0, none⟩))) (.at_ p 7)) := Lib.hid (by
    have hh := heap_alloc_new w (.cells #[.int .i64 p, eV ea 7] 140)
    refine ⟨by decide, w.heap.size, 0, rfl, ?_, ?_⟩
    · exact cell_of_row _ _ 0 _ _ (0, 0) hh
    · exact cell_of_row _ _ (0 + 1) _ _ (0, 0) hh)
  clear hs
  unfold eV at *
  go_enter Tryd.func70, Tryd.ntmps70
  go_wp2_with fail
  go_ret
  exact ⟨⟨_, rfl, HE.out⟩, HB.out _⟩

/-- what Norm leaves -/
def NormPost (ea : Nat → Addr) (w : World) (x : Int × Option Int) (e : Ending) (w' : World) : Prop :=
  Below w.heap.size w w' ∧ ((x.2 = none ∧ e = .returned (.tuple #[.int .i64 x.1, .nilIface])) ∨
    ∃ p a, x.2 = some p ∧ e = .returned (.tuple #[.int .i64 0, .iface 138 (.pointer (some ⟨a, 0, none⟩))]) ∧ ErV ea w' (.iface 138 (.pointer (some ⟨a, 0, none⟩))) (.at_ p 7))
theorem NormPost.fine {ea : Nat → Addr} {w w' : World} {x : Int × Option Int} {k : Int} (h : x = (k, none)) (hb : Below w.heap.size w w') : NormPost ea w x (.returned (.tuple #[.int .i64 k, .nilIface])) w' := by
  subst h; exact ⟨hb, .inl ⟨rfl, rfl⟩⟩
theorem NormPost.bad {ea : Nat → Addr} {w w' : World} {x : Int × Option Int} {p : Int} {a : Nat} (h : x = (0, some p)) (hb : Below w.heap.size w w') (he : ErV ea w' (.iface 138 (.pointer (some ⟨a, 0, none⟩))) (.at_ p 7)) :
    NormPost ea w x (.returned (.tuple #[.int .i64 0, .iface 138 (.pointer (some ⟨a, 0, none⟩))])) w' := by
  subst h; exact ⟨hb, .inr ⟨p, a, rfl, rfl, he⟩⟩

set_option maxRecDepth 20000 in
set_option maxHeartbeats 4000000 in
theorem chainNorm {ea : Nat → Addr} {w : World} {X : Nat} {c : LogC} {v : Value} {L : List RecD} (h : Lg 102 w X c v L) (hs : Sen ea w) (lsn : Int) (hl1 : -9223372036854775808 ≤ lsn) (hl2 : lsn ≤ 9223372036854775807) :
    Calls Tryd.prog 38 #[.pointer (some ⟨X, 0, none⟩), .int .i64 lsn] w (NormPost ea w (norm c.base L lsn)) := by
  have HLG := Lib.hid h
  have HS := Lib.hid hs
  have HB0 := Lib.hid h.ok.b0
  obtain ⟨b, hb⟩ : ∃ b, b = c.base := ⟨_, rfl⟩
  have HBB := Lib.hid hb
  rw [← hb] at HB0 ⊢
  have HWL := Lib.hid h.own.1
  clear h hs hb
  obtain ⟨res, hres⟩ : ∃ x, x = norm b L lsn := ⟨_, rfl⟩
  rw [← hres]
  have H0 : Hid (res = norm b L lsn) := Lib.hid hres
  clear hres
  go_enter Tryd.func38, Tryd.ntmps38
  go_wp2_with fail
  go_loopw [1] (fun s wr => ∃ k : Int, s = .int .i64 k ∧ -9223372036854775808 ≤ k ∧ k ≤ 9223372036854775807 ∧ Hid (res = norm b L k) ∧ Hid (Below w.heap.size w wr)) (fun s _ => (intOf s).toNat)
  case atStart => exact ⟨lsn, rfl, hl1, hl2, H0, Lib.hid (Below.refl _ _)⟩
  case round =>
    obtain ⟨k, rfl, hk1, hk2, HK, HBR⟩ := hrel
    clear H0 hl1 hl2
    by_cases h0 : k = 0
    · subst h0
      go_wp2_with fail
      go_ret2
      exact NormPost.fine (by rw [HK.out]; exact norm_zero _ _) HBR.out
    · have e0 : (k != 0) = true := by simpa using h0
      have H0 := Lib.hid h0
      clear h0
      cases hr : recAtN b L k with
      | none =>
        have hno : k ≤ b ∨ b + L.length < k := by
          refine Classical.byContradiction fun hc => ?_
          obtain ⟨r, h1, _⟩ := recAtN_some (base := b) (L := L) (lsn := k) (by omega) (by omega)
          rw [hr] at h1; simp at h1
        have HRN := Lib.hid (walRecNo (HLG.out.below HBR.out) k hk1 hk2 (by rw [← HBB.out]; exact hno))
        have HRES : Hid (res = (0, some k)) := Lib.hid (by rw [HK.out]; exact norm_none H0.out hr)
        clear hr hno HK
        go_wp2_with fail
        refine HRN.out.mono ?_
        rintro e w1 ⟨rfl, hb1⟩
        have HB1 := Lib.hid (HBR.out.trans (hb1.mono HBR.out.size))
        clear hb1
        dsimp only [recV, rec00]
        go_wp2_with fail
        refine (chainBad _ (HS.out.below (HB1.out.alloc HB1.out.size _)) k).mono ?_
        rintro e w2 ⟨⟨a, rfl, hev⟩, hb2⟩
        have HB2 := Lib.hid ((HB1.out.alloc HB1.out.size _).trans (hb2.mono (HB1.out.alloc HB1.out.size _).size))
        have HEV := Lib.hid hev
        clear hev hb2
        go_wp2_with fail
        go_ret2
        exact NormPost.bad HRES.out HB2.out HEV.out
      | some r =>
        have HR := Lib.hid hr
        have HRY := Lib.hid (walRecYes (HLG.out.below HBR.out) k r (by rw [← HBB.out]; exact hr))
        have hlt := recAtN_lt hr
        have hrW : r.W := HWL.out r (List.mem_of_getElem? (recAtN_idx hr).choose_spec.2.2)
        have HNS := Lib.hid (fun h2 => norm_set H0.out hr h2)
        have HNB := Lib.hid (fun h2 => norm_begin H0.out hr h2)
        have HNO := Lib.hid (fun h1 h2 h3 => norm_other H0.out hr h1 h2 h3)
        have HNK := Lib.hid (fun h1 h2 => norm_back H0.out hr h1 h2)
        have HNN := Lib.hid (fun h1 h2 => norm_on HB0.out H0.out hr h1 h2)
        have hkp : 0 < k := by have := HB0.out; omega
        clear hr HR hlt
        have p1 := hrW.prev
        have p2 := hrW.next
        clear hrW
        obtain ⟨kind, txn, page, prev, next, key, had, has, old, new⟩ := r
        dsimp only [recV, goesOn, onOf, I64] at HRY HNS HNB HNO HNK HNN p1 p2
        obtain ⟨p1a, p1b⟩ := p1
        obtain ⟨p2a, p2b⟩ := p2
        by_cases q2 : kind = 2
        · subst q2
          have HRES := Lib.hid (HK.out.trans (HNS.out rfl))
          clear HNS HNB HNO HNK HNN HK
          go_wp2_with fail
          refine HRY.out.mono ?_
          rintro e w1 ⟨rfl, hb1⟩
          have HB1 := Lib.hid (HBR.out.trans (hb1.mono HBR.out.size))
          clear hb1
          go_wp2_with fail
          go_ret2
          exact NormPost.fine HRES.out (HB1.out.alloc HB1.out.size _)
        · have e2 : (kind == 2) = false := by simpa using q2
          by_cases q1 : kind = 1
          · subst q1
            have HRES := Lib.hid (HK.out.trans (HNB.out rfl))
            clear HNS HNB HNO HNK HNN HK
            go_wp2_with fail
            refine HRY.out.mono ?_
            rintro e w1 ⟨rfl, hb1⟩
            have HB1 := Lib.hid (HBR.out.trans (hb1.mono HBR.out.size))
            clear hb1
            go_wp2_with fail
            go_ret2
            exact NormPost.fine HRES.out (HB1.out.alloc HB1.out.size _)
          · have e1 : (kind == 1) = false := by simpa using q1
            by_cases q3 : kind = 3
            · subst q3
              rw [if_pos rfl] at HNK HNN
              by_cases hge : k ≤ next
              · have HRES := Lib.hid (HK.out.trans (HNK.out (by decide) hge))
                clear HNS HNB HNO HNK HNN HK
                go_wp2_with fail
                refine HRY.out.mono ?_
                rintro e w1 ⟨rfl, hb1⟩
                have HB1 := Lib.hid (HBR.out.trans (hb1.mono HBR.out.size))
                clear hb1
                go_wp2_with fail
                refine (chainBad _ (HS.out.below (HB1.out.alloc HB1.out.size _)) k).mono ?_
                rintro e w2 ⟨⟨a, rfl, hev⟩, hb2⟩
                have HB2 := Lib.hid ((HB1.out.alloc HB1.out.size _).trans (hb2.mono (HB1.out.alloc HB1.out.size _).size))
                have HEV := Lib.hid hev
                clear hev hb2
                go_wp2_with fail
                go_ret2
                exact NormPost.bad HRES.out HB2.out HEV.out
              · have hlt : next < k := by omega
                have HRES := Lib.hid (HK.out.trans (HNN.out (by decide) hlt))
                clear HNS HNB HNO HNK HNN HK hge
                go_wp2_with fail
                refine HRY.out.mono ?_
                rintro e w1 ⟨rfl, hb1⟩
                have HB1 := Lib.hid (HBR.out.trans (hb1.mono HBR.out.size))
                clear hb1
                have HBA := Lib.hid (HB1.out.alloc HB1.out.size (.cells #[.int .i64 3, .int .i64 txn, .int .i64 page, .int .i64 prev, .int .i64 next, .int .i64 key, .bool had, .bool has, .int .i64 old, .int .i64 new] 33))
                go_wp2_with fail
                go_roundw
                case rel => exact ⟨next, rfl, by omega, by omega, HRES, HBA⟩
                case measure => simp [intOf]; omega
            · have e3 : (kind == 3) = false := by simpa using q3
              rw [if_neg q3] at HNK HNN
              by_cases q4 : kind = 4
              · subst q4
                by_cases hge : k ≤ prev
                · have HRES := Lib.hid (HK.out.trans (HNK.out (by decide) hge))
                  clear HNS HNB HNO HNK HNN HK
                  go_wp2_with fail
                  refine HRY.out.mono ?_
                  rintro e w1 ⟨rfl, hb1⟩
                  have HB1 := Lib.hid (HBR.out.trans (hb1.mono HBR.out.size))
                  clear hb1
                  go_wp2_with fail
                  refine (chainBad _ (HS.out.below (HB1.out.alloc HB1.out.size _)) k).mono ?_
                  rintro e w2 ⟨⟨a, rfl, hev⟩, hb2⟩
                  have HB2 := Lib.hid ((HB1.out.alloc HB1.out.size _).trans (hb2.mono (HB1.out.alloc HB1.out.size _).size))
                  have HEV := Lib.hid hev
                  clear hev hb2
                  go_wp2_with fail
                  go_ret2
                  exact NormPost.bad HRES.out HB2.out HEV.out
                · have hlt : prev < k := by omega
                  have HRES := Lib.hid (HK.out.trans (HNN.out (by decide) hlt))
                  clear HNS HNB HNO HNK HNN HK hge
                  go_wp2_with fail
                  refine HRY.out.mono ?_
                  rintro e w1 ⟨rfl, hb1⟩
                  have HB1 := Lib.hid (HBR.out.trans (hb1.mono HBR.out.size))
                  clear hb1
                  have HBA := Lib.hid (HB1.out.alloc HB1.out.size (.cells #[.int .i64 4, .int .i64 txn, .int .i64 page, .int .i64 prev, .int .i64 next, .int .i64 key, .bool had, .bool has, .int .i64 old, .int .i64 new] 33))
                  go_wp2_with fail
                  go_roundw
                  case rel => exact ⟨prev, rfl, by omega, by omega, HRES, HBA⟩
                  case measure => simp [intOf]; omega
              · have e4 : (kind == 4) = false := by simpa using q4
                by_cases q5 : kind = 5
                · subst q5
                  by_cases hge : k ≤ prev
                  · have HRES := Lib.hid (HK.out.trans (HNK.out (by decide) hge))
                    clear HNS HNB HNO HNK HNN HK
                    go_wp2_with fail
                    refine HRY.out.mono ?_
                    rintro e w1 ⟨rfl, hb1⟩
                    have HB1 := Lib.hid (HBR.out.trans (hb1.mono HBR.out.size))
                    clear hb1
                    go_wp2_with fail
                    refine (chainBad _ (HS.out.below (HB1.out.alloc HB1.out.size _)) k).mono ?_
                    rintro e w2 ⟨⟨a, rfl, hev⟩, hb2⟩
                    have HB2 := Lib.hid ((HB1.out.alloc HB1.out.size _).trans (hb2.mono (HB1.out.alloc HB1.out.size _).size))
                    have HEV := Lib.hid hev
                    clear hev hb2
                    go_wp2_with fail
                    go_ret2
                    exact NormPost.bad HRES.out HB2.out HEV.out
                  · have hlt : prev < k := by omega
                    have HRES := Lib.hid (HK.out.trans (HNN.out (by decide) hlt))
                    clear HNS HNB HNO HNK HNN HK hge
                    go_wp2_with fail
                    refine HRY.out.mono ?_
                    rintro e w1 ⟨rfl, hb1⟩
                    have HB1 := Lib.hid (HBR.out.trans (hb1.mono HBR.out.size))
                    clear hb1
                    have HBA := Lib.hid (HB1.out.alloc HB1.out.size (.cells #[.int .i64 5, .int .i64 txn, .int .i64 page, .int .i64 prev, .int .i64 next, .int .i64 key, .bool had, .bool has, .int .i64 old, .int .i64 new] 33))
                    go_wp2_with fail
                    go_roundw
                    case rel => exact ⟨prev, rfl, by omega, by omega, HRES, HBA⟩
                    case measure => simp [intOf]; omega
                · have e5 : (kind == 5) = false := by simpa using q5
                  have HRES := Lib.hid (HK.out.trans (HNO.out q1 q2 (by omega)))
                  clear HNS HNB HNO HNK HNN HK q1 q2 q3 q4 q5
                  go_wp2_with fail
                  refine HRY.out.mono ?_
                  rintro e w1 ⟨rfl, hb1⟩
                  have HB1 := Lib.hid (HBR.out.trans (hb1.mono HBR.out.size))
                  clear hb1
                  go_wp2_with fail
                  refine (chainBad _ (HS.out.below (HB1.out.alloc HB1.out.size _)) k).mono ?_
                  rintro e w2 ⟨⟨a, rfl, hev⟩, hb2⟩
                  have HB2 := Lib.hid ((HB1.out.alloc HB1.out.size _).trans (hb2.mono (HB1.out.alloc HB1.out.size _).size))
                  have HEV := Lib.hid hev
                  clear hev hb2
                  go_wp2_with fail
                  go_ret2
                  exact NormPost.bad HRES.out HB2.out HEV.out

/-- what All leaves -/
def AllPost (ea : Nat → Addr) (w : World) (x : List Int × Option Int) (e : Ending) (w' : World) : Prop :=
  Below w.heap.size w w' ∧ ((x.2 = none ∧ ∃ o cap, e = .returned (.tuple #[.slice o x.1.length cap, .nilIface]) ∧ Ns .i64 w' (.slice o x.1.length cap) x.1) ∨
    ∃ p a, x.2 = some p ∧ e = .returned (.tuple #[.slice none 0 0, .iface 138 (.pointer (some ⟨a, 0, none⟩))]) ∧ ErV ea w' (.iface 138 (.pointer (some ⟨a, 0, none⟩))) (.at_ p 7))
theorem AllPost.fine {ea : Nat → Addr} {w w' : World} {x : List Int × Option Int} {l : List Int} {o : Option Addr} {n cap : Nat} (h : x = (l, none)) (hb : Below w.heap.size w w') (hn : n = l.length) (hv : Ns .i64 w' (.slice o n cap) l) : AllPost ea w x (.returned (.tuple #[.slice o n cap, .nilIface])) w' := by
  subst h; subst hn; exact ⟨hb, .inl ⟨rfl, o, cap, rfl, hv⟩⟩
theorem AllPost.bad {ea : Nat → Addr} {w w' : World} {x : List Int × Option Int} {p : Int} {a : Nat} (h : x = ([], some p)) (hb : Below w.heap.size w w') (he : ErV ea w' (.iface 138 (.pointer (some ⟨a, 0, none⟩))) (.at_ p 7)) :
    AllPost ea w x (.returned (.tuple #[.slice none 0 0, .iface 138 (.pointer (some ⟨a, 0, none⟩))])) w' := by
  subst h; exact ⟨hb, .inr ⟨p, a, rfl, rfl, he⟩⟩

set_option maxRecDepth 20000 in
set_option maxHeartbeats 4000000 in
theorem chainAll {ea : Nat → Addr} {w : World} {X : Nat} {c : LogC} {v : Value} {L : List RecD} (h : Lg 102 w X c v L) (hs : Sen ea w) (lsn : Int) (hl1 : -9223372036854775808 ≤ lsn) (hl2 : lsn ≤ 9223372036854775807) :
    Calls Tryd.prog 39 #[.pointer (some ⟨X, 0, none⟩), .int .i64 lsn] w (AllPost ea w (chain c.base L [] lsn)) := by
  have HLG := Lib.hid h
  have HS := Lib.hid hs
  have HB0 := Lib.hid h.ok.b0
  have HLEN := Lib.hid h.len
  obtain ⟨b, hb⟩ : ∃ b, b = c.base := ⟨_, rfl⟩
  have HBB := Lib.hid hb
  rw [← hb] at HB0 ⊢
  have HWL := Lib.hid h.own.1
  clear h hs hb
  obtain ⟨res, hres⟩ : ∃ x, x = chain b L [] lsn := ⟨_, rfl⟩
  rw [← hres]
  have H0 : Hid (res = chain b L [] lsn) := Lib.hid hres
  clear hres
  go_enter Tryd.func39, Tryd.ntmps39
  go_wp2_with fail
  go_loopw [1, 6] (fun s u wr => ∃ k : Int, s = .int .i64 k ∧ -9223372036854775808 ≤ k ∧ k ≤ 9223372036854775807 ∧ ∃ o n cap l, u = .slice o n cap ∧ n = l.length ∧ Hid (Oi w.heap.size wr (.slice o n cap) l) ∧ Hid (res = chain b L l k) ∧ Hid (l.length = 0 ∨ k + l.length ≤ b + L.length) ∧ Hid (Below w.heap.size w wr)) (fun s _ _ => (intOf s).toNat)
  case atStart => exact ⟨lsn, rfl, hl1, hl2, none, 0, 0, [], rfl, rfl, Lib.hid Oi.nil, H0, Lib.hid (.inl rfl), Lib.hid (Below.refl _ _)⟩
  case round =>
    obtain ⟨k, rfl, hk1, hk2, o, n, cap, l, rfl, hn, HO, HK, HQ, HBR⟩ := hrel
    have HN := Lib.hid hn
    clear H0 hl1 hl2 hn
    have hnorm := chainNorm (HLG.out.below HBR.out) (HS.out.below HBR.out) k hk1 hk2
    rw [← HBB.out] at hnorm
    have HNF := Lib.hid (norm_found (L := L) HB0.out _ k (Nat.lt_succ_self _))
    have HCB := Lib.hid (fun p kk => chain_bad (base := b) (L := L) (out := l) (next := k) (k := kk) (p := p))
    have HCE := Lib.hid (chain_end (base := b) (L := L) (out := l) (next := k))
    have HCL := Lib.hid (fun kk => chain_loop (base := b) (L := L) (out := l) (next := k) (k := kk))
    have HCO := Lib.hid (fun kk => chain_on (L := L) (out := l) (next := k) (k := kk) HB0.out)
    generalize norm b L k = nr at hnorm HNF HCB HCE HCL HCO
    have HNM := Lib.hid hnorm
    clear hnorm
    go_wp2_with fail
    refine HNM.out.mono ?_
    rintro e w1 hN
    obtain ⟨hb1, hN⟩ := hN
    have HB1 := Lib.hid (HBR.out.trans (hb1.mono HBR.out.size))
    rcases hN with ⟨hx, rfl⟩ | ⟨p, a, hx, rfl, hev⟩
    · obtain ⟨kk, nx⟩ := nr
      dsimp only at hx
      subst hx
      dsimp only
      have HO1 := Lib.hid (HO.out.below hb1)
      by_cases hk0 : kk = 0
      · subst hk0
        have HRES : Hid (res = (l, none)) := Lib.hid (HK.out.trans (HCE.out rfl))
        have HNS := Lib.hid HO1.out.ns
        clear hb1 HNM HNF HCB HCE HCL HCO
        go_wp2_with fail
        go_ret2
        exact AllPost.fine HRES.out HB1.out HN.out HNS.out
      · have e0 : (kk == 0) = false := by simpa using hk0
        obtain ⟨hle, hbk, r, hr, hkind⟩ := (HNF.out kk rfl).resolve_left hk0
        have hlt := recAtN_lt hr
        have hrW : r.W := HWL.out r (List.mem_of_getElem? (recAtN_idx hr).choose_spec.2.2)
        have hb0 := HB0.out
        have hll := HLEN.out
        have hlen : l.length + 1 ≤ L.length := by have := HQ.out; omega
        have hwf : (Lit.int .i64 kk).wf = true := wf_of_i64 (by omega) (by omega)
        obtain ⟨gb, cap2, w2, hrun, ho2, hg2, _, _, hcap2, hcap3⟩ := HO1.out.append1 kk hwf HB1.out.size (by omega) 3 22
        have hal : Below w1.heap.size w1 (w1.alloc (.cells #[.int .i64 kk] 3)) := (Below.refl _ _).alloc (Nat.le_refl _) _
        have HB2 := Lib.hid ((HO1.out.below hal).grown hg2 (HB1.out.alloc HB1.out.size _) (Nat.le_refl _) (by have := HB1.out.size; simp; omega))
        have HO2 := Lib.hid ho2
        have hprev : prevN b L kk = r.prev := by unfold prevN; rw [hr]; rfl
        have HRY := Lib.hid (walRecYes (HLG.out.below HB2.out) kk r (by rw [← HBB.out]; exact hr))
        have p1 := hrW.prev
        have HRL : Hid (kk ≤ r.prev → res = ([], some kk)) := Lib.hid fun hge => HK.out.trans (HCL.out kk rfl hk0 (by rw [hprev]; exact hge))
        have HRO : Hid (r.prev < kk → res = chain b L (l ++ [kk]) r.prev) := Lib.hid fun hlt => by
          have h := HCO.out kk rfl hk0 (by rw [hprev]; exact hlt)
          rw [hprev] at h
          exact HK.out.trans h
        have HQ2 : Hid (r.prev < kk → (l ++ [kk]).length = 0 ∨ r.prev + (l ++ [kk]).length ≤ b + L.length) := Lib.hid fun hlt => by
          right
          have := HQ.out
          rw [List.length_append]
          simp only [List.length_cons, List.length_nil]
          omega
        have HN2 : Hid (l.length + 1 = (l ++ [kk]).length) := Lib.hid (by simp)
        rw [← HN.out] at hrun HO2 hcap2 HN2
        unfold maxLen at hcap3
        have hkp : 0 < kk := by omega
        clear hb1 HNM HNF HCB HCE HCL HCO hr hrW hlt hlen hwf ho2 hg2 hal hprev hk0 hkind HQ HO HO1
        obtain ⟨kind, txn, page, prev, next, key, had, has, old, new⟩ := r
        dsimp only [recV, I64] at HRY HRL HRO HQ2 p1
        obtain ⟨p1a, p1b⟩ := p1
        clear hb0 hll
        go_wp2_with (at_builtin; refine Lib.wpList_append_run _ rfl _ _ _ _ rfl _ _ rfl rfl _ _ hrun ?_)
        refine HRY.out.mono ?_
        clear HRY hrun
        rintro e w3 ⟨rfl, hb3⟩
        have HB3 := Lib.hid (HB2.out.trans (hb3.mono HB2.out.size))
        have hal3 : Below w3.heap.size w3 (w3.alloc (.cells #[.int .i64 kind, .int .i64 txn, .int .i64 page, .int .i64 prev, .int .i64 next, .int .i64 key, .bool had, .bool has, .int .i64 old, .int .i64 new] 33)) := (Below.refl _ _).alloc (Nat.le_refl _) _
        have HB4 := Lib.hid (HB3.out.trans (hal3.mono HB3.out.size))
        have HO4 := Lib.hid ((HO2.out.below hb3).below hal3)
        clear hb3 HB2 HO2 hal3 HB1
        by_cases hge : kk ≤ prev
        · have HRES := Lib.hid (HRL.out hge)
          clear HRL HRO HQ2
          go_wp2_with fail
          refine (chainBad _ (HS.out.below HB4.out) kk).mono ?_
          rintro e w5 ⟨⟨a, rfl, hev⟩, hb5⟩
          have HB5 := Lib.hid (HB4.out.trans (hb5.mono HB4.out.size))
          have HEV := Lib.hid hev
          clear hev hb5
          go_wp2_with fail
          go_ret2
          exact AllPost.bad HRES.out HB5.out HEV.out
        · have hlt : prev < kk := by omega
          have HRES := Lib.hid (HRO.out hlt)
          have HQ3 := Lib.hid (HQ2.out hlt)
          clear HRL HRO HQ2 hge
          go_wp2_with fail
          go_roundw
          case rel => exact ⟨prev, rfl, p1a, p1b, _, _, _, l ++ [kk], rfl, HN2.out, HO4, HRES, HQ3, HB4⟩
          case measure => simp [intOf]; omega
    · obtain ⟨kk, nx⟩ := nr
      dsimp only at hx
      subst hx
      have HRES : Hid (res = ([], some p)) := Lib.hid (HK.out.trans (HCB.out p kk rfl))
      have HEV := Lib.hid hev
      clear hb1 HNM HNF HCB HCE HCL HCO hev
      go_wp2_with fail
      go_ret2
      exact AllPost.bad HRES.out HB1.out HEV.out
end Go.Proofs.YtccfiohcblecoaaDoor
