/- The walk of the law ModelNone. -/
import Derived.Test.YtpgelebmhhcodaaMdL
import Derived.Test.YtpgelebmhhcodaaMdS
import Derived.Test.YtpgelebmhhcodaaNum
import Derived.IntWalk
namespace Go.Proofs.Ytpgelebmhhcodaa
open Go.RowKit
set_option linter.unusedVariables false

theorem updM_none {α : Type} (k : Int) : updM (fun _ => (none : Option α)) k none = fun _ => none := by
  funext j; unfold updM; split <;> rfl
theorem oneL (key v : Int) : pruneM (mergeM (fun _ => none) (updM (fun _ => none) key (some (v, true)))) = updM (fun _ => none) key (some (v, true)) := by
  funext k
  unfold pruneM mergeM updM
  by_cases e : k = key
  · simp [e]
  · simp [e]
theorem entOne {key v : Int} {T : List (Int × Int)} (h : EntOf (updM (fun _ => none) key (some (v, true))) T) : T = [(key, v)] := by
  refine h.one ⟨by simp, fun k x => ?_⟩
  unfold updM
  by_cases e : k = key
  · subst e; simp; exact eq_comm
  · simp [e]
set_option maxRecDepth 20000 in
set_option maxHeartbeats 8000000 in
theorem modelNone_walk {w : World} {s key v raw : Int} (h0 : I64L s) (h1 : I64L key) (h2 : I64L v) (h3 : I64L raw) :
    Calls Try.prog 11 #[.int .i64 s, .int .i64 key, .int .i64 v, .int .i64 raw] w fun e w' => e = .returned (.bool true) ∧ Below w.heap.size w w' := by
  have HF := Lib.hid (modelFirst w)
  have H0 := Lib.hid h0
  have H1 := Lib.hid h1
  have H2 := Lib.hid h2
  have H3 := Lib.hid h3
  clear h0 h1 h2 h3
  go_enter Try.func11, Try.ntmps11
  go_wp2_with fail
  refine HF.out.mono ?_
  clear HF
  rintro e w1 ⟨rfl, hb1⟩
  have HN := Lib.hid (Mo.new 4 (Fz.of_below hb1))
  have HB1 := Lib.hid hb1
  clear hb1
  go_wp2_with fail
  refine HN.out.mono ?_
  clear HN
  rintro e w2 ⟨X, rfl, hm2, hb2⟩
  obtain ⟨r, hr⟩ : ∃ r : Nat, raw % 100 = r := ⟨(raw % 100).toNat, by omega⟩
  have hr1 : r < 100 := by omega
  have nr := number raw 100 w2 (by omega) (by omega) H3.out.1 H3.out.2
  rw [hr] at nr
  have NR := Lib.hid nr
  have HB2 := Lib.hid (HB1.out.trans (hb2.mono HB1.out.size))
  have HM2 := Lib.hid hm2
  have HNN := Lib.hid (fun z => Mo.new (w0 := w2) (w := w2) z (Fz.of_below (Below.refl _ _)))
  have hneg : IntKind.i64.wrap (-(r : Int)) = -(r : Int) := IntWalk.i64_in _ (by omega)
  clear hm2 hb2 nr hr HB1 H3
  go_wp2_with fail
  refine NR.out.mono ?_
  clear NR
  rintro e w2' ⟨rfl, rfl⟩
  go_wp2_with fail
  refine (HNN.out _).mono ?_
  clear HNN
  rintro e w3 ⟨Xn, rfl, hn3, hb3⟩
  have HN3 := Lib.hid hn3
  have hm3 := HM2.out.beside hb3
  have HBG := Lib.hid (hm3.begin_ (s := 1) (L_small (by omega) (by omega)) (by omega) (by omega) rfl (by omega))
  clear hn3 hm3 hb3 HM2 hneg
  go_wp2_with fail
  refine HBG.out.mono ?_
  clear HBG
  rintro e w4 ⟨rfl, hm4, _⟩
  have HP := Lib.hid (hm4.put (s := 1) (L_small (by omega) (by omega)) H1.out H2.out (updM_same _ _ _) (by omega))
  clear hm4
  go_wp2_with fail
  refine HP.out.mono ?_
  clear HP
  rintro e w5 ⟨rfl, hm5, _⟩
  rw [updM_upd] at hm5
  have HC := Lib.hid (hm5.commit (s := 1) (L_small (by omega) (by omega)) (updM_same _ _ _) (by omega))
  clear hm5
  go_wp2_with fail
  refine HC.out.mono ?_
  clear HC
  rintro e w6 ⟨rfl, hm6, _⟩
  rw [updM_upd, updM_none] at hm6
  change Mo _ _ _ _ _ _ _ _ (pruneM (mergeM (fun _ => none) (updM (fun _ => none) key (some (v, true))))) _ at hm6
  rw [oneL] at hm6
  obtain ⟨T, hT, _, hall⟩ := hm6.all (by omega)
  rw [entOne hT] at hall
  have HA := Lib.hid hall
  have HM6 := Lib.hid hm6
  clear hall hm6 hT
  go_wp2_with fail
  refine HA.out.mono ?_
  clear HA
  rintro e w7 ⟨o7, c7, rfl, he7, hm7, hb7⟩
  have HF7 := Lib.hid hm7.1
  have HE7 := Lib.hid he7
  obtain ⟨S, hS⟩ : ∃ S : Nat, s % 12 = S := ⟨(s % 12).toNat, by omega⟩
  have hS1 : S < 12 := by omega
  have ns := number s 12 w7 (by omega) (by omega) H0.out.1 H0.out.2
  rw [hS] at ns
  have NS := Lib.hid ns
  have HM7 := Lib.hid (HM6.out.beside hb7)
  clear he7 hm7 hb7 HM6 ns hS H0
  go_wp2_with fail
  refine NS.out.mono ?_
  clear NS
  rintro e w7' ⟨rfl, rfl⟩
  obtain ⟨s4, hs4⟩ : ∃ s4 : Int, s4 = (S : Int) - 4 := ⟨_, rfl⟩
  have hsub : IntKind.i64.wrap ((S : Int) - 4) = s4 := by rw [hs4]; exact IntWalk.i64_in _ (by omega)
  have hsub' : (S : Int) - 4 = s4 := hs4.symm
  have hs4L : I64L s4 := L_small (by omega) (by omega)
  have HS4 := Lib.hid hs4L
  have HP := Lib.hid (fun u => HM7.out.putNo (k := key) hs4L u rfl)
  clear HM7 hs4 hs4L
  go_wp2_with fail
  refine (HP.out _).mono ?_
  clear HP
  rintro e w8 ⟨rfl, hm8, _⟩
  have HD := Lib.hid (hm8.deleteNo (k := key) HS4.out rfl)
  clear hm8
  go_wp2_with fail
  refine HD.out.mono ?_
  clear HD
  rintro e w9 ⟨rfl, hm9, _⟩
  have hg := hm9.get HS4.out H1.out
  have hsee : seesM (updM (fun _ => none) key (some (v, true))) (fun _ => none) s4 key = (v, true) := by unfold seesM; dsimp only; rw [updM_same]; rfl
  rw [hsee] at hg
  have HG := Lib.hid hg
  clear hm9 hg hsee
  go_wp2_with fail
  refine HG.out.mono ?_
  clear HG
  rintro e w10 ⟨rfl, hm10, _⟩
  have HSV := Lib.hid (hm10.saveNo HS4.out rfl)
  clear hm10
  go_wp2_with fail
  refine HSV.out.mono ?_
  clear HSV
  rintro e w11 ⟨rfl, hm11, _⟩
  have HBK := Lib.hid (hm11.backNo (t := 0) HS4.out (fun z e => by simp at e))
  clear hm11
  go_wp2_with fail
  refine HBK.out.mono ?_
  clear HBK
  rintro e w12 ⟨rfl, hm12, _⟩
  have HCN := Lib.hid (hm12.commitNo HS4.out rfl)
  clear hm12
  go_wp2_with fail
  refine HCN.out.mono ?_
  clear HCN
  rintro e w13 ⟨rfl, hm13, _⟩
  have hab := hm13.abort HS4.out
  rw [updM_none] at hab
  simp only [Option.isSome_none] at hab
  have HAB := Lib.hid hab
  clear hm13 hab
  go_wp2_with fail
  refine HAB.out.mono ?_
  clear HAB
  rintro e w14 ⟨rfl, hm14, _⟩
  have hop := hm14.open_ HS4.out
  simp only [Option.isSome_none] at hop
  have HOP := Lib.hid hop
  clear hm14 hop
  go_wp2_with fail
  refine HOP.out.mono ?_
  clear HOP
  rintro e w15 ⟨rfl, hm15, _⟩
  obtain ⟨T2, hT2, _, hall⟩ := hm15.all (by omega)
  rw [entOne hT2] at hall
  have HA := Lib.hid hall
  clear hall hm15 hT2
  go_wp2_with fail
  refine HA.out.mono ?_
  clear HA
  rintro e w16 ⟨o16, c16, rfl, he16, hm16, _⟩
  have hew : En w6.heap.size w16 (.slice o7 [(key, v)].length c7) [(key, v)] := HE7.out.same fun b e => (hm16.1.keep b (.inr (HE7.out.lt e))).2
  have HSE := Lib.hid (sameEntries he16 hew)
  have HM16 := Lib.hid hm16
  clear he16 hm16 hew HE7
  go_wp2_with fail
  refine HSE.out.mono ?_
  clear HSE
  rintro e w17 ⟨rfl, hb17⟩
  have hf17 := HF7.out.trans (HM16.out.below hb17).1 (fun b hk => .inl hk)
  have hn17 := HN3.out.carry HB2.out hf17
  have HBN := Lib.hid (hn17.beginNo (s := 0) (L_small (by omega) (by omega)) (.inr (.inl (by omega))))
  clear hb17 hf17 hn17 HM16 HF7 HN3
  go_wp2_with fail
  refine HBN.out.mono ?_
  clear HBN
  rintro e w18 ⟨rfl, hn18, _⟩
  obtain ⟨T3, hT3, _, hall⟩ := hn18.all (by omega)
  have hT0 := EntOf.nil (fun _ => rfl) hT3
  subst hT0
  have HA := Lib.hid hall
  clear hall hn18 hT3
  go_wp2_with fail
  refine HA.out.mono ?_
  clear HA
  rintro e w19 ⟨o19, c19, rfl, _, hn19, _⟩
  have HB := Lib.hid hn19.bel
  clear hn19
  go_wp2_with fail
  go_ret
  exact ⟨rfl, HB.out⟩
end Go.Proofs.Ytpgelebmhhcodaa
