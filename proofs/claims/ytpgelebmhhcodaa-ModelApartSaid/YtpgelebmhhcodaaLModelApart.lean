/- The walk of the law ModelApart. -/
import Derived.Test.YtpgelebmhhcodaaMdT
import Derived.Test.YtpgelebmhhcodaaNum
import Derived.Test.YtpgelebmhhcodaaLrS
import Derived.IntWalk
import Derived.BigQuiet
import Derived.Deep.CutBlock
namespace Go.Proofs.Ytpgelebmhhcodaa
open Go.RowKit
set_option linter.unusedVariables false

theorem wrapLA (n : Int) : I64L (wrap64 n) := wf_i64 (wrap64_wf n)
theorem zero8 : (#[.bool false, .bool false, .bool false, .bool false, .bool false, .bool false, .bool false, .bool false] : Array Value) = rowF 8 (hasF []) := by
  refine congrArg List.toArray ?_
  simp [hasF, List.range, List.range.loop]
/-- where the two sessions stand ahead of the i-th -/
def opA (v : Int) (ls : List Int) (cut i : Nat) : Int → Option Ses := updM (updM (fun _ => none) 0 (some ⟨putF v (kk ls i), if i ≤ cut then [] else [putF v (kk ls cut)]⟩)) 1 (some sesNew)
def atA (cut i : Nat) : Int := if i ≤ cut then -1 else 0
theorem opA_zero (v : Int) (ls : List Int) (cut i : Nat) : opA v ls cut i 0 = some ⟨putF v (kk ls i), if i ≤ cut then [] else [putF v (kk ls cut)]⟩ := by
  unfold opA
  rw [updM_other _ _ (by omega), updM_same]
theorem opA_one (v : Int) (ls : List Int) (cut i : Nat) : opA v ls cut i 1 = some sesNew := updM_same _ _ _
theorem opA_set (v : Int) (ls : List Int) (cut i : Nat) (z : Ses) : updM (opA v ls cut i) 0 (some z) = updM (updM (fun _ => none) 0 (some z)) 1 (some sesNew) := by
  funext j
  unfold opA updM
  by_cases e : j = 0 <;> simp [e]
/-- .. behind the savepoint -/
def opB (v : Int) (ls : List Int) (cut i : Nat) : Int → Option Ses := updM (updM (fun _ => none) 0 (some ⟨putF v (kk ls i), if i < cut then [] else [putF v (kk ls cut)]⟩)) 1 (some sesNew)
def atB (cut i : Nat) : Int := if i < cut then -1 else 0
theorem opB_zero (v : Int) (ls : List Int) (cut i : Nat) : opB v ls cut i 0 = some ⟨putF v (kk ls i), if i < cut then [] else [putF v (kk ls cut)]⟩ := by
  unfold opB
  rw [updM_other _ _ (by omega), updM_same]
theorem opB_one (v : Int) (ls : List Int) (cut i : Nat) : opB v ls cut i 1 = some sesNew := updM_same _ _ _
theorem opB_set (v : Int) (ls : List Int) (cut i : Nat) (z : Ses) : updM (opB v ls cut i) 0 (some z) = updM (updM (fun _ => none) 0 (some z)) 1 (some sesNew) := by
  funext j
  unfold opB updM
  by_cases e : j = 0 <;> simp [e]
theorem opA_start (v : Int) (ls : List Int) (cut : Nat) : updM (updM (fun _ => none) 0 (some sesNew)) 1 (some sesNew) = opA v ls cut 0 := by
  unfold opA
  rw [if_pos (Nat.zero_le _), show kk ls 0 = [] from rfl, putF_nil]
  rfl
theorem opA_same {v : Int} {ls : List Int} {cut i : Nat} (h : i ≠ cut) : opB v ls cut i = opA v ls cut i ∧ atB cut i = atA cut i := by
  unfold opA opB atA atB
  by_cases h1 : i < cut
  · rw [if_pos h1, if_pos (Nat.le_of_lt h1), if_pos h1, if_pos (Nat.le_of_lt h1)]; exact ⟨rfl, rfl⟩
  · rw [if_neg h1, if_neg (by omega), if_neg h1, if_neg (by omega)]; exact ⟨rfl, rfl⟩
theorem opB_next {v : Int} {ls : List Int} {cut i : Nat} {x : Int} (h : ls[i]? = some x) : updM (opB v ls cut i) 0 (some ⟨updM (putF v (kk ls i)) (x % 8) (some (wrap64 (v + x % 8), true)), if i < cut then [] else [putF v (kk ls cut)]⟩) = opA v ls cut (i + 1) ∧ atB cut i = atA cut (i + 1) := by
  rw [opB_set, putF_snoc, ← kk_succ h]
  unfold opA atB atA
  by_cases h1 : i < cut
  · rw [if_pos h1, if_pos h1, if_pos (show i + 1 ≤ cut by omega), if_pos (show i + 1 ≤ cut by omega)]; exact ⟨rfl, rfl⟩
  · rw [if_neg h1, if_neg h1, if_neg (show ¬ i + 1 ≤ cut by omega), if_neg (show ¬ i + 1 ≤ cut by omega)]; exact ⟨rfl, rfl⟩
set_option maxRecDepth 20000 in
set_option maxHeartbeats 8000000 in
theorem modelApart_walk {w : World} {u : Value} {ls : List Int} {ct how v : Int} (h0 : Ns .i64 w u ls) (h1 : I64L ct) (h2 : I64L how) (h3 : I64L v) :
    Calls Try.prog 10 #[u, .int .i64 ct, .int .i64 how, .int .i64 v] w fun e w' => e = .returned (.bool true) ∧ Below w.heap.size w w' := by
  have HF := Lib.hid (modelFirst w)
  have H0 := Lib.hid h0
  have H1 := Lib.hid h1
  have H2 := Lib.hid h2
  have H3 := Lib.hid h3
  obtain ⟨_, o0, c0, rfl, q1, q2, _⟩ := h0
  unfold maxLen at q2
  obtain ⟨n, hn⟩ : ∃ n, n = ls.length := ⟨_, rfl⟩
  rw [← hn] at q1 H0 ⊢
  have HN := Lib.hid hn
  clear hn h1 h2 h3
  by_cases hl : (n : Int) > 30
  · go_enter Try.func10, Try.ntmps10
    go_wp2_with fail
    refine HF.out.mono ?_
    clear HF
    rintro e w1 ⟨rfl, hb1⟩
    have HB1 := Lib.hid hb1
    clear hb1
    go_wp2_with fail
    go_ret
    exact ⟨rfl, HB1.out⟩
  · go_enter Try.func10, Try.ntmps10
    go_wp2_with fail
    refine HF.out.mono ?_
    clear HF
    rintro e w1 ⟨rfl, hb1⟩
    have HNN := Lib.hid (Mo.new 2 (Fz.of_below hb1))
    clear hb1
    go_wp2_with fail
    refine HNN.out.mono ?_
    clear HNN
    rintro e w2 ⟨X, rfl, hm2, _⟩
    have HBG := Lib.hid (hm2.begin_ (s := 0) (L_small (by omega) (by omega)) (by omega) (by omega) rfl (by omega))
    clear hm2
    go_wp2_with fail
    refine HBG.out.mono ?_
    clear HBG
    rintro e w3 ⟨rfl, hm3, _⟩
    have HBG := Lib.hid (hm3.begin_ (s := 1) (L_small (by omega) (by omega)) (by omega) (by omega) (updM_other _ _ (by omega)) (by omega))
    clear hm3
    go_wp2_with fail
    refine HBG.out.mono ?_
    clear HBG
    rintro e w4 ⟨rfl, hm4, _⟩
    obtain ⟨cut, hcut⟩ : ∃ cut : Nat, ct % ((n : Int) + 1) = cut := ⟨(ct % ((n : Int) + 1)).toNat, by have := Int.emod_nonneg ct (show (n : Int) + 1 ≠ 0 by omega); omega⟩
    have hcn : cut ≤ n := by have := Int.emod_lt_of_pos ct (show (0 : Int) < (n : Int) + 1 by omega); omega
    have nc := number ct ((n : Int) + 1) w4 (by omega) (by omega) H1.out.1 H1.out.2
    rw [hcut] at nc
    have NC := Lib.hid nc
    have HT := Lib.hid (T1.new hm4 72 8 (hasF []))
    clear hm4 nc hcut H1
    go_wp2_with fail
    refine NC.out.mono ?_
    clear NC
    rintro e w4' ⟨rfl, rfl⟩
    go_upto_region 11 with fail
    rw [← zero8, opA_start v ls cut] at HT
    generalize (w4.alloc (.cells #[.bool false, .bool false, .bool false, .bool false, .bool false, .bool false, .bool false, .bool false] 72)) = w5 at HT ⊢
    generalize w4.heap.size = A at HT ⊢
    go_wp2_with fail
    go_loopw [12, 13] (fun s12 s13 wr => ∃ (i n' : Nat), s13 = .int .i64 i ∧ s12 = .int .i64 (atA cut i) ∧ i ≤ n ∧ n' ≤ i ∧ Hid (T1 w wr A 72 8 (hasF (kk ls i)) X 0 n' 2 2 (fun _ => none) (opA v ls cut i))) (fun _ s13 _ => n + 1 - (intOf s13).toNat)
    case atStart => exact ⟨0, 0, rfl, by unfold atA; rw [if_pos (Nat.zero_le _)], by omega, by omega, HT⟩
    case round =>
      obtain ⟨i, n', rfl, rfl, hi, hn', HTi⟩ := hrel
      clear HT
      go_upto_if 57 with fail
      go_cut [12] from 49 to 103 (fun s12 wx => s12 = .int .i64 (atB cut i) ∧ Hid (T1 w wx A 72 8 (hasF (kk ls i)) X 0 n' 2 2 (fun _ => none) (opB v ls cut i)))
      case first =>
        by_cases hic : i = cut
        · subst hic
          have hsv := HTi.out.mo.save (s := 0) (L_small (by omega) (by omega)) (opA_zero v ls i i) (by rw [if_pos (Nat.le_refl _)]; simp)
          rw [opA_set, if_pos (Nat.le_refl _)] at hsv
          have HSV := Lib.hid hsv
          have hat : atB i i = 0 := by unfold atB; rw [if_neg (by omega)]
          have hopb : updM (updM (fun _ => none) 0 (some (⟨putF v (kk ls i), [] ++ [putF v (kk ls i)]⟩ : Ses))) 1 (some sesNew) = opB v ls i i := by unfold opB; rw [if_neg (by omega)]; rfl
          have HOPB := Lib.hid hopb
          have HAT := Lib.hid hat
          clear hsv hat hopb
          go_wp2_with fail
          refine HSV.out.mono ?_
          clear HSV
          rintro e w6 ⟨rfl, hm6, _⟩
          rw [HOPB.out] at hm6
          have HT6 := Lib.hid (HTi.out.turn hm6)
          clear hm6 HTi
          go_wp2_with fail
          go_meet
          exact ⟨by rw [HAT.out], HT6⟩
        · obtain ⟨e1, e2⟩ := opA_same (v := v) (ls := ls) hic
          have hne : ¬ ((i : Int) = (cut : Int)) := by omega
          have HT6 : Hid (T1 w wr A 72 8 (hasF (kk ls i)) X 0 n' 2 2 (fun _ => none) (opB v ls cut i)) := Lib.hid (by rw [e1]; exact HTi.out)
          have HE2 := Lib.hid e2
          clear e1 e2 hic
          go_wp2_with fail
          go_meet
          exact ⟨by rw [HE2.out], HT6⟩
      case rest =>
        obtain ⟨rfl, HT2⟩ := hcut
        clear HTi
        by_cases hin : i = n
        · subst hin
          have hat : atB cut i = 0 := by unfold atB; rw [if_neg (by omega)]
          rw [hat]
          obtain ⟨T, hT, _, hall⟩ := HT2.out.mo.all (by omega)
          have hT0 := EntOf.nil (fun _ => rfl) hT
          subst hT0
          have HA := Lib.hid hall
          clear hall hT hat
          go_wp2_with fail
          refine HA.out.mono ?_
          clear HA
          rintro e w6 ⟨o6, c6, rfl, _, hm6, _⟩
          have ht6 := HT2.out.turn hm6
          obtain ⟨r, hr⟩ : ∃ r : Nat, how % 4 = r := ⟨(how % 4).toNat, by omega⟩
          have hr4 : r < 4 := by omega
          have nr := fun W => number how 4 W (by omega) (by omega) H2.out.1 H2.out.2
          simp only [hr] at nr
          have NR := Lib.hid nr
          have HT6 := Lib.hid ht6
          have hw6 := T1.new ht6.mo0 72 8 (hasF [])
          rw [← zero8] at hw6
          have HW := Lib.hid hw6
          have HW0 := Lib.hid (T1.new ht6.mo0 72 8 (hasF (kk ls i)))
          have HC6 := Lib.hid (fun (k : Nat) (hk : k < 8) => ht6.cell hk)
          clear hm6 ht6 nr hr HT2 hw6
          go_wp2_with fail
          refine (NR.out _).mono ?_
          rintro e w7 ⟨rfl, rfl⟩
          go_upto_block 2 with fail
          go_cut [20] from 114 to 139 (fun s20 wx => ∃ (q nl' : Nat) (ks : List Int) (l : FM) (op3 : Int → Option Ses), s20 = .int .i64 q ∧ nl' ≤ 31 ∧ q ≤ i ∧ Hid (T1 w wx w6.heap.size 72 8 (hasF ks) X nl' n' 2 2 l op3) ∧ Hid (op3 0 = none) ∧ Hid ((r = 3 → ks = [] ∧ l = putF v (kk ls cut) ∧ q = cut) ∧ (¬ r = 3 → l = putF v ks) ∧ ∀ x ∈ ks, 0 ≤ x ∧ x < 8))
          case first =>
            have hcc : ∀ (k : Nat), k < 8 → (w6.alloc (.cells #[.bool false, .bool false, .bool false, .bool false, .bool false, .bool false, .bool false, .bool false] 72)).cell? ⟨A, k, none⟩ = some (.bool (decide ((k : Int) ∈ kk ls i))) := fun k hk => by
              have h1 := (HC6.out k hk).1
              exact (World.cell?_of_block (Below.heap_alloc _ _ _ (Below.lt h1))).trans h1
            by_cases r0 : r = 0
            · subst r0
              have a0 := hcc 0 (by omega)
              have a1 := hcc 1 (by omega)
              have a2 := hcc 2 (by omega)
              have a3 := hcc 3 (by omega)
              have a4 := hcc 4 (by omega)
              have a5 := hcc 5 (by omega)
              have a6 := hcc 6 (by omega)
              have a7 := hcc 7 (by omega)
              clear hcc
              go_upto_region 34 with fail
              generalize hw8 : w6.alloc (.cells #[.bool (decide ((0 : Int) ∈ kk ls i)), .bool (decide ((1 : Int) ∈ kk ls i)), .bool (decide ((2 : Int) ∈ kk ls i)), .bool (decide ((3 : Int) ∈ kk ls i)), .bool (decide ((4 : Int) ∈ kk ls i)), .bool (decide ((5 : Int) ∈ kk ls i)), .bool (decide ((6 : Int) ∈ kk ls i)), .bool (decide ((7 : Int) ∈ kk ls i))] 72) = w8
              have ht8 : T1 w w8 w6.heap.size 72 8 (hasF (kk ls i)) X 0 n' 2 2 (fun _ => none) (opB v ls cut i) := by rw [← hw8]; exact HW0.out
              have hcm := ht8.mo.commit (s := 0) (L_small (by omega) (by omega)) (opB_zero v ls cut i) (by omega)
              dsimp only at hcm
              rw [putF_commit] at hcm
              have HT8 := Lib.hid ht8
              have HCM := Lib.hid hcm
              clear ht8 hcm a0 a1 a2 a3 a4 a5 a6 a7 hw8
              go_wp2_with fail
              refine HCM.out.mono ?_
              clear HCM
              rintro e w9 ⟨rfl, hm9, _⟩
              have HT9 := Lib.hid (HT8.out.turn hm9)
              have HO9 : Hid (updM (opB v ls cut i) 0 none 0 = none) := Lib.hid (updM_same _ _ _)
              clear hm9
              go_wp2_with fail
              go_meet
              exact ⟨i, _, _, _, _, rfl, by omega, by omega, HT9, HO9, Lib.hid ⟨fun h => by omega, fun _ => rfl, fun x hx => by
                unfold kk at hx
                obtain ⟨y, _, rfl⟩ := List.mem_map.1 hx
                omega⟩⟩
            · by_cases r1 : r = 1
              · subst r1
                have hab := HW.out.mo.abort (s := 0) (L_small (by omega) (by omega))
                rw [opB_zero] at hab
                simp only [Option.isSome_some] at hab
                have HAB := Lib.hid hab
                clear hab hcc
                go_wp2_with fail
                refine HAB.out.mono ?_
                clear HAB
                rintro e w8 ⟨rfl, hm8, _⟩
                have HT8 := Lib.hid (HW.out.turn hm8)
                have HO8 : Hid (updM (opB v ls cut i) 0 none 0 = none) := Lib.hid (updM_same _ _ _)
                clear hm8
                go_wp2_with fail
                go_meet
                exact ⟨0, _, _, _, _, rfl, by omega, by omega, HT8, HO8, Lib.hid ⟨fun h => by omega, fun _ => (putF_nil v).symm, fun x hx => by simp at hx⟩⟩
              · by_cases r2 : r = 2
                · subst r2
                  have HCR := Lib.hid HW.out.mo.crash
                  clear hcc
                  go_wp2_with fail
                  refine HCR.out.mono ?_
                  clear HCR
                  rintro e w8 ⟨rfl, hm8, _⟩
                  have HT8 := Lib.hid (HW.out.turn hm8)
                  clear hm8
                  go_wp2_with fail
                  go_meet
                  exact ⟨0, _, _, _, _, rfl, by omega, by omega, HT8, Lib.hid rfl, Lib.hid ⟨fun h => by omega, fun _ => (putF_nil v).symm, fun x hx => by simp at hx⟩⟩
                · obtain rfl : r = 3 := by omega
                  have hcl : ¬ i < cut := by omega
                  have hz := opB_zero v ls cut i
                  rw [if_neg hcl] at hz
                  have hbk := HW.out.mo.back (s := 0) (L_small (by omega) (by omega)) hz (t := 0) (m := putF v (kk ls cut)) rfl (by simp)
                  have HBK := Lib.hid hbk
                  clear hbk hz hcc
                  go_wp2_with fail
                  refine HBK.out.mono ?_
                  clear HBK
                  rintro e w8 ⟨rfl, hm8, _⟩
                  have ht8 := HW.out.turn hm8
                  have hcm := ht8.mo.commit (s := 0) (L_small (by omega) (by omega)) (updM_same _ _ _) (by omega)
                  dsimp only at hcm
                  rw [putF_commit] at hcm
                  have HT8 := Lib.hid ht8
                  have HCM := Lib.hid hcm
                  clear hm8 ht8 hcm
                  go_wp2_with fail
                  refine HCM.out.mono ?_
                  clear HCM
                  rintro e w9 ⟨rfl, hm9, _⟩
                  have HT9 := Lib.hid (HT8.out.turn hm9)
                  have HO9 : Hid (updM (updM (opB v ls cut i) 0 (some (⟨putF v (kk ls cut), [putF v (kk ls cut)].take (0 + 1)⟩ : Ses))) 0 none 0 = none) := Lib.hid (updM_same _ _ _)
                  clear hm9
                  go_wp2_with fail
                  go_meet
                  exact ⟨cut, _, _, _, _, rfl, by omega, by omega, HT9, HO9, Lib.hid ⟨fun _ => ⟨rfl, rfl, rfl⟩, fun h => absurd trivial h, fun x hx => by simp at hx⟩⟩
          case rest =>
            obtain ⟨q, nl', ks, l, op3, rfl, hnl', hqi, HTc, HO3, HCL⟩ := hcut
            clear HW HW0 HC6 HT6
            generalize w6.heap.size = B at HTc ⊢
            go_wp2_with fail
            refine (NR.out _).mono ?_
            clear NR
            rintro e w8 ⟨rfl, rfl⟩
            go_upto_if 142 with fail
            go_cut [21] from 140 to 153 (fun s21 wx => ∃ ks2 : List Int, Hid (T1 w wx B 72 8 (hasF ks2) X nl' n' 2 2 (putF v ks2) op3) ∧ Hid (∀ x ∈ ks2, 0 ≤ x ∧ x < 8))
            case first =>
              by_cases r3 : r = 3
              · subst r3
                obtain ⟨rfl, rfl, hqc⟩ := HCL.out.1 rfl
                rw [← hqc] at HTc
                clear HCL hqc
                go_wp2_with fail
                go_loopw [21] (fun s21 wr => ∃ j : Nat, s21 = .int .i64 j ∧ j ≤ q ∧ Hid (T1 w wr B 72 8 (hasF (kk ls j)) X nl' n' 2 2 (putF v (kk ls q)) op3)) (fun s21 _ => q - (intOf s21).toNat)
                case atStart => exact ⟨0, rfl, by omega, HTc⟩
                case round =>
                  obtain ⟨j, rfl, hj, HTj⟩ := hrel
                  clear HTc
                  by_cases hjq : (j : Int) < q
                  · obtain ⟨oA, x, rfl, cx, hgx, hxw⟩ : ∃ oA x, o0 = some oA ∧ w.cell? (oA.add j) = some (.int .i64 x) ∧ ls[j]? = some x ∧ I64L x := by
                      obtain ⟨hwf, o', c', he, _, _, _, h4⟩ := H0.out
                      simp only [Value.slice.injEq] at he
                      obtain ⟨rfl, -, -⟩ := he
                      obtain ⟨a, x, ha, hc, hx, hxw⟩ := Ns.at_ hwf h4 (k := j) (by rw [← HN.out]; omega)
                      have hi2 : j < ls.length := by rw [← HN.out]; omega
                      exact ⟨a, x, ha, hc, by rw [List.getElem?_eq_getElem hi2, ← getD_lt (d := 0) hi2, hx.out], wf_i64 hxw⟩
                    have d0 := (HTj.out.bel.cell (Below.lt cx)).trans cx
                    obtain ⟨k, hk⟩ : ∃ k : Nat, x % 8 = k := ⟨(x % 8).toNat, by omega⟩
                    have hk8 : k < 8 := by omega
                    have nk := fun W => number x 8 W (by omega) (by omega) hxw.1 hxw.2
                    simp only [hk] at nk
                    have NK := Lib.hid nk
                    have hks := kk_succ hgx
                    rw [hk] at hks
                    have ht8 := HTj.out.set k (.bool true)
                    rw [hasF_snoc, ← hks] at ht8
                    have HT8 := Lib.hid ht8
                    obtain ⟨ca, ca2⟩ := HTj.out.cell hk8
                    clear nk hk hxw hks ht8 cx hgx
                    have hji : (j : Int) < (i : Int) := by omega
                    go_wp2_with fail
                    refine (NK.out _).mono ?_
                    clear NK
                    rintro e w9 ⟨rfl, rfl⟩
                    go_wp2_with fail
                    go_roundw
                    case rel => exact ⟨.int .i64 ((j : Int) + 1), _, _, _, _, _, _, _, _, _, _, _, ⟨j + 1, by go_num, by omega, HT8⟩, rfl⟩
                    case measure => simp [intOf]; omega
                  · obtain rfl : j = q := by omega
                    have HKB : Hid (∀ x ∈ kk ls j, 0 ≤ x ∧ x < 8) := Lib.hid (fun x hx => by
                      unfold kk at hx
                      obtain ⟨y, _, rfl⟩ := List.mem_map.1 hx
                      omega)
                    go_wp2_with fail
                    go_meet
                    exact ⟨kk ls j, HTj, HKB⟩
              · have hr3 : ¬ ((r : Int) = 3) := by omega
                have hl3 := HCL.out.2.1 r3
                subst hl3
                have HKS := Lib.hid HCL.out.2.2
                clear r3
                go_wp2_with fail
                go_meet
                exact ⟨ks, HTc, HKS⟩
            case rest =>
              obtain ⟨ks2, HTd, HKB⟩ := hcut
              clear HTc HCL
              obtain ⟨T, hT, hTl, hall⟩ := HTd.out.mo.all (by omega)
              have HA := Lib.hid hall
              have HT := Lib.hid hT
              clear hall hT
              go_wp2_with fail
              refine HA.out.mono ?_
              clear HA
              rintro e w10 ⟨o8, c8, rfl, he8, hm8, _⟩
              have HQ8 := Lib.hid (HTd.out.turn hm8)
              have HE8 := Lib.hid he8
              obtain ⟨N, hN⟩ : ∃ N, N = T.length := ⟨_, rfl⟩
              rw [← hN] at HE8 hTl ⊢
              have HNT := Lib.hid hN
              have hmm : ∀ p ∈ T, p.1 ∈ ks2 ∧ wrap64 (v + p.1) = p.2 := fun p hp => by
                obtain ⟨j, hj⟩ := (HT.out.2 p.1 p.2).1 hp
                unfold putF at hj
                by_cases e : p.1 ∈ ks2
                · rw [if_pos e] at hj
                  simp only [Option.some.injEq, Prod.mk.injEq] at hj
                  exact ⟨e, hj.1⟩
                · rw [if_neg e] at hj; simp at hj
              have hk0 : cntE T 0 = 0 := cntE_zero fun p hp => (HKB.out _ (hmm p hp).1).1
              have hk8 : cntE T 8 = N := by
                rw [hN]
                exact cntE_all fun p hp => (HKB.out _ (hmm p hp).1).2
              have HK0 := Lib.hid hk0
              have HK8 := Lib.hid hk8
              have HMM := Lib.hid hmm
              clear hm8 he8 HTd hN hk0 hk8 hmm
              go_wp2_with fail
              go_loopw [12, 23] (fun s12 s23 wx => ∃ k c : Nat, s23 = .int .i64 k ∧ s12 = .int .i64 c ∧ k ≤ 8 ∧ c ≤ N ∧ Hid (c = cntE T k) ∧ Hid (Below w10.heap.size w10 wx)) (fun _ s23 _ => 8 - (intOf s23).toNat)
              case atStart => exact ⟨0, 0, rfl, rfl, by omega, by omega, Lib.hid HK0.out.symm, Lib.hid (Below.refl _ _)⟩
              case round =>
                obtain ⟨k, c, rfl, rfl, hk, hc, HC, HBX⟩ := hrel
                have HQx := Lib.hid (HQ8.out.below HBX.out)
                by_cases hk1 : (k : Int) < 8
                · have hk2 : k < 8 := by omega
                  obtain ⟨ca, _⟩ := HQx.out.cell hk2
                  unfold hasF at ca
                  obtain ⟨hn1, hn2⟩ := cntE_next HT.out.1 (k : Int)
                  by_cases hl2 : (k : Int) ∈ ks2
                  · rw [decide_eq_true hl2] at ca
                    have hmem : ((k : Int), wrap64 (v + k)) ∈ T := (HT.out.2 _ _).2 ⟨true, by unfold putF; rw [if_pos hl2]⟩
                    have hat := cntE_at HT.out.1 hmem
                    rw [← HC.out] at hat
                    have hcN : c < N := by rw [HNT.out]; exact (List.getElem?_eq_some_iff.1 hat).1
                    have HC2 : Hid (c + 1 = cntE T ((k + 1 : Nat) : Int)) := Lib.hid (by rw [HC.out]; exact (hn1 ⟨_, hmem⟩).symm)
                    obtain ⟨g8, r, rfl, hr, _, _, p0, p1⟩ := HE8.out.at_ (k := c) (by rw [← HNT.out]; exact hcN)
                    rw [hat] at hr
                    obtain rfl : ((k : Int), wrap64 (v + k)) = r := by simpa using hr
                    dsimp only at p0 p1
                    have d0 := (HBX.out.cell (Below.lt p0)).trans p0
                    have d1 := (HBX.out.cell (Below.lt p1)).trans p1
                    have hd : decide ((N : Int) ≤ (c : Int)) = false := by simp; omega
                    have hdr := bdrew w10.heap.size
                    clear hn1 hn2 hmem hat hr p0 p1 hl2
                    go_wp2_with fail
                    go_roundw
                    case rel => exact ⟨k + 1, c + 1, by go_num, by go_num, by omega, by omega, HC2, HBX⟩
                    case measure => simp [intOf]; omega
                  · rw [decide_eq_false hl2] at ca
                    have HC2 : Hid (c = cntE T ((k + 1 : Nat) : Int)) := Lib.hid (by
                      rw [HC.out]
                      exact (hn2 fun x hx => hl2 (HMM.out _ hx).1).symm)
                    clear hn1 hn2 hl2
                    go_wp2_with fail
                    go_roundw
                    case rel => exact ⟨k + 1, c, by go_num, rfl, by omega, hc, HC2, HBX⟩
                    case measure => simp [intOf]; omega
                · obtain rfl : k = 8 := by omega
                  obtain rfl : c = N := by rw [HC.out]; exact HK8.out
                  have hop := HQx.out.mo.open_ (s := 0) (L_small (by omega) (by omega))
                  rw [HO3.out] at hop
                  simp only [Option.isSome_none] at hop
                  have HOP := Lib.hid hop
                  clear hop
                  go_wp2_with fail
                  refine HOP.out.mono ?_
                  clear HOP
                  rintro e w12 ⟨rfl, hm12, _⟩
                  have HQ12 := Lib.hid (HQx.out.turn hm12)
                  clear hm12
                  go_wp2_with fail
                  go_ret
                  exact ⟨rfl, HQ12.out.bel⟩
        · have hne : ¬ ((i : Int) = (n : Int)) := by omega
          obtain ⟨oA, x, rfl, cx, hgx, hxw⟩ : ∃ oA x, o0 = some oA ∧ w.cell? (oA.add i) = some (.int .i64 x) ∧ ls[i]? = some x ∧ I64L x := by
            obtain ⟨hwf, o', c', he, _, _, _, h4⟩ := H0.out
            simp only [Value.slice.injEq] at he
            obtain ⟨rfl, -, -⟩ := he
            obtain ⟨a, x, ha, hc, hx, hxw⟩ := Ns.at_ hwf h4 (k := i) (by rw [← HN.out]; omega)
            have hi2 : i < ls.length := by rw [← HN.out]; omega
            exact ⟨a, x, ha, hc, by rw [List.getElem?_eq_getElem hi2, ← getD_lt (d := 0) hi2, hx.out], wf_i64 hxw⟩
          have d0 := (HT2.out.bel.cell (Below.lt cx)).trans cx
          obtain ⟨k, hk⟩ : ∃ k : Nat, x % 8 = k := ⟨(x % 8).toNat, by omega⟩
          have hk8 : k < 8 := by omega
          have nk := fun W => number x 8 W (by omega) (by omega) hxw.1 hxw.2
          simp only [hk] at nk
          have NK := Lib.hid nk
          obtain ⟨on1, on2⟩ := opB_next (v := v) (cut := cut) hgx
          have hks := kk_succ hgx
          rw [hk] at on1 hks
          have hput := fun y (hy : I64L y) => HT2.out.mo.put (s := 0) (k := (k : Int)) (L_small (by omega) (by omega)) (L_small (by omega) (by omega)) hy (opB_zero v ls cut i) (by omega)
          have hsee : seesM (fun _ => none) (opB v ls cut i) 0 (k : Int) = (putF v (kk ls i) (k : Int)).getD (0, false) := by
            unfold seesM
            rw [opB_zero]
            rfl
          rw [hsee] at hput
          have HPT := Lib.hid hput
          have HON1 := Lib.hid on1
          have HON2 := Lib.hid on2
          have HKS := Lib.hid hks
          clear nk hk hxw hput hsee on1 on2 hks cx hgx hin
          go_wp2_with fail
          refine (NK.out _).mono ?_
          clear NK d0
          rintro e w5 ⟨rfl, rfl⟩
          obtain ⟨sv, hsv⟩ : ∃ sv, sv = (putF v (kk ls i) (k : Int)).getD (0, false) := ⟨_, rfl⟩
          rw [← hsv] at HPT
          obtain ⟨s1, s2⟩ := sv
          go_wp2_with fail
          refine (HPT.out _ (wrapLA _)).mono ?_
          clear HPT
          rintro e w6 ⟨rfl, hm6, _⟩
          have ht6 := HT2.out.turn hm6
          rw [HON1.out] at ht6
          have hg := ht6.mo.get (s := 1) (k := (k : Int)) (L_small (by omega) (by omega)) (L_small (by omega) (by omega))
          have hsee : seesM (fun _ => none) (opA v ls cut (i + 1)) 1 (k : Int) = (0, false) := by
            unfold seesM
            rw [opA_one]
            rfl
          rw [hsee] at hg
          have HG := Lib.hid hg
          have HSV := Lib.hid hsv
          have HT6 := Lib.hid ht6
          clear hm6 ht6 hg hsee HT2 hsv HON1
          go_wp2_with fail
          refine HG.out.mono ?_
          clear HG
          rintro e w7 ⟨rfl, hm7, _⟩
          have ht7 := HT6.out.turn hm7
          obtain ⟨ca, ca2⟩ := ht7.cell hk8
          have ht8 := ht7.set k (.bool true)
          rw [hasF_snoc, ← HKS.out] at ht8
          have HT8 := Lib.hid ht8
          unfold hasF at ca
          have hsv := HSV.out
          unfold putF at hsv
          by_cases hmem : (k : Int) ∈ kk ls i
          · rw [decide_eq_true hmem] at ca
            rw [if_pos hmem] at hsv
            simp only [Option.getD_some, Prod.mk.injEq] at hsv
            obtain ⟨rfl, rfl⟩ := hsv
            clear hm7 ht7 ht8 hmem HSV HT6
            go_wp2_with fail
            go_roundw
            case rel => exact ⟨i + 1, _, by go_num, by rw [HON2.out], by omega, by omega, HT8⟩
            case measure => simp [intOf]; omega
          · rw [decide_eq_false hmem] at ca
            rw [if_neg hmem] at hsv
            simp only [Option.getD_none, Prod.mk.injEq] at hsv
            obtain ⟨rfl, rfl⟩ := hsv
            clear hm7 ht7 ht8 hmem HSV HT6
            go_wp2_with fail
            go_roundw
            case rel => exact ⟨i + 1, _, by go_num, by rw [HON2.out], by omega, by omega, HT8⟩
            case measure => simp [intOf]; omega
end Go.Proofs.Ytpgelebmhhcodaa
