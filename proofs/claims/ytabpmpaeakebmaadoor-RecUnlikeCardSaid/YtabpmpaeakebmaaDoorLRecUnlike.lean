/- The walk of the law RecUnlike. -/
import Derived.Test.YtabpmpaeakebmaaDoorRecM
import Derived.Test.YtabpmpaeakebmaaDoorRecT
import Derived.Test.YtabpmpaeakebmaaDoorRecF
import Derived.Test.YtabpmpaeakebmaaDoorRecQ
import Derived.Test.YtabpmpaeakebmaaDoorSame
import Derived.Deep.RegionHeld3
namespace Go.Proofs.YtabpmpaeakebmaaDoor
open Go.RowKit
set_option linter.unusedVariables false

theorem sameB_recB {a b : RecD} (ha : okR a = true) (hb : okR b = true) (wa : a.W) (wb : b.W) : sameB (recB a) (recB b) = sameRB a b := by
  rw [sameRB_decide]
  unfold sameB
  by_cases e : a = b
  · subst e; rw [decide_eq_true rfl, decide_eq_true rfl]
  · rw [decide_eq_false e, decide_eq_false (fun h => e (recB_inj ha hb wa wb h))]

theorem recUnlike_big (v u : Value) (l m : List Int) (w : World) (p : Option Addr) (T : TypeId) (hE : w.cell? ⟨0, 0, none⟩ = some (.iface T (.pointer p))) (hv : Ns .i64 w v l) (hu : Ns .i64 w u m) (hbig : (60 : Int) < l.length ∨ (60 : Int) < m.length) :
    Calls Tryd.prog 8 #[v, u] w fun e w' => e = .returned (.bool true) ∧ Below w.heap.size w w' := by
  obtain ⟨_, o, cap, rfl, hc1, hc2, hc3, _⟩ := hv
  obtain ⟨_, o', cap', rfl, hd1, hd2, hd3, _⟩ := hu
  unfold maxLen at hc2 hd2
  have hF := recFirst w _ _ hE
  have HF := Lib.hid hF
  clear hF hE
  generalize l.length = n at *
  generalize m.length = k at *
  by_cases h1 : (60 : Int) < n
  · go_enter Tryd.func8, Tryd.ntmps8
    go_wp2_with fail
    refine HF.out.mono ?_
    rintro e w1 ⟨rfl, hb1⟩
    have HB1 := Lib.hid hb1
    clear hb1
    go_wp2_with fail
    go_ret
    exact ⟨rfl, HB1.out⟩
  · have h2 : (60 : Int) < k := by omega
    go_enter Tryd.func8, Tryd.ntmps8
    go_wp2_with fail
    refine HF.out.mono ?_
    rintro e w1 ⟨rfl, hb1⟩
    have HB1 := Lib.hid hb1
    clear hb1
    go_wp2_with fail
    go_ret
    exact ⟨rfl, HB1.out⟩

set_option maxRecDepth 20000 in
set_option maxHeartbeats 4000000 in
theorem recUnlike_small (v u : Value) (l m : List Int) (w : World) (p : Option Addr) (T : TypeId) (hE : w.cell? ⟨0, 0, none⟩ = some (.iface T (.pointer p))) (hv : Ns .i64 w v l) (hu : Ns .i64 w u m) (hl : (l.length : Int) ≤ 60) (hm : (m.length : Int) ≤ 60) :
    Calls Tryd.prog 8 #[v, u] w fun e w' => e = .returned (.bool true) ∧ Below w.heap.size w w' := by
  have hv' := hv
  have hu' := hu
  obtain ⟨_, o, cap, rfl, hc1, hc2, hc3, _⟩ := hv
  obtain ⟨_, o', cap', rfl, hd1, hd2, hd3, _⟩ := hu
  unfold maxLen at hc2 hd2
  have hF := recFirst w _ _ hE
  have hrb := fun (r : RecD) w' (hb : Below w.heap.size w w') hr hok => recBytes r w' hr _ ((hb.cell (Below.lt hE)).trans hE) hok
  have HF := Lib.hid hF
  have HRB := Lib.hid hrb
  have HV := Lib.hid hv'
  have HU := Lib.hid hu'
  have HL := Lib.hid hl
  have HM := Lib.hid hm
  clear hF hrb hv' hu' hE
  obtain ⟨n, hn⟩ : ∃ n, n = l.length := ⟨_, rfl⟩
  obtain ⟨k, hk⟩ : ∃ k, k = m.length := ⟨_, rfl⟩
  rw [← hn] at hc1 hl ⊢
  rw [← hk] at hd1 hm ⊢
  have HN := Lib.hid hn
  have HK := Lib.hid hk
  clear hn hk
  go_enter Tryd.func8, Tryd.ntmps8
  go_wp2_with fail
  refine HF.out.mono ?_
  rintro e w1 ⟨rfl, hb1⟩
  have hmk1 := makeRec' _ l w1 (HV.out.below hb1) (by have := HL.out; omega)
  rw [← HN.out] at hmk1
  have HMK1 := Lib.hid hmk1
  have HB1 := Lib.hid hb1
  clear hb1 hmk1 HF
  go_wp2_with fail
  refine HMK1.out.mono ?_
  rintro e w2 ⟨⟨r, rfl, hrw, hrok⟩, hb2⟩
  have HB2 := Lib.hid (HB1.out.trans (hb2.mono HB1.out.size))
  have HRW := Lib.hid hrw
  have HROK := Lib.hid hrok
  clear HMK1 HB1 hb2 hrw hrok
  obtain ⟨a0, a1, a2, a3, a4, a5, a6, a7, a8, a9⟩ := r
  dsimp only [recV]
  obtain ⟨w3, hw3⟩ : ∃ w3, w3 = w2.alloc (.cells #[.int .i64 a0, .int .i64 a1, .int .i64 a2, .int .i64 a3, .int .i64 a4, .int .i64 a5, .bool a6, .bool a7, .int .i64 a8, .int .i64 a9] 50) := ⟨_, rfl⟩
  have hb3 : Below w.heap.size w w3 := by rw [hw3]; exact HB2.out.alloc HB2.out.size _
  have hra3 : RW w2.heap.size #[.int .i64 a0, .int .i64 a1, .int .i64 a2, .int .i64 a3, .int .i64 a4, .int .i64 a5, .bool a6, .bool a7, .int .i64 a8, .int .i64 a9] w3 := by rw [hw3]; exact RW.new _ _
  have hmk3 := makeRec' _ m w3 (HU.out.below hb3) (by have := HM.out; omega)
  rw [← HK.out] at hmk3
  have hs3 : w3.heap.size = w2.heap.size + 1 := by rw [hw3]; simp
  have HMK3 := Lib.hid hmk3
  have HB3 := Lib.hid hb3
  have HRA3 := Lib.hid hra3
  have HW3 := Lib.hid hw3
  have HS3 := Lib.hid hs3
  clear hmk3 hb3 hra3 hw3 hs3
  go_wp2_with fail
  rw [← HW3.out, ← HS3.out]
  refine HMK3.out.mono ?_
  rintro e w4 ⟨⟨r, rfl, hrw, hrok⟩, hb4⟩
  have HB4 := Lib.hid (HB3.out.trans (hb4.mono HB3.out.size))
  have HRA4 := Lib.hid (HRA3.out.below hb4)
  have HQW := Lib.hid hrw
  have HQOK := Lib.hid hrok
  clear HMK3 HB3 HRA3 HW3 HS3 hb4 hrw hrok HB2
  generalize w2.heap.size = A1 at HRA4 ⊢
  obtain ⟨q0, q1, q2, q3, q4, q5, q6, q7, q8, q9⟩ := r
  dsimp only [recV]
  have hal : Below w4.heap.size w4 (w4.alloc (.cells #[.int .i64 q0, .int .i64 q1, .int .i64 q2, .int .i64 q3, .int .i64 q4, .int .i64 q5, .bool q6, .bool q7, .int .i64 q8, .int .i64 q9] 50)) := (Below.refl _ _).alloc (Nat.le_refl _) _
  have HB5 := Lib.hid (HB4.out.trans (hal.mono HB4.out.size))
  have HRA5 := Lib.hid (HRA4.out.below hal)
  have HRC5 := Lib.hid (RW.new w4 #[.int .i64 q0, .int .i64 q1, .int .i64 q2, .int .i64 q3, .int .i64 q4, .int .i64 q5, .bool q6, .bool q7, .int .i64 q8, .int .i64 q9])
  obtain ⟨c0, c1, c2, c3, c4, c5, c6, c7, c8, c9⟩ := HRA5.out.cells
  clear hal HRA4 HB4
  go_wp2_with fail
  generalize (w4.alloc (.cells #[.int .i64 q0, .int .i64 q1, .int .i64 q2, .int .i64 q3, .int .i64 q4, .int .i64 q5, .bool q6, .bool q7, .int .i64 q8, .int .i64 q9] 50)) = w5 at HB5 HRA5 HRC5 c0 c1 c2 c3 c4 c5 c6 c7 c8 c9 ⊢
  generalize w4.heap.size = A2 at HRC5 ⊢
  have hba := HRB.out _ w5 HB5.out HRW.out HROK.out
  dsimp only [recV] at hba
  refine hba.mono ?_
  rintro e w6 ⟨⟨x, rfl, hox⟩, hb6⟩
  clear hba
  have HB6 := Lib.hid (HB5.out.trans (hb6.mono HB5.out.size))
  have HRA6 := Lib.hid (HRA5.out.below hb6)
  have HRC6 := Lib.hid (HRC5.out.below hb6)
  have HX := Lib.hid hox.bs
  clear hb6 hox HB5 HRA5 HRC5 c0 c1 c2 c3 c4 c5 c6 c7 c8 c9
  obtain ⟨c0, c1, c2, c3, c4, c5, c6, c7, c8, c9⟩ := HRC6.out.cells
  go_wp2_with fail
  have hbq := HRB.out _ w6 HB6.out HQW.out HQOK.out
  dsimp only [recV] at hbq
  refine hbq.mono ?_
  rintro e w7 ⟨⟨y, rfl, hoy⟩, hb7⟩
  clear hbq
  have HB7 := Lib.hid (HB6.out.trans (hb7.mono HB6.out.size))
  have HRA7 := Lib.hid (HRA6.out.below hb7)
  have HRC7 := Lib.hid (HRC6.out.below hb7)
  have HX7 := Lib.hid (HX.out.below hb7)
  have HY := Lib.hid hoy.bs
  clear hb7 hoy HB6 HRA6 HRC6 HX HRB c0 c1 c2 c3 c4 c5 c6 c7 c8 c9
  go_wp2_with fail
  have hsb : ∀ W, Below w7.heap.size w7 W → Calls Tryd.prog 18 #[x, y] W fun e w' => e = .returned (.bool (sameRB ⟨a0, a1, a2, a3, a4, a5, a6, a7, a8, a9⟩ ⟨q0, q1, q2, q3, q4, q5, q6, q7, q8, q9⟩)) ∧ Below W.heap.size W w' := fun W hb => by
    rw [← sameB_recB HROK.out HQOK.out HRW.out HQW.out]
    exact (same_calls _ _ _ _ W (HX7.out.below hb) (HY.out.below hb)).mono fun e w' h => ⟨h.1, h.2.below _⟩
  have hsm := fun W => sameRec ⟨a0, a1, a2, a3, a4, a5, a6, a7, a8, a9⟩ ⟨q0, q1, q2, q3, q4, q5, q6, q7, q8, q9⟩ W
  have hsq := fun W => recSame ⟨a0, a1, a2, a3, a4, a5, a6, a7, a8, a9⟩ ⟨q0, q1, q2, q3, q4, q5, q6, q7, q8, q9⟩ W
  dsimp only [recV] at hsm hsq
  generalize sameRB ⟨a0, a1, a2, a3, a4, a5, a6, a7, a8, a9⟩ ⟨q0, q1, q2, q3, q4, q5, q6, q7, q8, q9⟩ = s at hsb hsm hsq
  have hS : ∀ W, Below w7.heap.size w7 W → (W.cell? ⟨A1, 0, none⟩ = some (.int .i64 a0) ∧ W.cell? ⟨A1, 1, none⟩ = some (.int .i64 a1) ∧ W.cell? ⟨A1, 2, none⟩ = some (.int .i64 a2) ∧ W.cell? ⟨A1, 3, none⟩ = some (.int .i64 a3) ∧ W.cell? ⟨A1, 4, none⟩ = some (.int .i64 a4) ∧ W.cell? ⟨A1, 5, none⟩ = some (.int .i64 a5) ∧ W.cell? ⟨A1, 6, none⟩ = some (.bool a6) ∧ W.cell? ⟨A1, 7, none⟩ = some (.bool a7) ∧ W.cell? ⟨A1, 8, none⟩ = some (.int .i64 a8) ∧ W.cell? ⟨A1, 9, none⟩ = some (.int .i64 a9)) ∧
      (W.cell? ⟨A2, 0, none⟩ = some (.int .i64 q0) ∧ W.cell? ⟨A2, 1, none⟩ = some (.int .i64 q1) ∧ W.cell? ⟨A2, 2, none⟩ = some (.int .i64 q2) ∧ W.cell? ⟨A2, 3, none⟩ = some (.int .i64 q3) ∧ W.cell? ⟨A2, 4, none⟩ = some (.int .i64 q4) ∧ W.cell? ⟨A2, 5, none⟩ = some (.int .i64 q5) ∧ W.cell? ⟨A2, 6, none⟩ = some (.bool q6) ∧ W.cell? ⟨A2, 7, none⟩ = some (.bool q7) ∧ W.cell? ⟨A2, 8, none⟩ = some (.int .i64 q8) ∧ W.cell? ⟨A2, 9, none⟩ = some (.int .i64 q9)) :=
    fun W hb => ⟨(HRA7.out.below hb).cells, (HRC7.out.below hb).cells⟩
  have hdr : Below w7.heap.size w7 w7.drew := (Below.refl _ _).drew
  have HSB := Lib.hid hsb
  have HSM := Lib.hid hsm
  have HSQ := Lib.hid hsq
  have HS := Lib.hid hS
  have HDR := Lib.hid hdr
  clear hsb hsm hsq hS hdr HX7 HY HRA7 HRC7
  go_region_held3 (fun W => (W.cell? ⟨A1, 0, none⟩ = some (.int .i64 a0) ∧ W.cell? ⟨A1, 1, none⟩ = some (.int .i64 a1) ∧ W.cell? ⟨A1, 2, none⟩ = some (.int .i64 a2) ∧ W.cell? ⟨A1, 3, none⟩ = some (.int .i64 a3) ∧ W.cell? ⟨A1, 4, none⟩ = some (.int .i64 a4) ∧ W.cell? ⟨A1, 5, none⟩ = some (.int .i64 a5) ∧ W.cell? ⟨A1, 6, none⟩ = some (.bool a6) ∧ W.cell? ⟨A1, 7, none⟩ = some (.bool a7) ∧ W.cell? ⟨A1, 8, none⟩ = some (.int .i64 a8) ∧ W.cell? ⟨A1, 9, none⟩ = some (.int .i64 a9)) ∧
      (W.cell? ⟨A2, 0, none⟩ = some (.int .i64 q0) ∧ W.cell? ⟨A2, 1, none⟩ = some (.int .i64 q1) ∧ W.cell? ⟨A2, 2, none⟩ = some (.int .i64 q2) ∧ W.cell? ⟨A2, 3, none⟩ = some (.int .i64 q3) ∧ W.cell? ⟨A2, 4, none⟩ = some (.int .i64 q4) ∧ W.cell? ⟨A2, 5, none⟩ = some (.int .i64 q5) ∧ W.cell? ⟨A2, 6, none⟩ = some (.bool q6) ∧ W.cell? ⟨A2, 7, none⟩ = some (.bool q7) ∧ W.cell? ⟨A2, 8, none⟩ = some (.int .i64 q8) ∧ W.cell? ⟨A2, 9, none⟩ = some (.int .i64 q9)))
    (first | exact HS.out _ HDR.out | exact HS.out _ hbx | exact HS.out _ hby | exact HS.out _ hbz | exact HS.out _ hbu)
    ((first
      | (go_at_call 18; refine (HSB.out _ HDR.out).mono ?_; rintro e wx ⟨rfl, hbx0⟩; have hbx := HDR.out.trans (hbx0.mono HDR.out.size); clear hbx0)
      | (go_at_call 32; refine (HSQ.out wy).mono ?_; rintro e wz ⟨rfl, hbz0⟩; have hbz := hby.trans (hbz0.mono hby.size); clear hbz0)
      | (go_at_call 31; first
          | (refine (HSM.out wx).mono ?_; rintro e wy ⟨rfl, hby0⟩; have hby := hbx.trans (hby0.mono hbx.size); clear hby0)
          | (refine (HSM.out wz).mono ?_; rintro e wu ⟨rfl, hbu0⟩; have hbu := hbz.trans (hbu0.mono hbz.size); clear hbu0))))
  have HBF := HB7.out.trans (hbu.mono HB7.out.size)
  have hss : (s == s) = true := by simp
  go_wp2_with fail
  go_ret
  exact ⟨by simp, HBF⟩

theorem recUnlike_walk (v u : Value) (l m : List Int) (w : World) (p : Option Addr) (T : TypeId) (hE : w.cell? ⟨0, 0, none⟩ = some (.iface T (.pointer p))) (hv : Ns .i64 w v l) (hu : Ns .i64 w u m) :
    Calls Tryd.prog 8 #[v, u] w fun e w' => e = .returned (.bool true) ∧ Below w.heap.size w w' := by
  by_cases h : (60 : Int) < l.length ∨ (60 : Int) < m.length
  · exact recUnlike_big v u l m w _ _ hE hv hu h
  · exact recUnlike_small v u l m w _ _ hE hv hu (by omega) (by omega)
end Go.Proofs.YtabpmpaeakebmaaDoor
