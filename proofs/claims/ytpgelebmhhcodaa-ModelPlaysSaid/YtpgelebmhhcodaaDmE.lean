/- Contracts: the document's model: change, Put, Delete. -/
import Derived.Test.YtpgelebmhhcodaaDmD
import Derived.Test.YtpgelebmhhcodaaRgG
namespace Go.Proofs.Ytpgelebmhhcodaa
open Go.RowKit
set_option linter.unusedVariables false
set_option linter.unusedSimpArgs false

section
variable {w : World} {P A B C N : Nat} {vL : Value} {vm vs : Nat → Value} {K : Nat → Prop} {L : List (Int × Int)} {on : Nat → Bool} {mine : Nat → List Pc} {saves : Nat → List Int}
theorem Dm.putB {W : World} (h : Dm w P A B C N vL vm vs K L on mine saves) (hb : Below w.heap.size w W) {i : Nat} (hi : i < N) {v : Value} {M : List Pc} (hv : Pt w.heap.size W v M) :
    (W.cell? ⟨B, i, none⟩ = some (vm i) ∧ W.frozen? ⟨B, i, none⟩ = false) ∧ Dx (W.setCell ⟨B, i, none⟩ v) P N (nwK K w W) L on (upN mine i M) saves ∧ Ext K w (nwK K w W) (W.setCell ⟨B, i, none⟩ v) := by
  have hg := h.grow hb
  refine ⟨hg.cellB hi, ⟨_, _, _, _, _, _, hg.setB i (hv.mono (Nat.zero_le _)) fun b e => h.fresh (hv.lt e).1 (hv.lt e).2⟩, ?_⟩
  exact (nwK_ext h.low hb).trans (ext_set (.inl (h.k4 B (.inr (.inr (.inl rfl))))) i v)
theorem Dm.putC {W : World} (h : Dm w P A B C N vL vm vs K L on mine saves) (hb : Below w.heap.size w W) {i : Nat} (hi : i < N) {v : Value} {M : List Int} (hv : Oi w.heap.size W v M) :
    (W.cell? ⟨C, i, none⟩ = some (vs i) ∧ W.frozen? ⟨C, i, none⟩ = false) ∧ Dm (W.setCell ⟨C, i, none⟩ v) P A B C N vL vm (upN vs i v) (nwK K w W) L on mine (upN saves i M) ∧ Ext K w (nwK K w W) (W.setCell ⟨C, i, none⟩ v) := by
  have hg := h.grow hb
  refine ⟨hg.cellC hi, hg.setC i (hv.mono (Nat.zero_le _)) fun b e => h.fresh (hv.lt e).1 (hv.lt e).2, ?_⟩
  exact (nwK_ext h.low hb).trans (ext_set (.inl (h.k4 C (.inr (.inr (.inr rfl))))) i v)
theorem Dm.putL {W : World} (h : Dm w P A B C N vL vm vs K L on mine saves) (hb : Below w.heap.size w W) {v : Value} {M : List (Int × Int)} (hv : En w.heap.size W v M) :
    (W.cell? ⟨P, 0, none⟩ = some vL ∧ W.frozen? ⟨P, 0, none⟩ = false) ∧ Dm (W.setCell ⟨P, 0, none⟩ v) P A B C N v vm vs (nwK K w W) M on mine saves ∧ Ext K w (nwK K w W) (W.setCell ⟨P, 0, none⟩ v) := by
  have hg := h.grow hb
  refine ⟨⟨hg.cellP.1, hg.cellP.2.2.2.2⟩, hg.setL (hv.mono (Nat.zero_le _)) fun b e => h.fresh (hv.lt e).1 (hv.lt e).2, ?_⟩
  exact (nwK_ext h.low hb).trans (ext_set (.inl (h.k4 P (.inl rfl))) 0 v)
end
def pO (p : Pc) : Obj := .cells #[.int .i64 p.1, .bool p.2.1, .int .i64 p.2.2] 130
def eO : Obj := .cells #[] 130
/-- the parts copied and one more, in whatever order the rows are laid -/
theorem chg3 {w : World} {b2 : Nat} {u : Value} {M : List Pc} (hu : Pt b2 w u M) (p : Pc) (hp1 : I64L p.1) (hp2 : I64L p.2.2) (hm : M.length ≤ 100000) (ty : TypeId) :
    (∃ g c w2 g' c' w4, (Builtin.append_ #[127, 127] ty #[.slice (some ⟨w.heap.size, 0, none⟩) 0 0, u]).run Try.prog (w.alloc eO) = .ok (.slice (some ⟨g, 0, none⟩) M.length c) w2 ∧
      (Builtin.append_ #[127, 127] ty #[.slice (some ⟨g, 0, none⟩) M.length c, .slice (some ⟨w2.heap.size, 0, none⟩) 1 1]).run Try.prog (w2.alloc (pO p)) = .ok (.slice (some ⟨g', 0, none⟩) (M.length + 1) c') w4 ∧
      Below w.heap.size w w2 ∧ Below w.heap.size w (w2.alloc (pO p)) ∧ Below w.heap.size w w4 ∧ Pt w.heap.size w4 (.slice (some ⟨g', 0, none⟩) (M.length + 1) c') (M ++ [p])) ∧
    (∃ g c w3 g' c' w4, (Builtin.append_ #[127, 127] ty #[.slice (some ⟨w.heap.size, 0, none⟩) 0 0, u]).run Try.prog ((w.alloc eO).alloc (pO p)) = .ok (.slice (some ⟨g, 0, none⟩) M.length c) w3 ∧
      (Builtin.append_ #[127, 127] ty #[.slice (some ⟨g, 0, none⟩) M.length c, .slice (some ⟨w.heap.size + 1, 0, none⟩) 1 1]).run Try.prog w3 = .ok (.slice (some ⟨g', 0, none⟩) (M.length + 1) c') w4 ∧
      Below w.heap.size w w3 ∧ Below w.heap.size w w4 ∧ Pt w.heap.size w4 (.slice (some ⟨g', 0, none⟩) (M.length + 1) c') (M ++ [p])) ∧
    (∃ g c w3 g' c' w4, (Builtin.append_ #[127, 127] ty #[.slice (some ⟨w.heap.size + 1, 0, none⟩) 0 0, u]).run Try.prog ((w.alloc (pO p)).alloc eO) = .ok (.slice (some ⟨g, 0, none⟩) M.length c) w3 ∧
      (Builtin.append_ #[127, 127] ty #[.slice (some ⟨g, 0, none⟩) M.length c, .slice (some ⟨w.heap.size, 0, none⟩) 1 1]).run Try.prog w3 = .ok (.slice (some ⟨g', 0, none⟩) (M.length + 1) c') w4 ∧
      Below w.heap.size w w3 ∧ Below w.heap.size w w4 ∧ Pt w.heap.size w4 (.slice (some ⟨g', 0, none⟩) (M.length + 1) c') (M ++ [p])) := by
  have al := fun (W : World) (x : Obj) => (Below.refl W.heap.size W).alloc (Nat.le_refl _) x
  have sz := fun (W : World) (x : Obj) => (show (W.alloc x).heap.size = W.heap.size + 1 by simp)
  have l1 := sz w eO
  have l2 := sz w (pO p)
  have l3 := sz (w.alloc eO) (pO p)
  have l4 := sz (w.alloc (pO p)) eO
  have be := al w eO
  have bp := al w (pO p)
  refine ⟨?_, ?_, ?_⟩
  · obtain ⟨g, c, w2, r1, q1, b1, _⟩ := (Pt.made0 (w := w) (Nat.le_refl _)).append (hu.below be) be.size (by simp; omega) ty
    rw [List.nil_append] at q1
    rw [List.length_nil, Nat.zero_add] at r1 q1
    have b2 := be.trans b1
    have s2 := b2.size
    have a2 := al w2 (pO p)
    obtain ⟨g', c', w4, r2, q2, b3, _⟩ := (q1.below a2).append (Pt.made1 (w := w2) (base := w2.heap.size) (Nat.le_refl _) p.1 p.2.1 p.2.2 hp1 hp2) (Nat.le_trans s2 a2.size) (by simp; omega) ty
    exact ⟨g, c, w2, g', c', w4, r1, r2, b2, b2.alloc s2 _, (b2.alloc s2 _).trans b3, q2⟩
  · have hx := Pt.made1 (w := w.alloc eO) (base := w.heap.size) (by omega) p.1 p.2.1 p.2.2 hp1 hp2
    have b12 := be.alloc (by omega) (pO p)
    obtain ⟨g, c, w3, r1, q1, b1, hg⟩ := ((Pt.made0 (w := w) (Nat.le_refl _)).below (al _ (pO p))).append (hu.below b12) b12.size (by simp; omega) ty
    rw [List.nil_append] at q1
    rw [List.length_nil, Nat.zero_add] at r1 q1
    have b2 := b12.trans b1
    have hx2 : Pt w.heap.size w3 (.slice (some ⟨w.heap.size + 1, 0, none⟩) 1 1) [p] := by
      rw [l1] at hx
      refine hx.same fun b e => ?_
      obtain rfl : w.heap.size + 1 = b := by simpa [Value.ownBlock] using e
      exact hg.block _ (by show _ < ((w.alloc eO).alloc (pO p)).heap.size; omega) (by simp)
    obtain ⟨g', c', w4, r2, q2, b3, _⟩ := q1.append hx2 b2.size (by simp; omega) ty
    exact ⟨g, c, w3, g', c', w4, r1, r2, b2, b2.trans b3, q2⟩
  · have hx := Pt.made1 (w := w) (base := w.heap.size) (Nat.le_refl _) p.1 p.2.1 p.2.2 hp1 hp2
    have b12 := bp.alloc (by omega) eO
    have h0 := Pt.made0 (w := w.alloc (pO p)) (base := w.heap.size) (by omega)
    rw [l2] at h0
    obtain ⟨g, c, w3, r1, q1, b1, hg⟩ := h0.append (hu.below b12) b12.size (by simp; omega) ty
    rw [List.nil_append] at q1
    rw [List.length_nil, Nat.zero_add] at r1 q1
    have b2 := b12.trans b1
    have hx2 : Pt w.heap.size w3 (.slice (some ⟨w.heap.size, 0, none⟩) 1 1) [p] := by
      refine (hx.below (al _ eO)).same fun b e => ?_
      obtain rfl : w.heap.size = b := by simpa [Value.ownBlock] using e
      exact hg.block _ (by show _ < ((w.alloc (pO p)).alloc eO).heap.size; omega) (by simp)
    obtain ⟨g', c', w4, r2, q2, b3, _⟩ := q1.append hx2 b2.size (by simp; omega) ty
    exact ⟨g, c, w3, g', c', w4, r1, r2, b2, b2.trans b3, q2⟩
structure AppR (t ty : TypeId) (v u : Value) (W : World) (r : Value) (W' : World) : Prop where
  run : (Builtin.append_ #[t, t] ty #[v, u]).run Try.prog W = .ok r W'
theorem step_append_S (w : World) {ops : Array Oper} {o : Oper} {a : Act} {Kk : Act → World → Prop} {Q : Exit → Act → World → Prop} {E : Prop} (hgd : o.guard = none) (s x : Operand) (t : TypeId)
    (ho : o.op = .call { callee := .builtin .append, args := #[s, x], argTypes := #[t, t] }) (vs vx : Value) (hs : a.eval s = vs) (hx : a.eval x = vx)
    (v' : Value) (w' : World) (hr : AppR t o.type vs vx w v' w') (h : Kk (a.put o.dst v') w') : if Region.wanted o (yielded ops a.tmps) = true then Oper.wp Try.prog o a w Kk Q else E :=
  step_append_runL w hgd s x t t ho vs vx hs hx v' w' hr.run h
theorem bl_al {w W : World} (x : Obj) (h : Below w.heap.size w W) : Below w.heap.size w (W.alloc x) := h.alloc h.size x
section
variable {w : World} {P N : Nat} {K : Nat → Prop} {L : List (Int × Int)} {on : Nat → Bool} {mine : Nat → List Pc} {saves : Nat → List Int}
set_option maxRecDepth 20000 in
set_option maxHeartbeats 4000000 in
theorem refChange (h : Dx w P N K L on mine saves) {i : Nat} (hi : i < N) (hon : on i = true) (hil : I64L i) {pk pv : Int} (ph : Bool) (hpk : I64L pk) (hpv : I64L pv) (hml : ∀ j, j < N → (mine j).length ≤ 10000) :
    Calls Try.prog 89 #[.pointer (some ⟨P, 0, none⟩), .int .i64 i, .agg #[.int .i64 pk, .bool ph, .int .i64 pv]] w fun e w' => e = .returned (.tuple #[.int .i64 (seesD L (ownOf (mine i) pk) pk).1, .bool (seesD L (ownOf (mine i) pk) pk).2]) ∧ ∃ K', Dx w' P N K' L on (upN mine i (mine i ++ [(pk, ph, pv)])) saves ∧ Ext K w K' w' := by
  have hb1 : Below w.heap.size w (w.alloc (.cells #[.int .i64 pk, .bool ph, .int .i64 pv] 130)) := (Below.refl _ _).alloc (Nat.le_refl _) _
  have hbx := heap_alloc_new w (.cells #[.int .i64 pk, .bool ph, .int .i64 pv] 130)
  have ho := refOpen (h.below hb1) hil
  rw [onI_in hi, hon] at ho
  have HO := Lib.hid ho
  have hg := fun W hb => refGet ((h.below hb1).below (w' := W) hb) (s := (i : Int)) hil hpk (fun j hj => Nat.le_trans (hml j hj) (by omega))
  rw [onI_in hi, hon] at hg
  simp only [if_true, Int.toNat_natCast] at hg
  generalize seesD L (ownOf (mine i) pk) pk = R at hg ⊢
  obtain ⟨R1, R2⟩ := R
  dsimp only at hg ⊢
  have HG := Lib.hid hg
  obtain ⟨A, B, C, vL, vm, vs, h0⟩ := h
  have hBl : B < w.heap.size := h0.low B (h0.k4 B (.inr (.inr (.inl rfl))))
  have HBl := Lib.hid hBl
  have H1 := Lib.hid (h0.below hb1)
  have HB1 := Lib.hid hb1
  have hc0 : ∀ W, Below (w.alloc (.cells #[.int .i64 pk, .bool ph, .int .i64 pv] 130)).heap.size (w.alloc (.cells #[.int .i64 pk, .bool ph, .int .i64 pv] 130)) W → W.cell? ⟨w.heap.size, 0, none⟩ = some (.int .i64 pk) ∧ W.cell? ⟨w.heap.size, 1, none⟩ = some (.bool ph) ∧ W.cell? ⟨w.heap.size, 2, none⟩ = some (.int .i64 pv) := fun W hb => by
    have e := (hb.block w.heap.size (by simp)).trans hbx
    refine ⟨?_, ?_, ?_⟩ <;> rw [cell_of_row W _ _ _ _ (0, 0) e] <;> rfl
  have HC0 := Lib.hid hc0
  have hl := hml i hi
  have HMI : Hid ((mine i).length ≤ 10000) := Lib.hid hl
  clear h0 hBl ho hg hb1 hbx hc0 hon hml hl
  go_enter Try.func89, Try.ntmps89
  go_wp2_with fail
  generalize (w.alloc (.cells #[.int .i64 pk, .bool ph, .int .i64 pv] 130)) = w1 at *
  refine HO.out.mono ?_
  clear HO
  rintro e w2 ⟨rfl, hb2⟩
  obtain ⟨c0, _, _⟩ := HC0.out w2 hb2
  have HB2 := Lib.hid hb2
  clear hb2
  go_wp2_with fail
  refine (HG.out w2 HB2.out).mono ?_
  clear HG c0
  rintro e w3 ⟨rfl, hb3⟩
  have hb13 : Below w1.heap.size w1 w3 := HB2.out.trans (hb3.mono HB2.out.size)
  have h3w := H1.out.below hb13
  have hd : Below w3.heap.size w3 w3.drew := (Below.refl _ _).drew
  have h3 := h3w.below hd
  have hu := h3.ms i hi
  obtain ⟨q1, q2, q3⟩ := chg3 hu (pk, ph, pv) hpk hpv (Nat.le_trans HMI.out (by omega)) 127
  obtain ⟨gA, cA, wA, gA2, cA2, wA2, ra1, ra2, ba1, ba2, ba3, pa⟩ := q1
  obtain ⟨gB, cB, wB, gB2, cB2, wB2, rb1, rb2, bb1, bb2, pb⟩ := q2
  obtain ⟨gC, cC, wC, gC2, cC2, wC2, rc1, rc2, bc1, bc2, pc⟩ := q3
  have hx : Ext K w K w3.drew := (Ext.of_below HB1.out).trans (Ext.of_below hb13.drew)
  have HA := Lib.hid (And.intro (h3.putB ba3 hi pa).2.1 (hx.trans (h3.putB ba3 hi pa).2.2))
  have HBe := Lib.hid (And.intro (h3.putB bb2 hi pb).2.1 (hx.trans (h3.putB bb2 hi pb).2.2))
  have HCe := Lib.hid (And.intro (h3.putB bc2 hi pc).2.1 (hx.trans (h3.putB bc2 hi pc).2.2))
  have KS : ∀ W, Below w3.heap.size w3 W → W.cell? ⟨P, 2, none⟩ = some (.slice (some ⟨B, 0, none⟩) N N) ∧ W.cell? ⟨B, i, none⟩ = some (vm i) ∧ W.cell? ⟨w.heap.size, 0, none⟩ = some (.int .i64 pk) ∧ W.cell? ⟨w.heap.size, 1, none⟩ = some (.bool ph) ∧ W.cell? ⟨w.heap.size, 2, none⟩ = some (.int .i64 pv) := fun W hb => by
    obtain ⟨c0, c1, c2⟩ := HC0.out W (hb13.trans (hb.mono hb13.size))
    exact ⟨(h3w.below hb).cellP.2.2.1, ((h3w.below hb).cellB hi).1, c0, c1, c2⟩
  have KB : ∀ W, Below w3.heap.size w3 W → W.cell? ⟨B, i, none⟩ = some (vm i) ∧ W.frozen? ⟨B, i, none⟩ = false := fun W hb => (h3w.below hb).cellB hi
  have be : Below w3.heap.size w3 (w3.alloc (.cells #[] 130)) := (Below.refl _ _).alloc (Nat.le_refl _) _
  have bp : Below w3.heap.size w3 (w3.alloc (.cells #[.int .i64 pk, .bool ph, .int .i64 pv] 130)) := (Below.refl _ _).alloc (Nat.le_refl _) _
  have KSH := Lib.hid KS
  have rA1 : AppR _ _ _ _ (w3.alloc (.cells #[] 130)).drew _ _ := ⟨ra1⟩
  have rA2 : AppR _ _ _ _ (wA.alloc (.cells #[.int .i64 pk, .bool ph, .int .i64 pv] 130)) _ _ := ⟨ra2⟩
  have rB1 : AppR _ _ _ _ ((w3.alloc (.cells #[] 130)).alloc (.cells #[.int .i64 pk, .bool ph, .int .i64 pv] 130)).drew _ _ := ⟨rb1⟩
  have rB2 : AppR _ _ _ _ _ _ _ := ⟨rb2⟩
  have rC1 : AppR _ _ _ _ ((w3.alloc (.cells #[.int .i64 pk, .bool ph, .int .i64 pv] 130)).alloc (.cells #[] 130)).drew _ _ := ⟨rc1⟩
  have rC2 : AppR _ _ _ _ _ _ _ := ⟨rc2⟩
  have g0 : Below w3.heap.size w3 w3 := Below.refl _ _
  have g1 := hd.trans ba1
  have g2 := hd.trans ba3
  have g3 := hd.trans bb1
  have g4 := hd.trans bb2
  have g5 := hd.trans bc1
  have g6 := hd.trans bc2
  have Y5 := Lib.hid (KB _ (hd.trans ba3))
  have Y6 := Lib.hid (KB _ (hd.trans bb2))
  have Y7 := Lib.hid (KB _ (hd.trans bc2))
  generalize (mine i).length = m at *
  have hi2 : (i : Int) < (N : Int) := by omega
  clear KS KB be bp ba1 ba2 ba3 bb1 bb2 bc1 bc2 ra1 ra2 rb1 rb2 rc1 rc2 pa pb pc hx hu h3 h3w hd hb3 hb13 HB2 H1 HB1 HC0 HBl
  obtain ⟨x5, z5⟩ := Y5.out
  obtain ⟨x6, z6⟩ := Y6.out
  obtain ⟨x7, z7⟩ := Y7.out
  clear Y5 Y6 Y7
  go_wp2_with fail
  have hS0 := KSH.out _ g0.drew
  refine wp_region_G (fun W => W.cell? ⟨P, 2, none⟩ = some (.slice (some ⟨B, 0, none⟩) N N) ∧ W.cell? ⟨B, i, none⟩ = some (vm i) ∧ W.cell? ⟨w.heap.size, 0, none⟩ = some (.int .i64 pk) ∧ W.cell? ⟨w.heap.size, 1, none⟩ = some (.bool ph) ∧ W.cell? ⟨w.heap.size, 2, none⟩ = some (.int .i64 pv)) 18 (by kernel_rfl) ?_
  refine GoG.take (i := 0) (v := .pointer (some ⟨P, 0, none⟩)) (by kernel_rfl) (by kernel_rfl) (by decide) (by kernel_rfl) (by kernel_rfl) (by kernel_rfl) (by decide) rfl (fun _ _ _ h => h) (Or.inl ⟨by rfl, ?_⟩) hS0 ?_
  · (intro w hSw; (try dsimp only at hSw); go_simp; try with_reducible rfl)
  try simp only [Act.put, List.getElem_toArray, List.getElem_cons_succ, List.getElem_cons_zero, List.setIfInBounds_toArray, List.set_cons_zero, List.set_cons_succ]
  refine GoG.take (i := 1) (v := .pointer (some ⟨P, 0, none⟩)) (by kernel_rfl) (by kernel_rfl) (by decide) (by kernel_rfl) (by kernel_rfl) (by kernel_rfl) (by decide) rfl (fun _ _ _ h => h) (Or.inl ⟨by rfl, ?_⟩) hS0 ?_
  · (intro w hSw; (try dsimp only at hSw); go_simp; try with_reducible rfl)
  try simp only [Act.put, List.getElem_toArray, List.getElem_cons_succ, List.getElem_cons_zero, List.setIfInBounds_toArray, List.set_cons_zero, List.set_cons_succ]
  refine GoG.take (i := 2) (v := .pointer (some ⟨P, 2, none⟩)) (by kernel_rfl) (by kernel_rfl) (by decide) (by kernel_rfl) (by kernel_rfl) (by kernel_rfl) (by decide) rfl (fun _ _ _ h => h) (Or.inl ⟨by rfl, ?_⟩) hS0 ?_
  · (intro w hSw; (try dsimp only at hSw); go_simp; try with_reducible rfl)
  try simp only [Act.put, List.getElem_toArray, List.getElem_cons_succ, List.getElem_cons_zero, List.setIfInBounds_toArray, List.set_cons_zero, List.set_cons_succ]
  refine GoG.take (i := 3) (v := .slice (some ⟨B, 0, none⟩) N N) (by kernel_rfl) (by kernel_rfl) (by decide) (by kernel_rfl) (by kernel_rfl) (by kernel_rfl) (by decide) rfl (fun _ _ _ h => h) (Or.inl ⟨by rfl, ?_⟩) hS0 ?_
  · (intro w hSw; (try dsimp only at hSw); go_simp; try with_reducible rfl)
  try simp only [Act.put, List.getElem_toArray, List.getElem_cons_succ, List.getElem_cons_zero, List.setIfInBounds_toArray, List.set_cons_zero, List.set_cons_succ]
  refine GoG.take (i := 4) (v := .int .i64 i) (by kernel_rfl) (by kernel_rfl) (by decide) (by kernel_rfl) (by kernel_rfl) (by kernel_rfl) (by decide) rfl (fun _ _ _ h => h) (Or.inl ⟨by rfl, ?_⟩) hS0 ?_
  · (intro w hSw; (try dsimp only at hSw); go_simp; try with_reducible rfl)
  try simp only [Act.put, List.getElem_toArray, List.getElem_cons_succ, List.getElem_cons_zero, List.setIfInBounds_toArray, List.set_cons_zero, List.set_cons_succ]
  refine GoG.take (i := 6) (v := .pointer (some ⟨P, 0, none⟩)) (by kernel_rfl) (by kernel_rfl) (by decide) (by kernel_rfl) (by kernel_rfl) (by kernel_rfl) (by decide) rfl (fun _ _ _ h => h) (Or.inl ⟨by rfl, ?_⟩) hS0 ?_
  · (intro w hSw; (try dsimp only at hSw); go_simp; try with_reducible rfl)
  try simp only [Act.put, List.getElem_toArray, List.getElem_cons_succ, List.getElem_cons_zero, List.setIfInBounds_toArray, List.set_cons_zero, List.set_cons_succ]
  refine GoG.take (i := 7) (v := .pointer (some ⟨P, 0, none⟩)) (by kernel_rfl) (by kernel_rfl) (by decide) (by kernel_rfl) (by kernel_rfl) (by kernel_rfl) (by decide) rfl (fun _ _ _ h => h) (Or.inl ⟨by rfl, ?_⟩) hS0 ?_
  · (intro w hSw; (try dsimp only at hSw); go_simp; try with_reducible rfl)
  try simp only [Act.put, List.getElem_toArray, List.getElem_cons_succ, List.getElem_cons_zero, List.setIfInBounds_toArray, List.set_cons_zero, List.set_cons_succ]
  refine GoG.take (i := 8) (v := .pointer (some ⟨P, 2, none⟩)) (by kernel_rfl) (by kernel_rfl) (by decide) (by kernel_rfl) (by kernel_rfl) (by kernel_rfl) (by decide) rfl (fun _ _ _ h => h) (Or.inl ⟨by rfl, ?_⟩) hS0 ?_
  · (intro w hSw; (try dsimp only at hSw); go_simp; try with_reducible rfl)
  try simp only [Act.put, List.getElem_toArray, List.getElem_cons_succ, List.getElem_cons_zero, List.setIfInBounds_toArray, List.set_cons_zero, List.set_cons_succ]
  refine GoG.take (i := 9) (v := .slice (some ⟨B, 0, none⟩) N N) (by kernel_rfl) (by kernel_rfl) (by decide) (by kernel_rfl) (by kernel_rfl) (by kernel_rfl) (by decide) rfl (fun _ _ _ h => h) (Or.inl ⟨by rfl, ?_⟩) hS0 ?_
  · (intro w hSw; (try dsimp only at hSw); go_simp; try with_reducible rfl)
  try simp only [Act.put, List.getElem_toArray, List.getElem_cons_succ, List.getElem_cons_zero, List.setIfInBounds_toArray, List.set_cons_zero, List.set_cons_succ]
  refine GoG.take (i := 10) (v := .int .i64 i) (by kernel_rfl) (by kernel_rfl) (by decide) (by kernel_rfl) (by kernel_rfl) (by kernel_rfl) (by decide) rfl (fun _ _ _ h => h) (Or.inl ⟨by rfl, ?_⟩) hS0 ?_
  · (intro w hSw; (try dsimp only at hSw); go_simp; try with_reducible rfl)
  try simp only [Act.put, List.getElem_toArray, List.getElem_cons_succ, List.getElem_cons_zero, List.setIfInBounds_toArray, List.set_cons_zero, List.set_cons_succ]
  refine GoG.take (i := 11) (v := .pointer (some ⟨B, i, none⟩)) (by kernel_rfl) (by kernel_rfl) (by decide) (by kernel_rfl) (by kernel_rfl) (by kernel_rfl) (by decide) rfl (fun _ _ _ h => h) (Or.inl ⟨by rfl, ?_⟩) hS0 ?_
  · (intro w hSw; (try dsimp only at hSw); go_simp; try with_reducible rfl)
  try simp only [Act.put, List.getElem_toArray, List.getElem_cons_succ, List.getElem_cons_zero, List.setIfInBounds_toArray, List.set_cons_zero, List.set_cons_succ]
  refine GoG.take (i := 12) (v := vm i) (by kernel_rfl) (by kernel_rfl) (by decide) (by kernel_rfl) (by kernel_rfl) (by kernel_rfl) (by decide) rfl (fun _ _ _ h => h) (Or.inl ⟨by rfl, ?_⟩) hS0 ?_
  · (intro w hSw; (try dsimp only at hSw); go_simp; try with_reducible rfl)
  try simp only [Act.put, List.getElem_toArray, List.getElem_cons_succ, List.getElem_cons_zero, List.setIfInBounds_toArray, List.set_cons_zero, List.set_cons_succ]
  refine GoG.take (i := 14) (v := .agg #[.int .i64 pk, .bool ph, .int .i64 pv]) (by kernel_rfl) (by kernel_rfl) (by decide) (by kernel_rfl) (by kernel_rfl) (by kernel_rfl) (by decide) rfl (fun _ _ _ h => h) (Or.inl ⟨by rfl, ?_⟩) hS0 ?_
  · (intro w hSw; (try dsimp only at hSw); go_simp; try with_reducible rfl)
  try simp only [Act.put, List.getElem_toArray, List.getElem_cons_succ, List.getElem_cons_zero, List.setIfInBounds_toArray, List.set_cons_zero, List.set_cons_succ]
  clear hS0
  refine GoG.step2 (i := 5) (k := 15) (by kernel_rfl) (by decide) (by decide) rfl rfl (fun Kx hK => ?_) (fun Kx hK => ?_)
  · try simp only [List.getElem_toArray, List.getElem_cons_succ, List.getElem_cons_zero]
    go_simp
    refine hK.out _ _ (KSH.out _ (bl_al _ g0.drew)) ?_
    clear hK
    try simp only [Act.put, List.getElem_toArray, List.getElem_cons_succ, List.getElem_cons_zero, List.setIfInBounds_toArray, List.set_cons_zero, List.set_cons_succ]
    refine GoG.step2 (i := 13) (k := 15) (by kernel_rfl) (by decide) (by decide) rfl rfl (fun Kx hK => ?_) (fun Kx hK => ?_)
    · refine step_append_S _ rfl _ _ _ rfl _ _ rfl rfl _ _ rA1 ?_
      refine hK.out _ _ (KSH.out _ g1) ?_
      clear hK
      try simp only [Act.put, List.getElem_toArray, List.getElem_cons_succ, List.getElem_cons_zero, List.setIfInBounds_toArray, List.set_cons_zero, List.set_cons_succ]
      refine GoG.step1 (i := 15) (by kernel_rfl) (by decide) rfl (fun Kx hK => ?_)
      try simp only [List.getElem_toArray, List.getElem_cons_succ, List.getElem_cons_zero]
      go_simp
      refine hK.out _ _ (KSH.out _ (bl_al _ g1)) ?_
      clear hK
      try simp only [Act.put, List.getElem_toArray, List.getElem_cons_succ, List.getElem_cons_zero, List.setIfInBounds_toArray, List.set_cons_zero, List.set_cons_succ]
      refine GoG.step1 (i := 16) (by kernel_rfl) (by decide) rfl (fun Kx hK => ?_)
      refine step_append_S _ rfl _ _ _ rfl _ _ rfl rfl _ _ rA2 ?_
      refine hK.out _ _ (KSH.out _ g2) ?_
      clear hK
      try simp only [Act.put, List.getElem_toArray, List.getElem_cons_succ, List.getElem_cons_zero, List.setIfInBounds_toArray, List.set_cons_zero, List.set_cons_succ]
      have hS9 := KSH.out _ g2
      refine GoG.take (i := 17) (v := .pointer (some ⟨B, i, none⟩)) (by kernel_rfl) (by kernel_rfl) (by decide) (by kernel_rfl) (by kernel_rfl) (by kernel_rfl) (by decide) rfl (fun _ _ _ h => h) (Or.inl ⟨by rfl, ?_⟩) hS9 ?_
      · (intro w hSw; (try dsimp only at hSw); go_simp; try with_reducible rfl)
      try simp only [Act.put, List.getElem_toArray, List.getElem_cons_succ, List.getElem_cons_zero, List.setIfInBounds_toArray, List.set_cons_zero, List.set_cons_succ]
      clear hS9
      refine GoG.last (by kernel_rfl) (by kernel_rfl) rfl (fun Kx hK => ?_)
      try simp only [List.getElem_toArray, List.getElem_cons_succ, List.getElem_cons_zero]
      go_simp
      refine hK.out _ _ ?_
      clear hK
      try simp only [Act.put, List.getElem_toArray, List.getElem_cons_succ, List.getElem_cons_zero, List.setIfInBounds_toArray, List.set_cons_zero, List.set_cons_succ]
      go_wp2_with fail
      go_ret2
      exact ⟨rfl, _, HA.out⟩
    · try simp only [List.getElem_toArray, List.getElem_cons_succ, List.getElem_cons_zero]
      go_simp
      refine hK.out _ _ (KSH.out _ (bl_al _ (bl_al _ g0.drew))) ?_
      clear hK
      try simp only [Act.put, List.getElem_toArray, List.getElem_cons_succ, List.getElem_cons_zero, List.setIfInBounds_toArray, List.set_cons_zero, List.set_cons_succ]
      refine GoG.step1 (i := 13) (by kernel_rfl) (by decide) rfl (fun Kx hK => ?_)
      refine step_append_S _ rfl _ _ _ rfl _ _ rfl rfl _ _ rB1 ?_
      refine hK.out _ _ (KSH.out _ g3) ?_
      clear hK
      try simp only [Act.put, List.getElem_toArray, List.getElem_cons_succ, List.getElem_cons_zero, List.setIfInBounds_toArray, List.set_cons_zero, List.set_cons_succ]
      refine GoG.step1 (i := 16) (by kernel_rfl) (by decide) rfl (fun Kx hK => ?_)
      refine step_append_S _ rfl _ _ _ rfl _ _ rfl rfl _ _ rB2 ?_
      refine hK.out _ _ (KSH.out _ g4) ?_
      clear hK
      try simp only [Act.put, List.getElem_toArray, List.getElem_cons_succ, List.getElem_cons_zero, List.setIfInBounds_toArray, List.set_cons_zero, List.set_cons_succ]
      have hS9 := KSH.out _ g4
      refine GoG.take (i := 17) (v := .pointer (some ⟨B, i, none⟩)) (by kernel_rfl) (by kernel_rfl) (by decide) (by kernel_rfl) (by kernel_rfl) (by kernel_rfl) (by decide) rfl (fun _ _ _ h => h) (Or.inl ⟨by rfl, ?_⟩) hS9 ?_
      · (intro w hSw; (try dsimp only at hSw); go_simp; try with_reducible rfl)
      try simp only [Act.put, List.getElem_toArray, List.getElem_cons_succ, List.getElem_cons_zero, List.setIfInBounds_toArray, List.set_cons_zero, List.set_cons_succ]
      clear hS9
      refine GoG.last (by kernel_rfl) (by kernel_rfl) rfl (fun Kx hK => ?_)
      try simp only [List.getElem_toArray, List.getElem_cons_succ, List.getElem_cons_zero]
      go_simp
      refine hK.out _ _ ?_
      clear hK
      try simp only [Act.put, List.getElem_toArray, List.getElem_cons_succ, List.getElem_cons_zero, List.setIfInBounds_toArray, List.set_cons_zero, List.set_cons_succ]
      go_wp2_with fail
      go_ret2
      exact ⟨rfl, _, HBe.out⟩
  · try simp only [List.getElem_toArray, List.getElem_cons_succ, List.getElem_cons_zero]
    go_simp
    refine hK.out _ _ (KSH.out _ (bl_al _ g0.drew)) ?_
    clear hK
    try simp only [Act.put, List.getElem_toArray, List.getElem_cons_succ, List.getElem_cons_zero, List.setIfInBounds_toArray, List.set_cons_zero, List.set_cons_succ]
    refine GoG.step1 (i := 5) (by kernel_rfl) (by decide) rfl (fun Kx hK => ?_)
    try simp only [List.getElem_toArray, List.getElem_cons_succ, List.getElem_cons_zero]
    go_simp
    refine hK.out _ _ (KSH.out _ (bl_al _ (bl_al _ g0.drew))) ?_
    clear hK
    try simp only [Act.put, List.getElem_toArray, List.getElem_cons_succ, List.getElem_cons_zero, List.setIfInBounds_toArray, List.set_cons_zero, List.set_cons_succ]
    refine GoG.step1 (i := 13) (by kernel_rfl) (by decide) rfl (fun Kx hK => ?_)
    refine step_append_S _ rfl _ _ _ rfl _ _ rfl rfl _ _ rC1 ?_
    refine hK.out _ _ (KSH.out _ g5) ?_
    clear hK
    try simp only [Act.put, List.getElem_toArray, List.getElem_cons_succ, List.getElem_cons_zero, List.setIfInBounds_toArray, List.set_cons_zero, List.set_cons_succ]
    refine GoG.step1 (i := 16) (by kernel_rfl) (by decide) rfl (fun Kx hK => ?_)
    refine step_append_S _ rfl _ _ _ rfl _ _ rfl rfl _ _ rC2 ?_
    refine hK.out _ _ (KSH.out _ g6) ?_
    clear hK
    try simp only [Act.put, List.getElem_toArray, List.getElem_cons_succ, List.getElem_cons_zero, List.setIfInBounds_toArray, List.set_cons_zero, List.set_cons_succ]
    have hS9 := KSH.out _ g6
    refine GoG.take (i := 17) (v := .pointer (some ⟨B, i, none⟩)) (by kernel_rfl) (by kernel_rfl) (by decide) (by kernel_rfl) (by kernel_rfl) (by kernel_rfl) (by decide) rfl (fun _ _ _ h => h) (Or.inl ⟨by rfl, ?_⟩) hS9 ?_
    · (intro w hSw; (try dsimp only at hSw); go_simp; try with_reducible rfl)
    try simp only [Act.put, List.getElem_toArray, List.getElem_cons_succ, List.getElem_cons_zero, List.setIfInBounds_toArray, List.set_cons_zero, List.set_cons_succ]
    clear hS9
    refine GoG.last (by kernel_rfl) (by kernel_rfl) rfl (fun Kx hK => ?_)
    try simp only [List.getElem_toArray, List.getElem_cons_succ, List.getElem_cons_zero]
    go_simp
    refine hK.out _ _ ?_
    clear hK
    try simp only [Act.put, List.getElem_toArray, List.getElem_cons_succ, List.getElem_cons_zero, List.setIfInBounds_toArray, List.set_cons_zero, List.set_cons_succ]
    go_wp2_with fail
    go_ret2
    exact ⟨rfl, _, HCe.out⟩
theorem refChangeNo (h : Dx w P N K L on mine saves) {s : Int} (hs : I64L s) (hon : onI N on s = false) {pk pv : Int} (ph : Bool) :
    Calls Try.prog 89 #[.pointer (some ⟨P, 0, none⟩), .int .i64 s, .agg #[.int .i64 pk, .bool ph, .int .i64 pv]] w fun e w' => e = .returned (.tuple #[.int .i64 0, .bool false]) ∧ Below w.heap.size w w' := by
  have hb1 : Below w.heap.size w (w.alloc (.cells #[.int .i64 pk, .bool ph, .int .i64 pv] 130)) := (Below.refl _ _).alloc (Nat.le_refl _) _
  have ho := refOpen (h.below hb1) hs
  rw [hon] at ho
  have HO := Lib.hid ho
  have HB1 := Lib.hid hb1
  clear h ho hb1 hon hs
  go_enter Try.func89, Try.ntmps89
  go_wp2_with fail
  refine HO.out.mono ?_
  clear HO
  rintro e w2 ⟨rfl, hb2⟩
  have HB2 := Lib.hid (HB1.out.trans (hb2.mono HB1.out.size))
  clear hb2
  go_wp2_with fail
  go_ret2
  exact ⟨rfl, HB2.out⟩
theorem refPut (h : Dx w P N K L on mine saves) {i : Nat} (hi : i < N) (hon : on i = true) (hil : I64L i) {pk pv : Int} (hpk : I64L pk) (hpv : I64L pv) (hml : ∀ j, j < N → (mine j).length ≤ 10000) :
    Calls Try.prog 62 #[.pointer (some ⟨P, 0, none⟩), .int .i64 i, .int .i64 pk, .int .i64 pv] w fun e w' => e = .returned (.tuple #[.int .i64 (seesD L (ownOf (mine i) pk) pk).1, .bool (seesD L (ownOf (mine i) pk) pk).2]) ∧ ∃ K', Dx w' P N K' L on (upN mine i (mine i ++ [(pk, true, pv)])) saves ∧ Ext K w K' w' := by
  have HC := Lib.hid (refChange h hi hon hil true hpk hpv hml)
  clear h hi hon hil hpk hpv hml
  go_enter Try.func62, Try.ntmps62
  go_wp2_with fail
  refine HC.out.mono ?_
  clear HC
  rintro e w1 ⟨rfl, h1⟩
  have H1 := Lib.hid h1
  clear h1
  go_wp2_with fail
  go_ret2
  exact ⟨rfl, H1.out⟩
theorem refDelete (h : Dx w P N K L on mine saves) {i : Nat} (hi : i < N) (hon : on i = true) (hil : I64L i) {pk : Int} (hpk : I64L pk) (hml : ∀ j, j < N → (mine j).length ≤ 10000) :
    Calls Try.prog 55 #[.pointer (some ⟨P, 0, none⟩), .int .i64 i, .int .i64 pk] w fun e w' => e = .returned (.tuple #[.int .i64 (seesD L (ownOf (mine i) pk) pk).1, .bool (seesD L (ownOf (mine i) pk) pk).2]) ∧ ∃ K', Dx w' P N K' L on (upN mine i (mine i ++ [(pk, false, 0)])) saves ∧ Ext K w K' w' := by
  have HC := Lib.hid (refChange h hi hon hil (pv := 0) false hpk ⟨by omega, by omega⟩ hml)
  clear h hi hon hil hpk hml
  go_enter Try.func55, Try.ntmps55
  go_wp2_with fail
  refine HC.out.mono ?_
  clear HC
  rintro e w1 ⟨rfl, h1⟩
  have H1 := Lib.hid h1
  clear h1
  go_wp2_with fail
  go_ret2
  exact ⟨rfl, H1.out⟩
theorem refPutNo (h : Dx w P N K L on mine saves) {s : Int} (hs : I64L s) (hon : onI N on s = false) (pk pv : Int) :
    Calls Try.prog 62 #[.pointer (some ⟨P, 0, none⟩), .int .i64 s, .int .i64 pk, .int .i64 pv] w fun e w' => e = .returned (.tuple #[.int .i64 0, .bool false]) ∧ Below w.heap.size w w' := by
  have HC := Lib.hid (refChangeNo h hs hon (pk := pk) (pv := pv) true)
  clear h hs hon
  go_enter Try.func62, Try.ntmps62
  go_wp2_with fail
  refine HC.out.mono ?_
  clear HC
  rintro e w1 ⟨rfl, h1⟩
  have H1 := Lib.hid h1
  clear h1
  go_wp2_with fail
  go_ret2
  exact ⟨rfl, H1.out⟩
theorem refDeleteNo (h : Dx w P N K L on mine saves) {s : Int} (hs : I64L s) (hon : onI N on s = false) (pk : Int) :
    Calls Try.prog 55 #[.pointer (some ⟨P, 0, none⟩), .int .i64 s, .int .i64 pk] w fun e w' => e = .returned (.tuple #[.int .i64 0, .bool false]) ∧ Below w.heap.size w w' := by
  have HC := Lib.hid (refChangeNo h hs hon (pk := pk) (pv := 0) false)
  clear h hs hon
  go_enter Try.func55, Try.ntmps55
  go_wp2_with fail
  refine HC.out.mono ?_
  clear HC
  rintro e w1 ⟨rfl, h1⟩
  have H1 := Lib.hid h1
  clear h1
  go_wp2_with fail
  go_ret2
  exact ⟨rfl, H1.out⟩
end
end Go.Proofs.Ytpgelebmhhcodaa
