/- The law CellOwn walked. -/
import Derived.Test.YtebpgghhjaoonaaCellD
import Derived.Test.YtebpgghhjaoonaaCellF
import Derived.Test.YtebpgghhjaoonaaCellH
import Derived.StillTailTactics
namespace Go.Proofs.Ytebpgghhjaoonaa
open Go.RowKit
set_option linter.unusedVariables false

/-- from the k-th on, each of these is a row of bytes of its own, in a block between its bounds -/
def Rows4 (lo : Nat → Nat) (us : Nat → Value) (k : Nat) (w : World) : Prop := ∀ j, k ≤ j → j < 4 → ∃ l, Ob 5 (lo j) w (us j) l ∧ ∀ g, (us j).ownBlock = some g → g < lo (j + 1)

theorem ob_kept {e : TypeId} {base : Nat} {w w' : World} {v : Value} {l : List Int} {row : Option Nat} (h : Ob e base w v l) (hg : w.grownBy w' row) (hne : v.ownBlock = none ∨ v.ownBlock ≠ row) : Ob e base w' v l :=
  ⟨h.1, h.2.kept hg hne⟩

theorem Rows4.grown {lo : Nat → Nat} {us : Nat → Value} {k : Nat} {w w' : World} (hlo : ∀ i j, i ≤ j → lo i ≤ lo j) (h : Rows4 lo us k w) (hk : k < 4) (hg : w.grownBy w' (us k).ownBlock) : Rows4 lo us (k + 1) w' := by
  intro j h1 h2
  obtain ⟨l, hl, hb⟩ := h j (by omega) h2
  obtain ⟨l', hl', hb'⟩ := h k (Nat.le_refl _) hk
  refine ⟨l, ob_kept hl hg ?_, hb⟩
  cases hv : (us j).ownBlock with
  | none => exact .inl rfl
  | some g =>
    right
    intro e
    have h3 := hb' g e.symm
    have h4 := (hl.2.lt g hv).1
    have h5 := hlo (k + 1) j (by omega)
    omega

theorem Rows4.set {lo : Nat → Nat} {us : Nat → Value} {k : Nat} {w : World} (hlo : ∀ i j, i ≤ j → lo i ≤ lo j) (h : Rows4 lo us k w) (hk : k < 4) {g n cap : Nat} (hu : us k = .slice (some ⟨g, 0, none⟩) n cap) (i : Nat) {x : Int} (h0 : 0 ≤ x) (h1 : x ≤ 255) :
    Rows4 lo us k (w.setCell ⟨g, i, none⟩ (.int .u8 x)) := by
  intro j hj1 hj2
  obtain ⟨l', hl', hb'⟩ := h k (Nat.le_refl _) hk
  rw [hu] at hl'
  by_cases e : j = k
  · subst e
    rw [hu]
    rw [hu] at hb'
    exact ⟨_, hl'.set i h0 h1, hb'⟩
  · obtain ⟨l, hl, hb⟩ := h j hj1 hj2
    have hg := hb' g (by rw [hu]; rfl)
    obtain rfl := hl'.len
    refine ⟨l, ob_kept hl (hl'.2.stored i (.int .u8 x)).2 ?_, hb⟩
    cases hv : (us j).ownBlock with
    | none => exact .inl rfl
    | some g' =>
      right
      intro e'
      have h4 := (hl.2.lt g' hv).1
      have h5 := hlo (k + 1) j (by omega)
      simp at e'
      omega

theorem Rows4.qw {lo : Nat → Nat} {us : Nat → Value} {k : Nat} {w w' : World} (h : Rows4 lo us k w) (hq : Qw w w') : Rows4 lo us k w' := by
  intro j h1 h2
  obtain ⟨l, hl, hb⟩ := h j h1 h2
  exact ⟨l, hl.below (hq.below _), hb⟩

theorem mono_step (f : Nat → Nat) (h : ∀ i, f i ≤ f (i + 1)) : ∀ i j, i ≤ j → f i ≤ f j := by
  intro i j hij
  induction j with
  | zero => rw [show i = 0 from by omega]; exact Nat.le_refl _
  | succ j ih =>
    by_cases e : i = j + 1
    · rw [e]; exact Nat.le_refl _
    · exact Nat.le_trans (ih (by omega)) (h j)

theorem xor85 (x : Int) (h0 : 0 ≤ x) (h1 : x ≤ 255) : 0 ≤ bits .xor .u8 x 85 ∧ bits .xor .u8 x 85 ≤ 255 := by
  obtain ⟨a, rfl⟩ := Int.eq_ofNat_of_zero_le h0
  have e := u8_xor_nat a 85 (by omega) (by omega)
  have hx : a ^^^ 85 < 2 ^ 8 := Nat.xor_lt_two_pow (by omega) (by omega)
  have e2 : bits .xor .u8 (a : Int) 85 = ((a ^^^ 85 : Nat) : Int) := e
  rw [e2]; omega

theorem cellOwn_walk (v : Value) (l : List Int) (at_ n : Int) (w : World) (hv : Bs w v l) (ha : -9223372036854775808 ≤ at_) (ha' : at_ ≤ 9223372036854775807)
    (hn : 0 ≤ n) (hn' : n ≤ 18446744073709551615) :
    Calls Try.prog 8 #[v, .int .i64 at_, .int .u64 n] w fun e w' => e = .returned (.bool true) ∧ Below w.heap.size w w' := by
  have hv' := hv
  obtain ⟨hl1, o, c, rfl, hlc, hcm, hon, hcell⟩ := hv
  unfold maxLen at hcm
  clear hcell hon
  go_enter Try.func8, Try.ntmps8
  go_wp2_with fail
  refine (first1 w).mono ?_
  rintro e w1 ⟨rfl, hb1⟩
  by_cases hlen : 40 < l.length
  · go_wp2_with fail
    go_ret
    exact ⟨rfl, hb1⟩
  · have g1 : l.length ≤ 40 := by omega
    clear hlen
    have hvb : ∀ w', Below w.heap.size w w' → Bs w' (.slice o l.length c) l := fun w' h => hv'.below h
    have hl9 : l.length ≤ 500000000000 := by omega
    have hl10 : l.length ≤ 1000000000000 := by omega
    go_wp2_with fail
    refine (bytesRef _ l w1 (hvb _ hb1) hl10).mono ?_
    rintro e w2 ⟨was, rfl, hb2', hwas⟩
    have hb2 := hb1.trans (hb2'.mono hb1.size)
    go_wp2_with fail
    refine (put _ l at_ 4 n w2 (hvb _ hb2) hl10 ha ha' (by omega) (by omega) hn hn').mono ?_
    rintro e w3 ⟨u0, rfl, hb3', hu0⟩
    have hb3 := hb2.trans (hb3'.mono hb2.size)
    go_wp2_with fail
    have hjl : ([l] : List (List Int)).flatten.length ≤ 500000000000 := by simp; omega
    refine (join _ [l] _ (Rs.lit [.slice o l.length c] _ rfl _ 1 rfl rfl (by simp) ?_) hjl).mono ?_
    · intro i hi
      match i, hi with
      | 0, _ => exact hvb _ hb3
      | i + 1, h => simp at h
    rintro e w4 ⟨u1, rfl, hb4', hu1⟩
    have hb34 : Below w3.heap.size w3 w4 := ((Below.refl _ _).alloc (Nat.le_refl _) _).trans (hb4'.mono (by simp))
    have hb4 := hb3.trans (hb34.mono hb3.size)
    go_wp2_with fail
    refine (fill _ l l.length w4 (hvb _ hb4) hl9 (by omega) (by omega)).mono ?_
    rintro e w5 ⟨u2, rfl, hb5', hu2⟩
    have hb5 := hb4.trans (hb5'.mono hb4.size)
    go_wp2_with fail
    refine (fill _ l 50 w5 (hvb _ hb5) hl9 (by omega) (by omega)).mono ?_
    rintro e w6 ⟨u3, rfl, hb6', hu3⟩
    have hb6 := hb5.trans (hb6'.mono hb5.size)
    have hs3 := hb2'.size
    have hs4 := hb3'.size
    have hs5 := hb34.size
    have hs6 := hb5'.size
    have hs7 := hb6'.size
    obtain ⟨_, o0, c0, rfl, _, hc0, _, _⟩ := hu0.bs
    obtain ⟨_, o1, c1, rfl, _, hc1, _, _⟩ := hu1.bs
    obtain ⟨_, o2, c2, rfl, _, hc2, _, _⟩ := hu2.bs
    obtain ⟨_, o3, c3, rfl, _, hc3, _, _⟩ := hu3.bs
    unfold maxLen at hc0 hc1 hc2 hc3
    have hL0 : (putL l at_ 4 n).length ≤ 100 := by rw [putL_length]; omega
    have hL1 : ([l] : List (List Int)).flatten.length ≤ 100 := by simp; omega
    have hL2 : (fillL l l.length).length ≤ 100 := by have := fillL_length l l.length; omega
    have hL3 : (fillL l 50).length ≤ 100 := by have := fillL_length l 50; omega
    generalize putL l at_ 4 n = l0 at *
    generalize ([l] : List (List Int)).flatten = l1 at *
    generalize fillL l l.length = l2 at *
    generalize fillL l 50 = l3 at *
    obtain ⟨us, hus⟩ : ∃ us : Nat → Value, us = fun i => [Value.slice o0 l0.length c0, .slice o1 l1.length c1, .slice o2 l2.length c2, .slice o3 l3.length c3].getD i undef := ⟨_, rfl⟩
    obtain ⟨lo, hlod⟩ : ∃ lo : Nat → Nat, lo = fun i => [w2.heap.size, w3.heap.size, w4.heap.size, w5.heap.size].getD i w6.heap.size := ⟨_, rfl⟩
    have hlo : ∀ i j, i ≤ j → lo i ≤ lo j := by
      refine mono_step lo fun i => ?_
      subst hlod
      match i with
      | 0 | 1 | 2 | 3 => simp; try omega
      | i + 4 => simp
    have hlo4 : lo 4 = w6.heap.size := by subst hlod; rfl
    have hlo0 : lo 0 = w2.heap.size := by subst hlod; rfl
    have hform : ∀ i, i < 4 → ∃ o n c, us i = .slice o n c ∧ n ≤ 100 ∧ c ≤ 9223372036854775807 := by
      intro i hi
      subst hus
      match i, hi with
      | 0, _ => exact ⟨_, _, _, rfl, by omega, by omega⟩
      | 1, _ => exact ⟨_, _, _, rfl, by omega, by omega⟩
      | 2, _ => exact ⟨_, _, _, rfl, by omega, by omega⟩
      | 3, _ => exact ⟨_, _, _, rfl, by omega, by omega⟩
    have hr0 : Rows4 lo us 0 w6 := by
      intro j _ hj
      subst hus hlod
      match j, hj with
      | 0, _ => exact ⟨l0, ((hu0.below hb34).below hb5').below hb6', fun g hg => (hu0.2.lt g hg).2⟩
      | 1, _ => exact ⟨l1, ((hu1.mono (base' := w3.heap.size) (by simp)).below hb5').below hb6', fun g hg => (hu1.2.lt g hg).2⟩
      | 2, _ => exact ⟨l2, hu2.below hb6', fun g hg => (hu2.2.lt g hg).2⟩
      | 3, _ => exact ⟨l3, hu3, fun g hg => (hu3.2.lt g hg).2⟩
    go_wp2_with fail
    generalize hA : w6.heap.size = A at *
    have hcells : ∀ i, i < 4 → (w6.alloc (.cells #[Value.slice o0 l0.length c0, .slice o1 l1.length c1, .slice o2 l2.length c2, .slice o3 l3.length c3] 22)).cell? ⟨A, i, none⟩ = some (us i) := by
      intro i hi
      subst hus hA
      rw [cell_of_row _ w6.heap.size i _ _ (0, 0) (heap_alloc_new w6 _)]
      match i, hi with
      | 0, _ | 1, _ | 2, _ | 3, _ => rfl
    have hr1 : Rows4 lo us 0 (w6.alloc (.cells #[Value.slice o0 l0.length c0, .slice o1 l1.length c1, .slice o2 l2.length c2, .slice o3 l3.length c3] 22)) := by
      intro j h1 h2
      obtain ⟨lj, hj, hbj⟩ := hr0 j h1 h2
      exact ⟨lj, hj.below ((Below.refl _ _).alloc (Nat.le_refl _) _), hbj⟩
    have hb7 : Below w.heap.size w (w6.alloc (.cells #[Value.slice o0 l0.length c0, .slice o1 l1.length c1, .slice o2 l2.length c2, .slice o3 l3.length c3] 22)) := hb6.alloc hb6.size _
    have hwas7 : Below w2.heap.size w2 (w6.alloc (.cells #[Value.slice o0 l0.length c0, .slice o1 l1.length c1, .slice o2 l2.length c2, .slice o3 l3.length c3] 22)) :=
      ((((hb3'.trans (hb34.mono (by omega))).trans (hb5'.mono (by omega))).trans (hb6'.mono (by omega)))).alloc (by omega) _
    generalize w6.alloc (.cells #[Value.slice o0 l0.length c0, .slice o1 l1.length c1, .slice o2 l2.length c2, .slice o3 l3.length c3] 22) = W0 at *
    clear hus hr0 hlod
    go_loopw [10] (fun i wr => ∃ k : Nat, i = .int .i64 k ∧ k ≤ 4 ∧ Rows4 lo us k wr ∧ Below w2.heap.size W0 wr ∧ W0.heap.size ≤ wr.heap.size ∧ Hid (∀ i, i < 4 → wr.cell? ⟨A, i, none⟩ = some (us i))) (fun i _ => (4 - intOf i).toNat)
    case atStart => exact ⟨0, rfl, by omega, hr1, Below.refl _ _, Nat.le_refl _, hcells⟩
    case round =>
      obtain ⟨k, rfl, hk, hrw, hbr, hsz, hcl⟩ := hrel
      by_cases hlt : k < 4
      · obtain ⟨ok, nk, ck, huk, hnk, hck⟩ := hform k hlt
        have HUK := Lib.hid huk
        clear huk
        obtain ⟨wo, rfl⟩ : ∃ wo : World, wo = wr := ⟨_, rfl⟩
        have hd4 : decide ((k : Int) < 4) = true := by simp; omega
        go_wp2_with fail
        clear hd4
        have hlt4 : (k : Int) < 4 := by omega
        go_loopw [11] (fun i wq => ∃ j : Nat, i = .int .i64 j ∧ j ≤ nk ∧ Rows4 lo us k wq ∧ Below w2.heap.size W0 wq ∧ W0.heap.size ≤ wq.heap.size ∧ Hid (∀ i, i < 4 → wq.cell? ⟨A, i, none⟩ = some (us i))) (fun i _ => nk - (intOf i).toNat)
        case atStart => exact ⟨0, rfl, by omega, hrw, hbr, hsz, hcl⟩
        case round =>
          clear hrw hbr hsz hcl
          obtain ⟨j, rfl, hj, hrw, hbr, hsz, hcl⟩ := hrel
          have hck1 := hcl.out k hlt
          rw [HUK.out] at hck1
          by_cases hjn : j < nk
          · obtain ⟨lk, hob, hblk⟩ := hrw k (Nat.le_refl _) hlt
            rw [HUK.out] at hob
            obtain rfl := hob.len
            obtain ⟨g, cap, he, hg1, hg2, hg3, hg4⟩ := hob.row (ne_nil_of_lt hjn)
            simp only [Value.slice.injEq, true_and] at he
            obtain ⟨rfl, rfl⟩ := he
            have hxb := hob.1.get j
            have hc1 := hob.cell hjn
            have hf := hob.frozen j
            generalize lk.getD j 0 = x at hc1 hxb
            have hx2 := xor85 x hxb.1 hxb.2
            have hgA : g < A := by
              have h1 := hblk g (by rw [HUK.out]; rfl)
              have h2 := hlo (k + 1) 4 (by omega)
              omega
            have hg0 : w2.heap.size ≤ g := by have := hlo 0 k (by omega); omega
            have HB := Lib.hid hblk
            clear hblk
            go_wp2_with fail
            go_still_tail 14, (by kernel_rfl)
            change wpList _ _ _ _ _ wr.drew
            have hqd : Qw wr wr.drew := ⟨1, rfl⟩
            have hsd : wr.drew.heap.size = wr.heap.size := rfl
            generalize wr.drew = wd at hqd hsd
            have hset := (hrw.qw hqd).set hlo hlt HUK.out j (x := bits .xor .u8 x 85) hx2.1 hx2.2
            have hbr2 : Below w2.heap.size W0 (wd.setCell ⟨g, j, none⟩ (.int .u8 (bits .xor .u8 x 85))) := (hbr.trans (hqd.below _)).setCell hg0 _
            have hcl2 : Hid (∀ i, i < 4 → (wd.setCell ⟨g, j, none⟩ (.int .u8 (bits .xor .u8 x 85))).cell? ⟨A, i, none⟩ = some (us i)) := by
              intro i hi
              rw [← hcl.out i hi, ← hqd.cell]
              exact World.cell?_of_block (Below.heap_setCell _ _ _ _ (by simp; omega))
            rw [← hqd.cell] at hc1
            rw [← hqd.frozen] at hf
            clear hck1
            go_wp2_with fail
            go_roundw
            case rel => exact ⟨j + 1, by go_num, by omega, hset, hbr2, by simp [World.setCell]; omega, hcl2⟩
            case measure => simp [intOf]; omega
          · obtain ⟨lk, hob, hblk⟩ := hrw k (Nat.le_refl _) hlt
            have hAlt : A < wr.heap.size := Below.lt hck1
            have hob1 := hob.below (w' := wr.alloc (.cells #[.int .u8 1, .int .u8 2, .int .u8 3] 5)) ((Below.refl _ _).alloc (Nat.le_refl _) _)
            have hrw1 : Rows4 lo us k (wr.alloc (.cells #[.int .u8 1, .int .u8 2, .int .u8 3] 5)) := by
              intro i h1 h2
              obtain ⟨li, hli, hbi⟩ := hrw i h1 h2
              exact ⟨li, hli.below ((Below.refl _ _).alloc (Nat.le_refl _) _), hbi⟩
            have hlit : Ob 5 0 (wr.alloc (.cells #[.int .u8 1, .int .u8 2, .int .u8 3] 5)) (.slice (some ⟨wr.heap.size, 0, none⟩) 3 3) [1, 2, 3] :=
              Ob.lit [1, 2, 3] _ rfl 3 rfl (by intro x hx; simp at hx; omega) (Nat.zero_le _) (by simp)
            have hlok : lo k ≤ wr.heap.size := by have := hlo k 4 (by omega); omega
            have hlen : lk.length ≤ 900000000000 := by
              have h := hob
              rw [HUK.out] at h
              have := h.len
              omega
            obtain ⟨v2, wz, hr, _, hg, _⟩ := byteT.append 22 _ (lo k) _ lk hob1 _ _ hlit.bs (by simp; omega) (by simp; omega)
            have hrw2 := hrw1.grown hlo hlt hg
            have hbr1 : Below w2.heap.size W0 (wr.alloc (.cells #[.int .u8 1, .int .u8 2, .int .u8 3] 5)) := hbr.alloc (by omega) _
            have hbr2 := hob1.grown hg hbr1 (by have := hlo 0 k (by omega); omega) (by simp; omega)
            have hsz2 := hg.size
            simp at hsz2
            have hcl2 : Hid (∀ i, i < 4 → wz.cell? ⟨A, i, none⟩ = some (us i)) := by
              intro i hi
              rw [← hcl.out i hi]
              refine World.cell?_of_block ((hg.block A (by simp; omega) ?_).trans (Below.heap_alloc _ _ _ hAlt))
              intro e
              have h1 := hblk A e.symm
              have h2 := hlo (k + 1) 4 (by omega)
              omega
            rw [HUK.out] at hr
            clear hg hblk hcl hrw hrw1
            go_wp2_with (at_builtin; refine Lib.wpList_append_run _ rfl _ _ _ _ rfl _ _ rfl rfl _ _ hr ?_)
            go_roundw
            case rel => exact ⟨k + 1, by go_num, by omega, hrw2, hbr2, by omega, hcl2⟩
            case measure => simp [intOf]; omega
      · have hb8 : Below w.heap.size w wr := hb7.trans (hbr.mono hb2.size)
        have hw8 : Below w2.heap.size w2 wr := hwas7.trans hbr
        have hwas8 := hwas.below hw8
        have es : ∀ l : List Int, sameB l l = true := fun l => sameB_iff.2 rfl
        clear hrw hcl
        go_wp2_with fail
        refine (same_calls _ _ l l wr (hvb _ hb8) hwas8.bs).mono ?_
        rintro e w9 ⟨rfl, hq9⟩
        rw [es]
        have hb9 := hb8.trans (hq9.below _)
        go_wp2_with fail
        refine (join _ [l] _ (Rs.lit [.slice o l.length c] _ rfl _ 1 rfl rfl (by simp) ?_) (by simp; omega)).mono ?_
        · intro i hi
          match i, hi with
          | 0, _ => exact hvb _ hb9
          | i + 1, h => simp at h
        rintro e w10 ⟨z, rfl, hb10', hz⟩
        have hb910 : Below w9.heap.size w9 w10 := ((Below.refl _ _).alloc (Nat.le_refl _) _).trans (hb10'.mono (by simp))
        rw [show ([l] : List (List Int)).flatten = l from by simp] at hz
        go_wp2_with fail
        refine (same_calls _ _ l l w10 hz.bs ((hwas8.below (hq9.below _)).below hb910).bs).mono ?_
        rintro e w11 ⟨rfl, hq11⟩
        rw [es]
        go_wp2_with fail
        go_ret
        exact ⟨rfl, (hb9.trans (hb910.mono hb9.size)).trans (hq11.below _)⟩
end Go.Proofs.Ytebpgghhjaoonaa
