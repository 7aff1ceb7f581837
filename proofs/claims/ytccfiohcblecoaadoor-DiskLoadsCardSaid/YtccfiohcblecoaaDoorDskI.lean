/- Contract of the disk's Image. -/
import Derived.Test.YtccfiohcblecoaaDoorDskN
import Derived.Lib.AppendZerosOnto
namespace Go.Proofs.YtccfiohcblecoaaDoor
open Go.RowKit
set_option linter.unusedVariables false

/-- a list of lists of bytes, all its own -/
def ImgAt (base : Nat) (w : World) (v : Value) (L : List (List Int)) : Prop :=
  ∃ xs : List Value, w.ownsRow base 46 1 v L.length xs ∧ ∀ i, i < L.length → Ob 5 base w (xs.getD i undef) (L.getD i []) ∧ ∀ b, (xs.getD i undef).ownBlock = some b → v.ownBlock ≠ some b
theorem ImgAt.nil (base : Nat) (w : World) : ImgAt base w (.slice none 0 0) [] := ⟨[], World.ownsRow_nil _ _ _ _, fun i hi => absurd hi (by simp)⟩
theorem Ob.lt {e : TypeId} {base : Nat} {w : World} {v : Value} {l : List Int} (h : Ob e base w v l) {b : Nat} (hb : v.ownBlock = some b) : base ≤ b ∧ b < w.heap.size := h.2.lt b hb
theorem Ob.same {e : TypeId} {base : Nat} {w w' : World} {v : Value} {l : List Int} (h : Ob e base w v l) (hb : ∀ b, v.ownBlock = some b → w'.heap[b]? = w.heap[b]?) : Ob e base w' v l := ⟨h.1, ownsRow_same h.2 hb⟩
theorem ImgAt.below {base : Nat} {w w' : World} {v : Value} {L : List (List Int)} (h : ImgAt base w v L) (hb : Below w.heap.size w w') : ImgAt base w' v L := by
  obtain ⟨xs, h1, h2⟩ := h
  exact ⟨xs, ownsRow_same h1 fun b e => hb.block b (h1.lt b e).2, fun i hi => ⟨(h2 i hi).1.below hb, (h2 i hi).2⟩⟩
theorem ImgAt.form {base : Nat} {w : World} {v : Value} {L : List (List Int)} (h : ImgAt base w v L) : ∃ o c, v = .slice o L.length c ∧ L.length ≤ c ∧ c ≤ maxLen := by
  obtain ⟨xs, h1, _⟩ := h
  rcases h1.2 with ⟨hv, hn⟩ | ⟨gb, cap, cur, hv, _, _, hc, hm, _⟩
  · exact ⟨none, 0, by rw [hv, hn], by omega, by simp [maxLen]⟩
  · exact ⟨some ⟨gb, 0, none⟩, cap, hv, hc, hm⟩

/-- one list of bytes more -/
theorem ImgAt.step {base : Nat} {w W : World} {v : Value} {L : List (List Int)} (h : ImgAt base w v L) (hb : Below w.heap.size w W) (hbase : base ≤ w.heap.size) (x : Value) (l : List Int) (hx : Ob 5 w.heap.size W x l) (hL : L.length ≤ 1000000) (o : Option Addr) (n c : Nat) (hxv : x = .slice o n c) :
    ∃ gb cap w2, (Builtin.append_ #[45, 45] 45 #[v, .slice (some ⟨W.heap.size, 0, none⟩) 1 1]).run Tryd.prog (W.alloc (.cells #[x] 46)) = .ok (.slice (some ⟨gb, 0, none⟩) (L.length + 1) cap) w2 ∧
      ImgAt base w2 (.slice (some ⟨gb, 0, none⟩) (L.length + 1) cap) (L ++ [l]) ∧ Below base w w2 := by
  obtain ⟨i0, hi0, hz0, hz1, hz2⟩ := info_parts secInfo
  obtain ⟨xs, hown, hel⟩ := h
  have hb1 : Below w.heap.size w (W.alloc (.cells #[x] 46)) := hb.alloc hb.size _
  have hsz1 : (W.alloc (.cells #[x] 46)).heap.size = W.heap.size + 1 := allocSize _ _
  have hW := hb.size
  have hvlt := fun b e => (hown.lt b e).2
  have hown1 : (W.alloc (.cells #[x] 46)).ownsRow base 46 1 v L.length xs := ownsRow_same hown fun b e => hb1.block b (hvlt b e)
  have hx1 : Ob 5 w.heap.size (W.alloc (.cells #[x] 46)) x l := hx.below ((Below.refl _ _).alloc (Nat.le_refl _) _)
  obtain ⟨gb, cap, w2, hrun, hown2, hgrow, hat, hlt⟩ := run_append_lies (P := Tryd.prog) (W.alloc (.cells #[x] 46)) 45 45 base 46 i0 _ 1 24 Tryd.underlying45 hi0 hz0 hz1 hz2 rfl (by omega)
    v L.length xs hown1 ⟨W.heap.size, 0, none⟩ 1 1 [x] rfl (World.news_of_block (cs := #[x]) (t := 46) (fr := (0, 0)) (heap_alloc_new W _)) (by rw [hxv]; simp [Value.oneCell']) (by omega) (by simp [maxLen]; omega) (by omega) (by omega) _ rfl
  have hgb : v.ownBlock = some gb ∨ (W.alloc (.cells #[x] 46)).heap.size ≤ gb := hat.imp id fun e => Nat.le_of_eq e.symm
  have hkeep : ∀ c, c < W.heap.size + 1 → v.ownBlock ≠ some c → w2.heap[c]? = (W.alloc (.cells #[x] 46)).heap[c]? := fun c hc hne => hgrow.block c (by omega) fun e => hne e.symm
  refine ⟨gb, cap, w2, hrun, ⟨xs ++ [x], ?_, fun i hi => ?_⟩, (hb1.mono hbase).grown hgrow (by omega) fun k e => (hown.lt k e).1⟩
  · have e : (L ++ [l]).length = L.length + 1 := by simp
    rw [e]; exact hown2
  · have hi' : i < L.length + 1 := by simpa using hi
    have hxl : xs.length = L.length := by have := hown.1; omega
    by_cases hi2 : i < L.length
    · obtain ⟨ho, hs⟩ := hel i hi2
      rw [List.getD_eq_getElem?_getD, List.getElem?_append_left (by omega), ← List.getD_eq_getElem?_getD]
      rw [List.getD_eq_getElem?_getD (l := L ++ [l]), List.getElem?_append_left hi2, ← List.getD_eq_getElem?_getD]
      refine ⟨ho.same fun b e => ?_, fun b e e2 => ?_⟩
      · rw [hkeep b (by have := (ho.lt e).2; omega) (hs b e)]
        exact hb1.block b (ho.lt e).2
      · have e' : gb = b := by simpa [Value.ownBlock] using e2
        subst e'
        rcases hgb with e1 | e1
        · exact hs gb e e1
        · have := (ho.lt e).2; omega
    · obtain rfl : i = L.length := by omega
      have e1 : (xs ++ [x]).getD L.length undef = x := by rw [← hxl]; simp
      have e2 : (L ++ [l]).getD L.length [] = l := by simp
      rw [e1, e2]
      have hr : ∀ b, x.ownBlock = some b → w.heap.size ≤ b ∧ b < W.heap.size := fun b e => hx.lt e
      refine ⟨((hx1.same fun b e => ?_).mono hbase), fun b e e3 => ?_⟩
      · exact hkeep b (by have := hr b e; omega) fun e3 => by have := hvlt b e3; have := hr b e; omega
      · have e' : gb = b := by simpa [Value.ownBlock] using e3
        subst e'
        rcases hgb with e4 | e4
        · have := hvlt gb e4; have := hr gb e; omega
        · have := hr gb e; omega

set_option maxRecDepth 20000 in
set_option maxHeartbeats 2000000 in
theorem dskImage {w : World} {H : Nat} {d : DiskD} {g : DG} (h : Dk w H d g) :
    Calls Tryd.prog 32 #[.pointer (some ⟨H, 0, none⟩)] w fun e w' => (∃ v, e = .returned v ∧ ImgAt w.heap.size w' v (imageD d)) ∧ Below w.heap.size w w' := by
  obtain ⟨c0, c1, c2, f0, f1, f2⟩ := h.headCells
  have hn := h.n2
  have hc := h.capn
  have hcm := h.capm
  unfold maxLen at hcm
  have HK := Lib.hid h
  have hlen : (imageD d).length = d.l.length := by simp [imageD]
  have HLEN := Lib.hid hlen
  have HTK : Hid (∀ k, k < d.l.length → (imageD d).take (k + 1) = (imageD d).take k ++ [(d.sec k).fast]) := Lib.hid (fun k hk => by
    rw [List.take_succ_eq_append_getElem (by rw [hlen]; exact hk)]
    congr 2
    simp [imageD, DiskD.sec, List.getD_eq_getElem?_getD, hk])
  clear h hlen
  obtain ⟨n, hnn⟩ : ∃ n, n = d.l.length := ⟨_, rfl⟩
  rw [← hnn] at c0 hn hc
  have HNN := Lib.hid hnn
  clear hnn
  go_enter Tryd.func32, Tryd.ntmps32
  go_wp2_with fail
  clear c0 c1 c2 f0 f1 f2
  go_loopw [3, 11] (fun v i wr => ∃ k : Nat, i = .int .i64 k ∧ (k : Int) ≤ n ∧ Hid (Below w.heap.size w wr) ∧ Hid (ImgAt w.heap.size wr v ((imageD d).take k))) (fun _ i _ => n - (intOf i).toNat)
  case atStart => exact ⟨0, rfl, by omega, Lib.hid (Below.refl _ _), Lib.hid (ImgAt.nil _ _)⟩
  case round =>
    obtain ⟨k, rfl, hk, HBR, HIR⟩ := hrel
    by_cases hk2 : (k : Int) < n
    · have hkn : k < d.l.length := by have := HNN.out; omega
      have hl : ((imageD d).take k).length = k := by rw [List.length_take, HLEN.out]; omega
      obtain ⟨o3, c3, hv3, hl3, hm3⟩ := HIR.out.form
      rw [hl] at hv3 hl3
      subst hv3
      unfold maxLen at hm3
      have hd := HK.out.below HBR.out
      obtain ⟨s0, s1, sf⟩ := hd.secCells hkn
      have hx := hd.sec k hkn
      obtain ⟨ov, cv, hV, _, _⟩ := hd.sec_slice hkn
      have hbu := hx.fast.1
      obtain ⟨_, ou, cu, hU, _, _, _, _⟩ := hx.fast.1
      rw [hx.flen] at hU
      have hfl := hx.flen
      rw [hU] at s0 hbu
      rw [hV] at s1
      generalize (d.sec k).loose.length = nv at s1
      have hal : Below wr.heap.size wr (wr.alloc (.cells #[.slice ou 256 cu, .slice ov nv cv] 100)) := (Below.refl _ _).alloc (Nat.le_refl _) _
      have hcl := clone (.slice ou 256 cu) _ (wr.alloc (.cells #[.slice ou 256 cu, .slice ov nv cv] 100)) (hbu.below hal) (by rw [hfl]; omega)
      have hcl2 : Calls Tryd.prog 62 #[.slice ou 256 cu] (wr.alloc (.cells #[.slice ou 256 cu, .slice ov nv cv] 100)) fun e w1 => ∃ ox nx cx gb cap w2, e = .returned (.slice ox nx cx) ∧
          (Builtin.append_ #[45, 45] 45 #[.slice o3 k c3, .slice (some ⟨w1.heap.size, 0, none⟩) 1 1]).run Tryd.prog (w1.alloc (.cells #[.slice ox nx cx] 46)) = .ok (.slice (some ⟨gb, 0, none⟩) (k + 1) cap) w2 ∧
          ImgAt w.heap.size w2 (.slice (some ⟨gb, 0, none⟩) (k + 1) cap) ((imageD d).take (k + 1)) ∧ Below w.heap.size w w2 := by
        refine hcl.mono ?_
        rintro e w1 ⟨x, rfl, hb, hob⟩
        have hb' := hal.trans (hb.mono hal.size)
        obtain ⟨_, ox, cx, rfl, _, _, _, _⟩ := hob.bs
        obtain ⟨gb, cap, w2, h1, h2, h3⟩ := HIR.out.step hb' HBR.out.size _ _ (hob.mono hal.size) (by rw [hl]; omega) _ _ _ rfl
        rw [hl] at h1 h2
        rw [← HTK.out k hkn] at h2
        exact ⟨ox, _, cx, gb, cap, w2, rfl, h1, h2, HBR.out.trans h3⟩
      have HCL := Lib.hid hcl2
      clear hd hx hal hcl hcl2 HBR HIR hkn sf hl hU hV hbu hfl
      go_wp2_with fail
      refine HCL.out.mono ?_
      clear HCL
      rintro e w1 ⟨ox, nx, cx, gb, cap, w2, rfl, hrun, him, hb2⟩
      have HIM := Lib.hid him
      have HB2 := Lib.hid hb2
      clear him hb2
      go_wp2_with (at_builtin; refine Lib.wpList_append_run _ rfl _ _ _ _ rfl _ _ rfl rfl _ _ hrun ?_)
      go_roundw
      case rel => exact ⟨k + 1, by go_num, by omega, HB2, HIM⟩
      case measure => simp [intOf]; omega
    · obtain rfl : k = n := by omega
      have hfull : (imageD d).take k = imageD d := by rw [List.take_of_length_le (by rw [HLEN.out, HNN.out]; exact Nat.le_refl _)]
      rw [hfull] at HIR
      clear hfull
      go_wp2_with fail
      go_ret
      first | exact ⟨⟨_, rfl, HIR.out⟩, HBR.out⟩ | exact ⟨HIR.out, HBR.out⟩
end Go.Proofs.YtccfiohcblecoaaDoor
