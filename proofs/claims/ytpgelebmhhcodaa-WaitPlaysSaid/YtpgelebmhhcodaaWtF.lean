/- Contract of the graph: Cycle. -/
import Derived.Test.YtpgelebmhhcodaaWtE
import Derived.Deep.QuietTactic
import Derived.BigQuiet
namespace Go.Proofs.Ytpgelebmhhcodaa
open Go.RowKit
set_option linter.unusedVariables false

/-- one comes to another, over whom it waits for -/
inductive Reach (M : Int → List Int) : Int → Int → Prop
  | one {a b : Int} (h : b ∈ M a) : Reach M a b
  | more {a b c : Int} (h : Reach M a b) (k : c ∈ M b) : Reach M a c
theorem nodup_len : ∀ (l U : List Int), l.Nodup → (∀ x ∈ l, x ∈ U) → l.length ≤ U.length
  | [], U, _, _ => by simp
  | x :: l, U, hn, hs => by
    obtain ⟨h1, h2⟩ := List.nodup_cons.1 hn
    have hx := hs x (by simp)
    have := nodup_len l (U.erase x) h2 fun y hy => (List.mem_erase_of_ne (fun e => h1 (by rw [← e]; exact hy))).2 (hs y (by simp [hy]))
    rw [List.length_erase_of_mem hx] at this
    have := List.length_pos_of_mem hx
    simp
    omega
/-- whom all wait for, in a list -/
structure MU (M : Int → List Int) (U : List Int) : Prop where
  sub : ∀ k x, x ∈ M k → x ∈ U
  nd : ∀ k, (M k).Nodup
  len : U.length ≤ 1000
theorem MU.reach {M : Int → List Int} {U : List Int} (h : MU M U) {a b : Int} (hr : Reach M a b) : b ∈ U := by
  cases hr with
  | one e => exact h.sub _ _ e
  | more _ e => exact h.sub _ _ e
theorem MU.lenM {M : Int → List Int} {U : List Int} (h : MU M U) (k : Int) : (M k).length ≤ U.length := nodup_len _ _ (h.nd k) fun x hx => h.sub k x hx
/-- in the midst of Cycle: sn seen, the first k looked at; of the next one the first j -/
structure BIn (M : Int → List Int) (s : Int) (sn : List Int) (k : Nat) (l : List Int) : Prop where
  nd : sn.Nodup
  re : ∀ x ∈ sn, Reach M s x
  st : ∀ x ∈ M s, x ∈ sn
  dn : ∀ i y, i < k → sn[i]? = some y → y ≠ s ∧ ∀ x ∈ M y, x ∈ sn
  nx : ∀ x ∈ l, x ∈ sn
theorem BIn.start {M : Int → List Int} {s : Int} (h : (M s).Nodup) : BIn M s (M s) 0 [] := ⟨h, fun x hx => .one hx, fun x hx => hx, fun i y hi => by omega, fun x hx => by simp at hx⟩
theorem BIn.len {M : Int → List Int} {U : List Int} {s : Int} {sn : List Int} {k : Nat} {l : List Int} (h : BIn M s sn k l) (hU : MU M U) : sn.length ≤ U.length := nodup_len _ _ h.nd fun x hx => hU.reach (h.re x hx)
theorem BIn.old {M : Int → List Int} {s : Int} {sn : List Int} {k : Nat} {l : List Int} (h : BIn M s sn k l) {x : Int} (hx : x ∈ sn) : BIn M s sn k (l ++ [x]) := ⟨h.nd, h.re, h.st, h.dn, fun z hz => by
  rcases List.mem_append.1 hz with hz | hz
  · exact h.nx z hz
  · rw [List.mem_singleton.1 hz]; exact hx⟩
theorem BIn.add {M : Int → List Int} {s : Int} {sn : List Int} {k : Nat} {l : List Int} (h : BIn M s sn k l) (hk : k ≤ sn.length) {x y : Int} (hx : x ∉ sn) (hy : y ∈ sn) (hm : x ∈ M y) : BIn M s (sn ++ [x]) k (l ++ [x]) := by
  refine ⟨List.nodup_append.2 ⟨h.nd, by simp, fun a ha b hb e => ?_⟩, fun z hz => ?_, fun z hz => List.mem_append.2 (.inl (h.st z hz)), fun i z hi hz => ?_, fun z hz => ?_⟩
  · rw [List.mem_singleton.1 hb] at e; exact hx (e ▸ ha)
  · rcases List.mem_append.1 hz with hz | hz
    · exact h.re z hz
    · rw [List.mem_singleton.1 hz]; exact .more (h.re y hy) hm
  · rw [List.getElem?_append_left (by omega)] at hz
    obtain ⟨a1, a2⟩ := h.dn i z hi hz
    exact ⟨a1, fun q hq => List.mem_append.2 (.inl (a2 q hq))⟩
  · rcases List.mem_append.1 hz with hz | hz
    · exact List.mem_append.2 (.inl (h.nx z hz))
    · exact List.mem_append.2 (.inr hz)
theorem BIn.next {M : Int → List Int} {s : Int} {sn : List Int} {k : Nat} {y : Int} (h : BIn M s sn k (M y)) (hy : sn[k]? = some y) (hs : y ≠ s) : BIn M s sn (k + 1) [] := by
  refine ⟨h.nd, h.re, h.st, fun i z hi hz => ?_, fun x hx => by simp at hx⟩
  by_cases e : i = k
  · subst e
    rw [hy] at hz
    obtain rfl : y = z := by simpa using hz
    exact ⟨hs, h.nx⟩
  · exact h.dn i z (by omega) hz
theorem BIn.none {M : Int → List Int} {s : Int} {sn : List Int} {l : List Int} (h : BIn M s sn sn.length l) : ¬ Reach M s s := fun hr => by
  have hall : ∀ a x, Reach M a x → a = s → x ∈ sn := fun a x hx => by
    induction hx with
    | one e => intro ea; subst ea; exact h.st _ e
    | more _ e ih =>
      intro ea
      obtain ⟨i, hi⟩ := List.getElem?_of_mem (ih ea)
      exact (h.dn i _ (List.getElem?_eq_some_iff.1 hi).1 hi).2 _ e
  obtain ⟨i, hi⟩ := List.getElem?_of_mem (hall s s hr rfl)
  exact (h.dn i s (List.getElem?_eq_some_iff.1 hi).1 hi).1 rfl

/-- is it so? as Cycle answers -/
def CycB (M : Int → List Int) (s : Int) (w0 : World) (e : Ending) (w' : World) : Prop := ∃ b, e = .returned (.bool b) ∧ (b = true ↔ Reach M s s) ∧ Below w0.heap.size w0 w'

set_option maxRecDepth 20000 in
set_option maxHeartbeats 4000000 in
theorem graphCycle {w : World} {X : Nat} {mo : Option Nat} {n : Nat} {f : Int → Option Value} {M : Int → List Int} (h : Gr w X mo n f M) {U : List Int} (hU : MU M U) {s : Int} (hs : I64L s) :
    Calls Try.prog 22 #[.pointer (some ⟨X, 0, none⟩), .int .i64 s] w (CycB M s w) := by
  have HH := Lib.hid h
  have HU := Lib.hid hU
  have HS := Lib.hid hs
  obtain ⟨c0, _⟩ := h.cell
  have hlk := h.look hs
  have hlen : (M s).length ≤ 1000 := Nat.le_trans (hU.lenM s) hU.len
  have hcl := cloneInts (h.row s) (by omega)
  generalize rowAt f s = V at hlk hcl
  have HCL := Lib.hid hcl
  obtain ⟨N, hN⟩ : ∃ N, N = U.length := ⟨_, rfl⟩
  have hN1 : N ≤ 1000 := by rw [hN]; exact hU.len
  have HN := Lib.hid hN
  have HM0 := Lib.hid (hU.lenM s)
  clear h hs hlen hcl hU hN
  go_enter Try.func22, Try.ntmps22
  go_wp2_with fail
  refine HCL.out.mono ?_
  clear HCL hlk
  rintro e w2 ⟨o, c, rfl, hb2, ho2⟩
  have HB2 := Lib.hid hb2
  have HO2 := Lib.hid ho2
  obtain ⟨B, hB⟩ : ∃ B, B = w.heap.size := ⟨_, rfl⟩
  have HBB := Lib.hid hB
  rw [← hB] at HO2
  clear hb2 ho2 c0 hB
  go_wp2_with fail
  go_loopw [5, 6] (fun s5 s6 wr => ∃ (k : Nat) (sn : List Int) (o5 : Option Addr) (m5 c5 : Nat), s6 = .int .i64 k ∧ s5 = .slice o5 m5 c5 ∧ k ≤ m5 ∧ m5 ≤ N ∧ Hid (m5 = sn.length) ∧ Hid (Oi B wr (.slice o5 m5 c5) sn) ∧ Hid (BIn M s sn k []) ∧ Hid (Below w.heap.size w wr)) (fun _ s6 _ => N - (intOf s6).toNat)
  case atStart => exact ⟨0, M s, _, _, _, rfl, rfl, Nat.zero_le _, by rw [HN.out]; exact HM0.out, Lib.hid rfl, HO2, Lib.hid (BIn.start (HU.out.nd s)), HB2⟩
  case round =>
    obtain ⟨k, sn, o5, m5, c5, rfl, rfl, hk, hm5, HM5, HO5, HBI, HB5⟩ := hrel
    clear HO2 HB2 HM0
    have hc5 : m5 ≤ c5 ∧ c5 ≤ 9223372036854775807 := by
      obtain ⟨o', c', he, h1, h2, _⟩ := HO5.out.form
      simp only [Value.slice.injEq] at he
      obtain ⟨_, e1, e2⟩ := he
      unfold maxLen at h2
      omega
    obtain ⟨hc51, hc52⟩ := hc5
    by_cases hkm : (k : Int) < m5
    · have hgr := HH.out.below HB5.out
      obtain ⟨c0, _⟩ := hgr.cell
      obtain ⟨o', c', he, _, _, _, hat⟩ := HO5.out.form
      simp only [Value.slice.injEq] at he
      obtain ⟨rfl, _, rfl⟩ := he
      have hkl : k < sn.length := by rw [← HM5.out]; omega
      have hy : sn[k]? = some sn[k] := List.getElem?_eq_getElem hkl
      generalize sn[k] = y at hy
      obtain ⟨a5, ha5⟩ : ∃ a5, o5 = some a5 := by
        cases o5 with
        | some a => exact ⟨a, rfl⟩
        | none =>
          obtain ⟨o', c', he, _, _, hnil, _⟩ := HO5.out.form
          simp only [Value.slice.injEq] at he
          obtain ⟨rfl, _, _⟩ := he
          rw [(hnil rfl).2] at hkl
          simp at hkl
      subst ha5
      obtain ⟨g5, rfl, _, _, hcell⟩ := hat a5 rfl
      have q0 := hcell k hkl
      rw [List.getD_eq_getElem?_getD, hy] at q0
      simp only [Option.getD_some] at q0
      have hyw : I64L y := L_of_wf (HO5.out.1 y (List.mem_of_getElem? hy))
      have HY := Lib.hid hy
      clear hat hkl hcell
      by_cases hys : y = s
      · have HR := Lib.hid (HBI.out.re y (List.mem_of_getElem? hy))
        subst hys
        clear hy hgr
        go_wp2_with fail
        go_ret
        exact ⟨true, rfl, ⟨fun _ => HR.out, fun _ => rfl⟩, HB5.out⟩
      · have hysb : (y == s) = false := by simp [hys]
        have hlook := fun q => hgr.lookN hyw q
        have hrow := HH.out.row y
        generalize rowAt f y = V7 at hlook hrow
        have HRW := Lib.hid hrow
        have hMU := HU.out.sub y
        have HMU := Lib.hid hMU
        obtain ⟨hwf7, o7, c7, rfl, h71, h72, h73, h74⟩ := hrow
        have hcl7 := fun j hj => Ns.at_ hwf7 h74 (k := j) hj
        have HCL7 := Lib.hid hcl7
        unfold maxLen at h72
        obtain ⟨L7, hL7⟩ : ∃ L, L = (M y).length := ⟨_, rfl⟩
        rw [← hL7] at h71 hlook
        have HL7 := Lib.hid hL7
        clear hy hgr hwf7 h73 h74 hcl7 hL7 hMU hys
        go_upto_region 7 with fail
        go_cut [36, 37, 38] from 16 to 50 (fun s36 s37 s38 wx => s36 = .slice o7 L7 c7 ∧ s37 = .int .i64 L7 ∧ s38 = .int .i64 ((0 : Nat) : Int) ∧ ∃ q, wx = wr.drewN q)
        case first =>
          go_quiet (fail)
          go_wp2_with fail
          go_meet
          exact ⟨rfl, rfl, rfl, _, rfl⟩
        obtain ⟨rfl, rfl, rfl, qn, rfl⟩ := hcut
        have HBx := Lib.hid (HB5.out.trans (bdrew w.heap.size wr qn))
        have HOx := Lib.hid (HO5.out.below (bdrew wr.heap.size wr qn))
        have hBs := HBx.out.size
        rw [← HBB.out] at hBs
        have HBI0 : Hid (BIn M s sn k ((M y).take 0)) := Lib.hid (by rw [List.take_zero]; exact HBI.out)
        clear HB5 HO5 HBI c0 q0
        generalize wr.drewN qn = w8 at HBx HOx hBs ⊢
        obtain ⟨o8, ho8⟩ : ∃ o : Option Addr, o = some ⟨g5, 0, none⟩ := ⟨_, rfl⟩
        rw [← ho8] at HOx ⊢
        clear ho8
        go_wp2_with fail
        go_loopw [5, 8, 38] (fun s5 _ s38 wx => ∃ (j : Nat) (sx : List Int) (ox : Option Addr) (mx cx : Nat), s38 = .int .i64 j ∧ s5 = .slice ox mx cx ∧ j ≤ L7 ∧ k < mx ∧ mx ≤ N ∧ Hid (mx = sx.length) ∧ Hid (Oi B wx (.slice ox mx cx) sx) ∧ Hid (BIn M s sx k ((M y).take j)) ∧ Hid (Below w.heap.size w wx) ∧ Hid (sx[k]? = some y)) (fun _ _ s38 _ => L7 - (intOf s38).toNat)
        case atStart => exact ⟨0, sn, o8, m5, c5, rfl, rfl, Nat.zero_le _, by omega, hm5, HM5, HOx, HBI0, HBx, HY⟩
        case round =>
          obtain ⟨j, sx, ox, mx, cx, rfl, rfl, hj, hkx, hmx, HMX, HOX, HBX, HBW, HYX⟩ := hrel
          clear HBx HOx HBI0 HM5 HY
          by_cases hjL : (j : Int) < L7
          · obtain ⟨a7, x, rfl, hc7, hx7, hxw⟩ := HCL7.out j (by rw [← HL7.out]; omega)
            have d7 := (HBW.out.cell (Below.lt hc7)).trans hc7
            have hjl : j < (M y).length := by rw [← HL7.out]; omega
            have htk : (M y).take (j + 1) = (M y).take j ++ [x] := by
              rw [List.take_add_one, List.getElem?_eq_getElem hjl, ← getD_lt (d := 0) hjl, hx7.out]
              rfl
            have hxm : x ∈ M y := by
              rw [← hx7.out, getD_lt hjl]
              exact List.getElem_mem hjl
            have hct := containsInts HOX.out.ns x
            have hwfx := hxw
            clear hc7 hx7 hjl
            by_cases hin : x ∈ sx
            · have hbi := HBX.out.old hin
              rw [← htk] at hbi
              have HBI2 := Lib.hid hbi
              rw [show decide (x ∈ sx) = true from by simp [hin]] at hct
              have HCT := Lib.hid hct
              clear hct hbi htk hin hxm hxw hwfx
              go_wp2_with fail
              refine HCT.out.mono ?_
              clear HCT
              rintro e w9 ⟨rfl, rfl⟩
              go_wp2_with fail
              go_roundw
              case rel => exact ⟨j + 1, sx, _, mx, _, by go_num, rfl, by omega, hkx, hmx, HMX, HOX, HBI2, HBW, HYX⟩
              case measure => simp [intOf]; omega
            · have hbi := HBX.out.add (by rw [← HMX.out]; omega) hin (List.mem_of_getElem? HYX.out) hxm
              rw [← htk] at hbi
              have hlen2 := hbi.len HU.out
              rw [List.length_append, ← HMX.out, ← HN.out] at hlen2
              have hlen3 : mx + 1 ≤ N := hlen2
              have HBI2 := Lib.hid hbi
              rw [show decide (x ∈ sx) = false from by simp [hin]] at hct
              have HCT := Lib.hid hct
              have hsz := HBW.out.size
              obtain ⟨gb, cap9, w9, hrun9, ho9, hg9, _, _, hca9, hcb9⟩ := HOX.out.append1 x hwfx (by rw [HBB.out]; exact hsz) (by rw [← HMX.out]; omega) 3 34
              have hba : Below wr.heap.size wr (wr.alloc (.cells #[.int .i64 x] 3)) := (Below.refl _ _).alloc (Nat.le_refl _) _
              have hbb := HBW.out.trans (hba.mono hsz)
              have HB9 := Lib.hid ((HOX.out.below hba).grown hg9 hbb (by rw [HBB.out]; exact Nat.le_refl _) hbb.size)
              rw [← HMX.out] at hrun9 ho9
              have HO9 := Lib.hid ho9
              have HM9 : Hid (mx + 1 = (sx ++ [x]).length) := Lib.hid (by rw [List.length_append, ← HMX.out]; rfl)
              have HY9 : Hid ((sx ++ [x])[k]? = some y) := Lib.hid (by rw [List.getElem?_append_left (by rw [← HMX.out]; omega)]; exact HYX.out)
              clear hct hbi htk hin hxm hxw hwfx hlen2 hsz ho9 hg9 hba hbb hca9 hcb9
              go_wp2_with fail
              refine HCT.out.mono ?_
              clear HCT
              rintro e wy ⟨rfl, rfl⟩
              go_wp2_with (at_builtin; refine Lib.wpList_append_run _ rfl _ _ _ _ rfl _ _ rfl rfl _ _ hrun9 ?_)
              go_roundw
              case rel => exact ⟨j + 1, sx ++ [x], _, mx + 1, _, by go_num, rfl, by omega, by omega, hlen3, HM9, HO9, HBI2, HB9, HY9⟩
              case measure => simp [intOf]; omega
          · obtain rfl : j = L7 := by omega
            have hbi := HBX.out
            rw [List.take_of_length_le (by rw [← HL7.out]; omega)] at hbi
            have HBI2 := Lib.hid (hbi.next HYX.out (by simpa using hysb))
            clear hbi
            go_wp2_with fail
            go_roundw
            case rel => exact ⟨k + 1, sx, _, mx, _, by go_num, rfl, by omega, hmx, HMX, HOX, HBI2, HBW⟩
            case measure => simp [intOf]; omega
    · obtain rfl : k = m5 := by omega
      have hno : ¬ Reach M s s := by
        have := HBI.out
        rw [HM5.out] at this
        exact this.none
      have HNO := Lib.hid hno
      clear hno
      go_wp2_with fail
      go_ret
      exact ⟨false, rfl, ⟨fun e => by simp at e, fun e => absurd e HNO.out⟩, HB5.out⟩
end Go.Proofs.Ytpgelebmhhcodaa
