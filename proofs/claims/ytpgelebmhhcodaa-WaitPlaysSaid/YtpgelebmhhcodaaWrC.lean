/- Contract of the document's graph: Cycle. -/
import Derived.Test.YtpgelebmhhcodaaWrB
namespace Go.Proofs.Ytpgelebmhhcodaa
open Go.RowKit
set_option linter.unusedVariables false

theorem rise_same {l : List Int} (h : l.Pairwise (· < ·)) {x : Int} (hx : x ∈ l) : rise l x = l := rise_ext _ _ (rise_rise l x h) h fun y => by
  rw [rise_mem]
  constructor
  · rintro (h1 | rfl)
    · exact h1
    · exact hx
  · exact .inl
theorem rise_new : ∀ {l : List Int} {x : Int}, x ∉ l → (rise l x).length = l.length + 1
  | [], x, _ => rfl
  | y :: l, x, h => by
    rw [rise]
    split
    · rw [List.length_cons, rise_new (fun e => h (by simp [e]))]; rfl
    · split
      · rename_i e; exact absurd (by simp [e]) h
      · rfl
/-- what is seen, in order -/
structure SI (M : Int → List Int) (s : Int) (sn : List Int) : Prop where
  up : sn.Pairwise (· < ·)
  re : ∀ x ∈ sn, Reach M s x
  st : ∀ x ∈ M s, x ∈ sn
theorem SI.rise {M : Int → List Int} {s : Int} {sn : List Int} (h : SI M s sn) {x : Int} (hx : Reach M s x) : SI M s (rise sn x) :=
  ⟨rise_rise _ _ h.up, fun y hy => by
    rcases (rise_mem _ _ _).1 hy with hy | rfl
    · exact h.re y hy
    · exact hx, fun y hy => (rise_mem _ _ _).2 (.inl (h.st y hy))⟩
theorem SI.len {M : Int → List Int} {U : List Int} {s : Int} {sn : List Int} (h : SI M s sn) (hU : MU M U) : sn.length ≤ U.length := nodup_len _ _ (rise_nodup h.up) fun x hx => hU.reach (h.re x hx)
def ClosedL (M : Int → List Int) (sn : List Int) : Prop := ∀ y ∈ sn, ∀ x ∈ M y, x ∈ sn
theorem SI.all {M : Int → List Int} {s : Int} {sn : List Int} (h : SI M s sn) (hc : ClosedL M sn) {x : Int} (hx : Reach M s x) : x ∈ sn := by
  have key : ∀ a y, Reach M a y → a = s → y ∈ sn := fun a y hr => by
    induction hr with
    | one e => intro ea; subst ea; exact h.st _ e
    | more _ e ih => intro ea; exact hc _ (ih ea) _ e
  exact key s x hx rfl
/-- a pass: what was seen ahead of it, the first i of it done; of the next one's l -/
structure Pass (M : Int → List Int) (s : Int) (sn0 sn : List Int) (b : Bool) (i : Nat) (l : List Int) : Prop where
  si : SI M s sn
  le : sn0.length ≤ sn.length
  gr : b = true → sn0.length < sn.length
  eq : b = false → sn = sn0
  dn : b = false → ∀ j y, j < i → sn0[j]? = some y → ∀ x ∈ M y, x ∈ sn0
  nx : b = false → ∀ x ∈ l, x ∈ sn0
theorem Pass.start {M : Int → List Int} {s : Int} {sn : List Int} (h : SI M s sn) : Pass M s sn sn false 0 [] := ⟨h, Nat.le_refl _, fun e => by simp at e, fun _ => rfl, fun _ j y hj => by omega, fun _ x hx => by simp at hx⟩
theorem Pass.step {M : Int → List Int} {s : Int} {sn0 sn : List Int} {b : Bool} {i : Nat} {l : List Int} (h : Pass M s sn0 sn b i l) {y x : Int} (hy : Reach M s y) (hx : x ∈ M y) :
    Pass M s sn0 (rise sn x) (b || decide (sn.length < (rise sn x).length)) i (l ++ [x]) := by
  by_cases hm : x ∈ sn
  · rw [rise_same h.si.up hm]
    have : decide (sn.length < sn.length) = false := by simp
    rw [this, Bool.or_false]
    refine ⟨h.si, h.le, h.gr, h.eq, h.dn, fun e z hz => ?_⟩
    rcases List.mem_append.1 hz with hz | hz
    · exact h.nx e z hz
    · rw [List.mem_singleton.1 hz, ← h.eq e]; exact hm
  · have hl := rise_new hm
    have : decide (sn.length < (Go.Proofs.Ytpgelebmhhcodaa.rise sn x).length) = true := by rw [hl]; simp
    rw [this, Bool.or_true]
    exact ⟨h.si.rise (.more hy hx), by have := h.le; omega, fun _ => by have := h.le; omega, fun e => by simp at e, fun e => by simp at e, fun e => by simp at e⟩
theorem Pass.next {M : Int → List Int} {s : Int} {sn0 sn : List Int} {b : Bool} {i : Nat} {y : Int} (h : Pass M s sn0 sn b i (M y)) (hy : b = false → sn0[i]? = some y) : Pass M s sn0 sn b (i + 1) [] :=
  ⟨h.si, h.le, h.gr, h.eq, fun e j z hj hz => by
    by_cases ej : j = i
    · subst ej
      rw [hy e] at hz
      obtain rfl : y = z := by simpa using hz
      exact h.nx e
    · exact h.dn e j z (by omega) hz, fun _ x hx => by simp at hx⟩
theorem Pass.done {M : Int → List Int} {s : Int} {sn0 sn : List Int} {b : Bool} {l : List Int} (h : Pass M s sn0 sn b sn.length l) (e : b = false) : ClosedL M sn := fun y hy x hx => by
  have he := h.eq e
  rw [he] at hy ⊢
  obtain ⟨j, hj⟩ := List.getElem?_of_mem hy
  exact h.dn e j y (by rw [he]; exact (List.getElem?_eq_some_iff.1 hj).1) hj x hx

set_option maxRecDepth 20000 in
set_option maxHeartbeats 8000000 in
theorem wrCycle {w : World} {X : Nat} {v : Value} {T : List (Int × Int)} (h : Wr w X v T) (hl : T.length ≤ 900) {U : List Int} (hU : MU (ofM T) U) {s : Int} (hs : I64L s) :
    Calls Try.prog 45 #[.pointer (some ⟨X, 0, none⟩), .int .i64 s] w (CycB (ofM T) s w) := by
  have HOF := Lib.hid (fun W (hw : Below w.heap.size w W) y => wrOf (h.below hw) hl y)
  obtain ⟨M, hM⟩ : ∃ M, M = ofM T := ⟨_, rfl⟩
  rw [← hM] at hU HOF ⊢
  have hr := fun k => ofM_rise T k
  rw [← hM] at hr
  have HR := Lib.hid hr
  have HU := Lib.hid hU
  obtain ⟨N, hN⟩ : ∃ N, N = U.length := ⟨_, rfl⟩
  have hN1 : N ≤ 1000 := by rw [hN]; exact hU.len
  have HN := Lib.hid hN
  have HSI0 : Hid (SI M s (M s)) := Lib.hid ⟨hr s, fun x hx => .one hx, fun x hx => hx⟩
  clear h hs hM hr hU hN hl
  go_enter Try.func45, Try.ntmps45
  go_wp2_with fail
  refine (HOF.out _ (Below.refl _ _) s).mono ?_
  rintro e w1 ⟨⟨o, m, c, rfl, hn1⟩, hb1⟩
  have HB1 := Lib.hid hb1
  have HN1 := Lib.hid hn1
  have hm : m = (M s).length := Ns.len hn1
  have HM := Lib.hid hm
  have hmN : m ≤ N := by rw [hm, HN.out]; exact HSI0.out.len HU.out
  clear hb1 hn1 hm
  go_wp2_with fail
  go_loopw [5, 6] (fun s5 s6 wr => ∃ (sn : List Int) (o5 : Option Addr) (m5 c5 : Nat) (b : Bool), s5 = .slice o5 m5 c5 ∧ s6 = .bool b ∧ m5 ≤ N ∧ Hid (m5 = sn.length) ∧ Hid (Ns .i64 wr (.slice o5 m5 c5) sn) ∧ Hid (SI M s sn) ∧ Hid (b = false → ClosedL M sn) ∧ Hid (Below w.heap.size w wr))
    (fun s5 s6 _ => match s6, s5 with | .bool true, .slice _ n _ => N + 1 - n | _, _ => 0)
  case atStart => exact ⟨M s, o, m, c, true, rfl, rfl, hmN, HM, HN1, HSI0, Lib.hid (fun e => by simp at e), HB1⟩
  case round =>
    obtain ⟨sn, o5, m5, c5, b, rfl, rfl, hm5, HM5, HN5, HSI, HCL, HB5⟩ := hrel
    clear HM HN1 HSI0 HB1 hmN
    cases b with
    | true =>
      clear HCL
      go_wp2_with fail
      go_loopw [5, 6, 7] (fun s5 s6 s7 wx => ∃ (sx : List Int) (ox : Option Addr) (mx cx : Nat) (b : Bool) (i : Nat), s5 = .slice ox mx cx ∧ s6 = .bool b ∧ s7 = .int .i64 i ∧ i ≤ mx ∧ mx ≤ N ∧ Hid (mx = sx.length) ∧ Hid (Ns .i64 wx (.slice ox mx cx) sx) ∧ Hid (Pass M s sn sx b i []) ∧ Hid (Below w.heap.size w wx)) (fun _ _ s7 _ => N - (intOf s7).toNat)
      case atStart => exact ⟨sn, o5, m5, c5, false, 0, rfl, rfl, rfl, by omega, hm5, HM5, HN5, Lib.hid (Pass.start HSI.out), HB5⟩
      case round =>
        obtain ⟨sx, ox, mx, cx, b, i, rfl, rfl, rfl, hi, hmx, HMX, HNX, HPS, HBX⟩ := hrel
        clear HN5 HB5
        by_cases him : (i : Int) < mx
        · obtain ⟨a, y, rfl, hc, hy, hyw⟩ := HNX.out.at1 i (by rw [← HMX.out]; omega)
          have HYR := Lib.hid (HPS.out.si.re y (List.mem_of_getElem? hy))
          have HY0 : Hid (b = false → sn[i]? = some y) := Lib.hid (fun e => by rw [← HPS.out.eq e]; exact hy)
          have hof := HOF.out wr HBX.out y
          have HOFy := Lib.hid hof
          clear hof hy
          go_wp2_with fail
          refine HOFy.out.mono ?_
          clear HOFy
          rintro e w3 ⟨⟨o3, m3, c3, rfl, hn3⟩, hb3⟩
          have HB3 := Lib.hid (HBX.out.trans (hb3.mono HBX.out.size))
          have HNX3 := Lib.hid (HNX.out.below hb3)
          have HN3 := Lib.hid hn3
          have HM3 : Hid (m3 = (M y).length) := Lib.hid (Ns.len hn3)
          have HPS3 : Hid (Pass M s sn sx b i ((M y).take 0)) := Lib.hid (by rw [List.take_zero]; exact HPS.out)
          obtain ⟨ow, how⟩ : ∃ ow : Option Addr, ow = some a := ⟨_, rfl⟩
          rw [← how] at HNX3 ⊢
          have hc3 : m3 ≤ c3 ∧ c3 ≤ 9223372036854775807 := by
            obtain ⟨_, o', c', he, h1, h2, _⟩ := hn3
            simp only [Value.slice.injEq] at he
            obtain ⟨_, _, e2⟩ := he
            unfold maxLen at h2
            rw [HM3.out]
            omega
          obtain ⟨hc31, hc32⟩ := hc3
          clear hb3 hn3 hc HNX HPS how hyw HBX
          go_wp2_with fail
          go_loopw [5, 6, 9] (fun s5 s6 s9 wx => ∃ (sz : List Int) (oz : Option Addr) (mz cz : Nat) (bz : Bool) (k : Nat), s5 = .slice oz mz cz ∧ s6 = .bool bz ∧ s9 = .int .i64 k ∧ k ≤ m3 ∧ i < mz ∧ mz ≤ N ∧ Hid (mz = sz.length) ∧ Hid (Ns .i64 wx (.slice oz mz cz) sz) ∧ Hid (Pass M s sn sz bz i ((M y).take k)) ∧ Hid (bz = false → sn[i]? = some y) ∧ Hid (Below w3.heap.size w3 wx)) (fun _ _ s9 _ => m3 - (intOf s9).toNat)
          case atStart => exact ⟨sx, ow, mx, cx, b, 0, rfl, rfl, rfl, by omega, by omega, hmx, HMX, HNX3, HPS3, HY0, Lib.hid (Below.refl _ _)⟩
          case round =>
            obtain ⟨sz, oz, mz, cz, bz, k, rfl, rfl, rfl, hk, hiz, hmz, HMZ, HNZ, HPZ, HYZ, HBZ⟩ := hrel
            clear HNX3 HPS3 HMX HY0
            by_cases hkm : (k : Int) < m3
            · obtain ⟨a3, x, rfl, hc0, hx, hxw⟩ := HN3.out.at1 k (by rw [← HM3.out]; omega)
              have d3 := (HBZ.out.cell (Below.lt hc0)).trans hc0
              have hri := rising HNZ.out (by rw [← HMZ.out]; omega) x hxw
              have hps := HPZ.out.step HYR.out (List.mem_of_getElem? hx)
              have htk : (M y).take (k + 1) = (M y).take k ++ [x] := by rw [List.take_add_one, hx]; rfl
              rw [← htk] at hps
              have hlen := hps.si.len HU.out
              rw [← HN.out] at hlen
              have hge : sz.length ≤ (rise sz x).length := by
                by_cases e : x ∈ sz
                · rw [rise_same HPZ.out.si.up e]; exact Nat.le_refl _
                · rw [rise_new e]; omega
              rw [← HMZ.out] at hps hge
              have HRI := Lib.hid hri
              have HPS2 := Lib.hid hps
              have HLEN := Lib.hid hlen
              have HGE := Lib.hid hge
              clear hri hps htk hlen hge hx hc0 hxw
              go_wp2_with fail
              refine HRI.out.mono ?_
              clear HRI
              rintro e w4 ⟨⟨o4, m4, c4, rfl, hn4⟩, hb4⟩
              have hm4 : m4 = (rise sz x).length := Ns.len hn4
              have HN4 := Lib.hid hn4
              have HB4 := Lib.hid (HBZ.out.trans (hb4.mono HBZ.out.size))
              have HM4 := Lib.hid hm4
              have HPS4 : Hid (Pass M s sn (rise sz x) (bz || decide (mz < m4)) i ((M y).take (k + 1))) := Lib.hid (by rw [hm4]; exact HPS2.out)
              have hm4N : m4 ≤ N := by rw [hm4]; exact HLEN.out
              have hm4g : mz ≤ m4 := by rw [hm4]; exact HGE.out
              clear hn4 hb4 hm4 d3
              cases bz with
              | true =>
                rw [Bool.true_or] at HPS4
                go_wp2_with fail
                go_roundw
                case rel => exact ⟨rise sz x, o4, m4, c4, true, k + 1, rfl, rfl, by go_num, by omega, by omega, hm4N, HM4, HN4, HPS4, Lib.hid (fun e => by simp at e), HB4⟩
                case measure => simp [intOf]; omega
              | false =>
                rw [Bool.false_or] at HPS4
                by_cases hlt : mz < m4
                · rw [decide_eq_true hlt] at HPS4
                  have hlt2 : (mz : Int) < m4 := by omega
                  go_wp2_with fail
                  go_roundw
                  case rel => exact ⟨rise sz x, o4, m4, c4, true, k + 1, rfl, rfl, by go_num, by omega, by omega, hm4N, HM4, HN4, HPS4, Lib.hid (fun e => by simp at e), HB4⟩
                  case measure => simp [intOf]; omega
                · rw [decide_eq_false hlt] at HPS4
                  obtain rfl : mz = m4 := by omega
                  clear hlt
                  go_wp2_with fail
                  go_roundw
                  case rel => exact ⟨rise sz x, o4, mz, c4, false, k + 1, rfl, rfl, by go_num, by omega, by omega, hm4N, HM4, HN4, HPS4, Lib.hid (fun _ => by simpa using HYZ.out), HB4⟩
                  case measure => simp [intOf]; omega
            · obtain rfl : k = m3 := by omega
              have hpz := HPZ.out
              rw [List.take_of_length_le (by rw [← HM3.out]; exact Nat.le_refl _)] at hpz
              have HPN := Lib.hid (hpz.next HYZ.out)
              have HBN := Lib.hid (HB3.out.trans (HBZ.out.mono HB3.out.size))
              clear hpz
              go_wp2_with fail
              go_roundw
              case rel => exact ⟨sz, oz, mz, cz, bz, i + 1, rfl, rfl, by go_num, by omega, hmz, HMZ, HNZ, HPN, HBN⟩
              case measure => simp [intOf]; omega
        · obtain rfl : i = mx := by omega
          have hps := HPS.out
          rw [HMX.out] at hps
          have HCL2 : Hid (b = false → ClosedL M sx) := Lib.hid fun e => hps.done e
          have HSI2 := Lib.hid hps.si
          have hg : b = true → m5 < i := fun e => by rw [HM5.out, HMX.out]; exact hps.gr e
          have HGG := Lib.hid hg
          clear hps hg
          go_wp2_with fail
          go_roundw
          case rel => exact ⟨sx, ox, i, cx, b, rfl, rfl, hmx, HMX, HNX, HSI2, HCL2, HBX⟩
          case measure =>
            cases b with
            | true => have := HGG.out rfl; simp; omega
            | false => simp; omega
    | false =>
      have hcl := HCL.out rfl
      have HCLD := Lib.hid hcl
      clear HCL hcl
      go_wp2_with fail
      go_loopw [11] (fun s11 wx => ∃ i : Nat, s11 = .int .i64 i ∧ i ≤ m5 ∧ Hid (∀ j y, j < i → sn[j]? = some y → y ≠ s) ∧ wr = wx) (fun s11 _ => m5 - (intOf s11).toNat)
      case atStart => exact ⟨0, rfl, by omega, Lib.hid (fun j y hj => by omega), rfl⟩
      case round =>
        obtain ⟨i, rfl, hi, HNO, rfl⟩ := hrel
        by_cases him : (i : Int) < m5
        · obtain ⟨a, y, rfl, hc, hy, hyw⟩ := HN5.out.at1 i (by rw [← HM5.out]; omega)
          by_cases e : y = s
          · have HRY := Lib.hid (HSI.out.re y (List.mem_of_getElem? hy))
            subst e
            clear hy hyw
            go_wp2_with fail
            go_ret
            exact ⟨true, rfl, ⟨fun _ => HRY.out, fun _ => rfl⟩, HB5.out⟩
          · have eb : (y == s) = false := by simp [e]
            have HNO2 : Hid (∀ j z, j < i + 1 → sn[j]? = some z → z ≠ s) := Lib.hid fun j z hj hz => by
              by_cases ej : j = i
              · subst ej
                rw [hy] at hz
                obtain rfl : y = z := by simpa using hz
                exact e
              · exact HNO.out j z (by omega) hz
            clear hy hyw e
            go_wp2_with fail
            go_roundw
            case rel => exact ⟨i + 1, by go_num, by omega, HNO2, trivial⟩
            case measure => simp [intOf]; omega
        · obtain rfl : i = m5 := by omega
          have hno : ¬ Reach M s s := fun hr => by
            obtain ⟨j, hj⟩ := List.getElem?_of_mem (HSI.out.all HCLD.out hr)
            exact HNO.out j s (by rw [HM5.out]; exact (List.getElem?_eq_some_iff.1 hj).1) hj rfl
          have HNOR := Lib.hid hno
          clear hno
          go_wp2_with fail
          go_ret
          exact ⟨false, rfl, ⟨fun e => by simp at e, fun e => absurd e HNOR.out⟩, HB5.out⟩
end Go.Proofs.Ytpgelebmhhcodaa
