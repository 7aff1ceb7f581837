/- Plain: what lies where in a block's bytes. -/
import Derived.Test.YtpgelebmhhcodaaDoorBlB
namespace Go.Proofs.YtpgelebmhhcodaaDoor
open Go.RowKit
set_option linter.unusedVariables false

theorem midL {α : Type} (X M Y : List α) {a b : Nat} (ha : a = X.length) (hb : b = X.length + M.length) : ((X ++ (M ++ Y)).take b).drop a = M := by
  subst ha hb
  rw [List.drop_take, List.drop_left, show X.length + M.length - X.length = M.length from by omega, List.take_left]
theorem blkB_split (e : Int) (L : List RecD) : ∃ Z, blkB e L = blkHead e L.length ++ (L.flatMap recB ++ Z) := by
  refine ⟨List.replicate ((256 : Int) - ((blkHead e L.length ++ L.flatMap recB).length : Int)).toNat 0, ?_⟩
  unfold blkB blkTo fillL
  rw [List.take_length, List.append_assoc]
theorem blkB_low (e : Int) (L : List RecD) (k : Nat) (hk : k < 16) : (blkB e L).getD k 0 = (blkHead e L.length).getD k 0 := by
  obtain ⟨Z, hZ⟩ := blkB_split e L
  rw [hZ, List.getD_eq_getElem?_getD, List.getElem?_append_left (by rw [blkHead_len]; exact hk), ← List.getD_eq_getElem?_getD]
theorem len16 : (fillL blkMagic 16).length = 16 := by simp [fillL, blkMagic]
theorem blkHead_e (e n : Int) (k : Nat) (h4 : 4 ≤ k) (h8 : k < 8) : (blkHead e n).getD k 0 = e / 2 ^ (8 * (k - 4)) % 256 := by
  unfold blkHead
  have e4 : sz 4 = 4 := by unfold sz; omega
  have e2 : sz 2 = 2 := by unfold sz; omega
  rw [putL_get _ _ _ _ _ (by rw [putL_length, len16]; omega), if_neg (by rw [e2]; omega), putL_get _ _ _ _ _ (by rw [len16]; omega), if_pos (by rw [e4]; omega), show ((k : Int) - 4).toNat = k - 4 from by omega]
theorem blkHead_n (e n : Int) (h0 : 0 ≤ n) (h1 : n < 256) : (blkHead e n).getD 8 0 = n := by
  unfold blkHead
  have e2 : sz 2 = 2 := by unfold sz; omega
  rw [putL_get _ _ _ _ _ (by rw [putL_length, len16]; omega), if_pos (by rw [e2]; omega)]
  simp; omega
theorem blkHead_m (e n : Int) (k : Nat) (hk : k < 4) : (blkHead e n).getD k 0 = blkMagic.getD k 0 := by
  unfold blkHead
  have e4 : sz 4 = 4 := by unfold sz; omega
  have e2 : sz 2 = 2 := by unfold sz; omega
  rw [putL_get _ _ _ _ _ (by rw [putL_length, len16]; omega), if_neg (by rw [e2]; omega), putL_get _ _ _ _ _ (by rw [len16]; omega), if_neg (by rw [e4]; omega)]
  unfold fillL
  rw [List.getD_eq_getElem?_getD, List.getElem?_append_left (by simp [blkMagic]; omega), ← List.getD_eq_getElem?_getD]
theorem blkB_take4 (e : Int) (L : List RecD) (hl : L.length ≤ 6) : (blkB e L).take 4 = blkMagic := by
  have h := blkB_len e L hl
  apply List.ext_getElem (by rw [List.length_take, h]; rfl)
  intro i h1 h2
  have hi : i < 4 := by rw [List.length_take, h] at h1; omega
  rw [List.getElem_take]
  have e1 := (blkB_low e L i (by omega)).trans (blkHead_m e L.length i hi)
  rw [getD_lt (by omega), getD_lt (by simp [blkMagic]; omega)] at e1
  exact e1
theorem blkB_e (e : Int) (L : List RecD) (h0 : 0 ≤ e) (h1 : e < 16777216) : (blkB e L).getD 4 0 + 256 * (blkB e L).getD 5 0 + 65536 * (blkB e L).getD 6 0 = e := by
  rw [blkB_low e L 4 (by omega), blkB_low e L 5 (by omega), blkB_low e L 6 (by omega), blkHead_e e _ 4 (by omega) (by omega), blkHead_e e _ 5 (by omega) (by omega), blkHead_e e _ 6 (by omega) (by omega)]
  simp; omega
theorem blkB_n (e : Int) (L : List RecD) (hl : L.length ≤ 6) : (blkB e L).getD 8 0 = L.length := by
  rw [blkB_low e L 8 (by omega), blkHead_n _ _ (by omega) (by omega)]
theorem blkB_sub (e : Int) (L : List RecD) (i : Nat) (r : RecD) (hr : L[i]? = some r) : ((blkB e L).take (16 + 40 * (i + 1))).drop (16 + 40 * i) = recB r := by
  obtain ⟨Z, hZ⟩ := blkB_split e L
  have hlt : i < L.length := (List.getElem?_eq_some_iff.1 hr).1
  have hL : L = L.take i ++ (r :: L.drop (i + 1)) := by
    have h1 := List.take_append_drop i L
    rw [List.drop_eq_getElem_cons hlt, (List.getElem?_eq_some_iff.1 hr).2] at h1
    exact h1.symm
  have hX : blkB e L = (blkHead e L.length ++ (L.take i).flatMap recB) ++ (recB r ++ ((L.drop (i + 1)).flatMap recB ++ Z)) := by
    rw [hZ]
    conv => lhs; rw [show L.flatMap recB = (L.take i ++ (r :: L.drop (i + 1))).flatMap recB from by rw [← hL]]
    simp only [List.flatMap_append, List.flatMap_cons, List.append_assoc]
  rw [hX]
  have hx : (blkHead e L.length ++ (L.take i).flatMap recB).length = 16 + 40 * i := by
    rw [List.length_append, blkHead_len, flat40_len, List.length_take]; omega
  exact midL _ _ _ hx.symm (by rw [hx, recB_length]; omega)
end Go.Proofs.YtpgelebmhhcodaaDoor
