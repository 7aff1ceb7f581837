/- Contract of bytes.Equal. -/
import Derived.Test.YtoikdhfihkbcbaaDoorProg
import Derived.Test.YtoikdhfihkbcbaaDoorPlain
namespace Go.Proofs.YtoikdhfihkbcbaaDoor
open Go.RowKit
set_option linter.unusedVariables false

theorem bytesEqual (v u : Value) (l m : List Int) (w : World) (hv : Bs w v l) (hu : Bs w u m) :
    Calls Tryd.prog 48 #[v, u] w fun e w' => e = .returned (.bool (sameB l m)) ∧ w = w' := by
  have h1 := hv.str (P := Tryd.prog) 33 5 9 Tryd.underlying33 Tryd.underlying5 Tryd.underlying9
  have h2 := hu.str (P := Tryd.prog) 33 5 9 Tryd.underlying33 Tryd.underlying5 Tryd.underlying9
  have he : ((strOfNums l).toList == (strOfNums m).toList) = sameB l m := by
    rw [ByteArray.toList_eq, ByteArray.toList_eq, strOfNums_data, strOfNums_data]
    by_cases e : l = m
    · subst e; simp [sameB]
    · have hne : l.map (fun n => UInt8.ofNat n.toNat) ≠ m.map (fun n => UInt8.ofNat n.toNat) := by
        intro h
        refine e (strOfNums_inj hv.1 hu.1 ?_)
        unfold strOfNums; rw [h]
      simp [sameB, e, hne]
  have HE := Lib.hid he
  clear he
  obtain ⟨_, o, c, rfl, _, _, _, _⟩ := hv
  obtain ⟨_, o', c', rfl, _, _, _, _⟩ := hu
  generalize strOfNums l = s1 at *
  generalize strOfNums m = s2 at *
  go_enter Tryd.func48, Tryd.ntmps48
  go_wp2_with fail
  go_ret
  exact ⟨by rw [← HE.out]; rfl, rfl⟩
end Go.Proofs.YtoikdhfihkbcbaaDoor
