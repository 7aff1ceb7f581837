/-
  No cell of these rows narrows 'for every input' (looked for: loops, veiled, ifaces, maps, wideKeys, modest, calm, conditions, laid).
  DERIVED. THE GIVEN ROWS OF THIS SEAT. 5 by the template 'for every input the law returns true; each argument reads behind the call as it read before'; 0 by the template 'total and deterministic' (their statements: YtoikdhfihkbcbaaTotals.lean).
  GIVEN WITH THE SEED: the statements are not yours to turn. If you find one false, say at which input.
  Laid BY PROGRAM, IN A SANDBOX (cutbox-rows.mjs): the forced cells as the released guide's own fill.sh prints them over the translation de6b564a35939179… (all of the seat's roots in one cut). By AI agents, Wed Nov 11 2026. No macro, syntax, notation, axiom, sorry.
-/
import Derived.Test.YtoikdhfihkbcbaaChecked
import GoSem.Claim
import GoSem.ClaimJoined
import GoSem.ClaimMapViews
import Derived.JoinedTies
import Derived.KernelRfl
namespace Go.Proofs.Ytoikdhfihkbcbaa
/- THE CELL 'sum', in the pinned program and in every row, IS THE sha256 OF THE DUMP (.gsa) THAT YtoikdhfihkbcbaaProg.lean LOADS. Nothing in Lean hashes anything: it is a label: what it is worth is what the hold of that sum in a sandbox is worth. -/
noncomputable def Try.pinned : Pinned := { name := "ytoikdhfihkbcbaa", sum := "de6b564a35939179b4220f173215304355a082f7c607f42d8997b12cb048d877", checked := Try.checked }
namespace Rows
def none {H : Type} : Left H := { results := [], args := [] }

/-- 'phoenixlaw12.LockApart': WHATEVER THE INPUT: true; the input reads as it did. -/
def lockApartSpec : ChangeSpec := { name := "lockApart", fn := fun _ => fun
  | [d] => { results := [.lit (.bool true)], args := [d] }
  | _ => none }
def lockApartRow : OpenClaim := { program := "ytoikdhfihkbcbaa", sum := "de6b564a35939179b4220f173215304355a082f7c607f42d8997b12cb048d877", func := "phoenix/phoenixlaw12.LockApart", spec := "lockApart", unfollowed := true, recurses := true, apart := false }
def LockApartSaid : Prop := lockApartRow.holds Try.pinned (OpenSpec.ofChange lockApartSpec)

/-- ITS FALSE NEIGHBOUR: 'it returns false'. Refute it at one input. -/
def lockApartWrong : ChangeSpec := { name := "lockApart", fn := fun _ => fun
  | [d] => { results := [.lit (.bool false)], args := [d] }
  | _ => none }
def LockApartWrongFalsely : Prop := lockApartRow.holds Try.pinned (OpenSpec.ofChange lockApartWrong)

/-- 'phoenixlaw12.LockModes': WHATEVER THE INPUT: true; the input reads as it did. -/
def lockModesSpec : ChangeSpec := { name := "lockModes", fn := fun _ => fun
  | [d1, d2, d3] => { results := [.lit (.bool true)], args := [d1, d2, d3] }
  | _ => none }
def lockModesRow : OpenClaim := { program := "ytoikdhfihkbcbaa", sum := "de6b564a35939179b4220f173215304355a082f7c607f42d8997b12cb048d877", func := "phoenix/phoenixlaw12.LockModes", spec := "lockModes", unfollowed := true, recurses := true, apart := false }
def LockModesSaid : Prop := lockModesRow.holds Try.pinned (OpenSpec.ofChange lockModesSpec)

/-- ITS FALSE NEIGHBOUR: 'it returns false'. Refute it at one input. -/
def lockModesWrong : ChangeSpec := { name := "lockModes", fn := fun _ => fun
  | [d1, d2, d3] => { results := [.lit (.bool false)], args := [d1, d2, d3] }
  | _ => none }
def LockModesWrongFalsely : Prop := lockModesRow.holds Try.pinned (OpenSpec.ofChange lockModesWrong)

/-- 'phoenixlaw12.LockShares': WHATEVER THE INPUT: true; the input reads as it did. -/
def lockSharesSpec : ChangeSpec := { name := "lockShares", fn := fun _ => fun
  | [d1, d2] => { results := [.lit (.bool true)], args := [d1, d2] }
  | _ => none }
def lockSharesRow : OpenClaim := { program := "ytoikdhfihkbcbaa", sum := "de6b564a35939179b4220f173215304355a082f7c607f42d8997b12cb048d877", func := "phoenix/phoenixlaw12.LockShares", spec := "lockShares", unfollowed := true, recurses := true, apart := false }
def LockSharesSaid : Prop := lockSharesRow.holds Try.pinned (OpenSpec.ofChange lockSharesSpec)

/-- ITS FALSE NEIGHBOUR: 'it returns false'. Refute it at one input. -/
def lockSharesWrong : ChangeSpec := { name := "lockShares", fn := fun _ => fun
  | [d1, d2] => { results := [.lit (.bool false)], args := [d1, d2] }
  | _ => none }
def LockSharesWrongFalsely : Prop := lockSharesRow.holds Try.pinned (OpenSpec.ofChange lockSharesWrong)

/-- 'phoenixlaw12.LockPlays': WHATEVER THE INPUT: true; the input reads as it did. -/
def lockPlaysSpec : ChangeSpec := { name := "lockPlays", fn := fun _ => fun
  | [d] => { results := [.lit (.bool true)], args := [d] }
  | _ => none }
def lockPlaysRow : OpenClaim := { program := "ytoikdhfihkbcbaa", sum := "de6b564a35939179b4220f173215304355a082f7c607f42d8997b12cb048d877", func := "phoenix/phoenixlaw12.LockPlays", spec := "lockPlays", unfollowed := true, recurses := true, apart := false }
def LockPlaysSaid : Prop := lockPlaysRow.holds Try.pinned (OpenSpec.ofChange lockPlaysSpec)

/-- ITS FALSE NEIGHBOUR: 'it returns false'. Refute it at one input. -/
def lockPlaysWrong : ChangeSpec := { name := "lockPlays", fn := fun _ => fun
  | [d] => { results := [.lit (.bool false)], args := [d] }
  | _ => none }
def LockPlaysWrongFalsely : Prop := lockPlaysRow.holds Try.pinned (OpenSpec.ofChange lockPlaysWrong)

/-- 'phoenixlaw12.LockKeys': WHATEVER THE INPUT: true; the input reads as it did. -/
def lockKeysSpec : ChangeSpec := { name := "lockKeys", fn := fun _ => fun
  | [d] => { results := [.lit (.bool true)], args := [d] }
  | _ => none }
def lockKeysRow : OpenClaim := { program := "ytoikdhfihkbcbaa", sum := "de6b564a35939179b4220f173215304355a082f7c607f42d8997b12cb048d877", func := "phoenix/phoenixlaw12.LockKeys", spec := "lockKeys", unfollowed := true, recurses := true, apart := false }
def LockKeysSaid : Prop := lockKeysRow.holds Try.pinned (OpenSpec.ofChange lockKeysSpec)

/-- ITS FALSE NEIGHBOUR: 'it returns false'. Refute it at one input. -/
def lockKeysWrong : ChangeSpec := { name := "lockKeys", fn := fun _ => fun
  | [d] => { results := [.lit (.bool false)], args := [d] }
  | _ => none }
def LockKeysWrongFalsely : Prop := lockKeysRow.holds Try.pinned (OpenSpec.ofChange lockKeysWrong)

/- THE SECOND FORM. 'bulk': how many values and letters a reading holds, each counted each time it is reached (what is shared counts as often as it is met; a slice's spare places count too). A statement '..UptoSaid' is the law's where the arguments, and the package variables that the reading takes, are together of bulk at most 1048576: NARROWER than '..Said'. Prove '..Said' where nothing that the law and all that it calls make is longer than what came in: it says more and counts as full. Else prove '..UptoSaid'. A law counts once. -/
mutual
def uptoBulk {H : Type} : DataW H → Nat
  | .lit (.string bytes) => bytes.length + 1
  | .lit _ => 1
  | .nil => 1
  | .ptr d => uptoBulk d + 1
  | .slice elems spare => uptoBulkAll elems + uptoBulkAll spare + 1
  | .agg parts => uptoBulkAll parts + 1
  | .iface _ d => uptoBulk d + 1
  | .map entries => uptoBulkEntries entries + 1
  | .held _ => 1
def uptoBulkAll {H : Type} : List (DataW H) → Nat
  | [] => 0
  | d :: r => uptoBulk d + uptoBulkAll r
def uptoBulkEntries {H : Type} : List (Lit × DataW H) → Nat
  | [] => 0
  | x :: r => uptoBulkEntry x + uptoBulkEntries r
def uptoBulkEntry {H : Type} : Lit × DataW H → Nat
  | (.string bytes, d) => bytes.length + uptoBulk d + 1
  | (_, d) => uptoBulk d + 1
 end
def uptoSmall : (H : Type) → List (DataW H) → Bool := fun _ ds => decide (uptoBulkAll ds ≤ 1048576)
def OpenSpec.upto (s : _root_.Go.ChangeSpec) : _root_.Go.OpenSpec := { _root_.Go.OpenSpec.ofChange s with cond := some uptoSmall }

/-- 'phoenixlaw12.LockApart', WHERE WHAT IT READS IS OF BULK AT MOST 1048576: true; the input reads as it did. -/
def lockApartUptoRow : OpenClaim := { program := "ytoikdhfihkbcbaa", sum := "de6b564a35939179b4220f173215304355a082f7c607f42d8997b12cb048d877", func := "phoenix/phoenixlaw12.LockApart", spec := "lockApart", unfollowed := true, recurses := true, apart := false, narrowed := true }
def LockApartUptoSaid : Prop := lockApartUptoRow.holds Try.pinned (OpenSpec.upto lockApartSpec)

/-- 'phoenixlaw12.LockModes', WHERE WHAT IT READS IS OF BULK AT MOST 1048576: true; the input reads as it did. -/
def lockModesUptoRow : OpenClaim := { program := "ytoikdhfihkbcbaa", sum := "de6b564a35939179b4220f173215304355a082f7c607f42d8997b12cb048d877", func := "phoenix/phoenixlaw12.LockModes", spec := "lockModes", unfollowed := true, recurses := true, apart := false, narrowed := true }
def LockModesUptoSaid : Prop := lockModesUptoRow.holds Try.pinned (OpenSpec.upto lockModesSpec)

/-- 'phoenixlaw12.LockShares', WHERE WHAT IT READS IS OF BULK AT MOST 1048576: true; the input reads as it did. -/
def lockSharesUptoRow : OpenClaim := { program := "ytoikdhfihkbcbaa", sum := "de6b564a35939179b4220f173215304355a082f7c607f42d8997b12cb048d877", func := "phoenix/phoenixlaw12.LockShares", spec := "lockShares", unfollowed := true, recurses := true, apart := false, narrowed := true }
def LockSharesUptoSaid : Prop := lockSharesUptoRow.holds Try.pinned (OpenSpec.upto lockSharesSpec)

/-- 'phoenixlaw12.LockPlays', WHERE WHAT IT READS IS OF BULK AT MOST 1048576: true; the input reads as it did. -/
def lockPlaysUptoRow : OpenClaim := { program := "ytoikdhfihkbcbaa", sum := "de6b564a35939179b4220f173215304355a082f7c607f42d8997b12cb048d877", func := "phoenix/phoenixlaw12.LockPlays", spec := "lockPlays", unfollowed := true, recurses := true, apart := false, narrowed := true }
def LockPlaysUptoSaid : Prop := lockPlaysUptoRow.holds Try.pinned (OpenSpec.upto lockPlaysSpec)

/-- 'phoenixlaw12.LockKeys', WHERE WHAT IT READS IS OF BULK AT MOST 1048576: true; the input reads as it did. -/
def lockKeysUptoRow : OpenClaim := { program := "ytoikdhfihkbcbaa", sum := "de6b564a35939179b4220f173215304355a082f7c607f42d8997b12cb048d877", func := "phoenix/phoenixlaw12.LockKeys", spec := "lockKeys", unfollowed := true, recurses := true, apart := false, narrowed := true }
def LockKeysUptoSaid : Prop := lockKeysUptoRow.holds Try.pinned (OpenSpec.upto lockKeysSpec)

end Rows
end Go.Proofs.Ytoikdhfihkbcbaa
