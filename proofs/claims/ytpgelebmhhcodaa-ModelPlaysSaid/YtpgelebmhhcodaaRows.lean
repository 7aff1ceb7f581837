/-
  No cell of these rows narrows 'for every input' (looked for: loops, veiled, ifaces, maps, wideKeys, modest, calm, conditions, laid).
  DERIVED. THE GIVEN ROWS OF THIS SEAT. 10 by the template 'for every input the law returns true; each argument reads behind the call as it read before'; 0 by the template 'total and deterministic' (their statements: YtpgelebmhhcodaaTotals.lean).
  GIVEN WITH THE SEED: the statements are not yours to turn. If you find one false, say at which input.
  Laid BY PROGRAM, IN A SANDBOX (cutbox-rows.mjs): the forced cells as the released guide's own fill.sh prints them over the translation 6df3c5f8fe92d4d8… (all of the seat's roots in one cut). By AI agents, Wed Nov 11 2026. No macro, syntax, notation, axiom, sorry.
-/
import Derived.Test.YtpgelebmhhcodaaChecked
import GoSem.Claim
import GoSem.ClaimJoined
import GoSem.ClaimMapViews
import Derived.JoinedTies
import Derived.KernelRfl
namespace Go.Proofs.Ytpgelebmhhcodaa
/- THE CELL 'sum', in the pinned program and in every row, IS THE sha256 OF THE DUMP (.gsa) THAT YtpgelebmhhcodaaProg.lean LOADS. Nothing in Lean hashes anything: it is a label: what it is worth is what the hold of that sum in a sandbox is worth. -/
noncomputable def Try.pinned : Pinned := { name := "ytpgelebmhhcodaa", sum := "6df3c5f8fe92d4d859a4cc8f73685cb6b69097c5a72720b3c75bacdffc1dc12b", checked := Try.checked }
namespace Rows
def none {H : Type} : Left H := { results := [], args := [] }

/-- 'phoenixlaw12.LockApart': WHATEVER THE INPUT: true; the input reads as it did. -/
def lockApartSpec : ChangeSpec := { name := "lockApart", fn := fun _ => fun
  | [d] => { results := [.lit (.bool true)], args := [d] }
  | _ => none }
def lockApartRow : OpenClaim := { program := "ytpgelebmhhcodaa", sum := "6df3c5f8fe92d4d859a4cc8f73685cb6b69097c5a72720b3c75bacdffc1dc12b", func := "phoenix/phoenixlaw12.LockApart", spec := "lockApart", unfollowed := true, recurses := true, apart := false }
def LockApartSaid : Prop := lockApartRow.holds Try.pinned (OpenSpec.ofChange lockApartSpec)

/-- ITS FALSE NEIGHBOUR: 'it returns false'. Refute it at one input. -/
def lockApartWrong : ChangeSpec := { name := "lockApart", fn := fun _ => fun
  | [d] => { results := [.lit (.bool false)], args := [d] }
  | _ => none }
def LockApartWrongFalsely : Prop := lockApartRow.holds Try.pinned (OpenSpec.ofChange lockApartWrong)

/-- 'phoenixlaw13.WaitOf': WHATEVER THE INPUT: true; the input reads as it did. -/
def waitOfSpec : ChangeSpec := { name := "waitOf", fn := fun _ => fun
  | [d1, d2, d3] => { results := [.lit (.bool true)], args := [d1, d2, d3] }
  | _ => none }
def waitOfRow : OpenClaim := { program := "ytpgelebmhhcodaa", sum := "6df3c5f8fe92d4d859a4cc8f73685cb6b69097c5a72720b3c75bacdffc1dc12b", func := "phoenix/phoenixlaw13.WaitOf", spec := "waitOf", unfollowed := true, recurses := true, apart := false }
def WaitOfSaid : Prop := waitOfRow.holds Try.pinned (OpenSpec.ofChange waitOfSpec)

/-- ITS FALSE NEIGHBOUR: 'it returns false'. Refute it at one input. -/
def waitOfWrong : ChangeSpec := { name := "waitOf", fn := fun _ => fun
  | [d1, d2, d3] => { results := [.lit (.bool false)], args := [d1, d2, d3] }
  | _ => none }
def WaitOfWrongFalsely : Prop := waitOfRow.holds Try.pinned (OpenSpec.ofChange waitOfWrong)

/-- 'phoenixlaw13.WaitTrees': WHATEVER THE INPUT: true; the input reads as it did. -/
def waitTreesSpec : ChangeSpec := { name := "waitTrees", fn := fun _ => fun
  | [d1, d2] => { results := [.lit (.bool true)], args := [d1, d2] }
  | _ => none }
def waitTreesRow : OpenClaim := { program := "ytpgelebmhhcodaa", sum := "6df3c5f8fe92d4d859a4cc8f73685cb6b69097c5a72720b3c75bacdffc1dc12b", func := "phoenix/phoenixlaw13.WaitTrees", spec := "waitTrees", unfollowed := true, recurses := true, apart := false }
def WaitTreesSaid : Prop := waitTreesRow.holds Try.pinned (OpenSpec.ofChange waitTreesSpec)

/-- ITS FALSE NEIGHBOUR: 'it returns false'. Refute it at one input. -/
def waitTreesWrong : ChangeSpec := { name := "waitTrees", fn := fun _ => fun
  | [d1, d2] => { results := [.lit (.bool false)], args := [d1, d2] }
  | _ => none }
def WaitTreesWrongFalsely : Prop := waitTreesRow.holds Try.pinned (OpenSpec.ofChange waitTreesWrong)

/-- 'phoenixlaw27.ModelSerial': WHATEVER THE INPUT: true; the input reads as it did. -/
def modelSerialSpec : ChangeSpec := { name := "modelSerial", fn := fun _ => fun
  | [d1, d2, d3] => { results := [.lit (.bool true)], args := [d1, d2, d3] }
  | _ => none }
def modelSerialRow : OpenClaim := { program := "ytpgelebmhhcodaa", sum := "6df3c5f8fe92d4d859a4cc8f73685cb6b69097c5a72720b3c75bacdffc1dc12b", func := "phoenix/phoenixlaw27.ModelSerial", spec := "modelSerial", unfollowed := true, recurses := true, apart := false }
def ModelSerialSaid : Prop := modelSerialRow.holds Try.pinned (OpenSpec.ofChange modelSerialSpec)

/-- ITS FALSE NEIGHBOUR: 'it returns false'. Refute it at one input. -/
def modelSerialWrong : ChangeSpec := { name := "modelSerial", fn := fun _ => fun
  | [d1, d2, d3] => { results := [.lit (.bool false)], args := [d1, d2, d3] }
  | _ => none }
def ModelSerialWrongFalsely : Prop := modelSerialRow.holds Try.pinned (OpenSpec.ofChange modelSerialWrong)

/-- 'phoenixlaw12.LockPlays': WHATEVER THE INPUT: true; the input reads as it did. -/
def lockPlaysSpec : ChangeSpec := { name := "lockPlays", fn := fun _ => fun
  | [d] => { results := [.lit (.bool true)], args := [d] }
  | _ => none }
def lockPlaysRow : OpenClaim := { program := "ytpgelebmhhcodaa", sum := "6df3c5f8fe92d4d859a4cc8f73685cb6b69097c5a72720b3c75bacdffc1dc12b", func := "phoenix/phoenixlaw12.LockPlays", spec := "lockPlays", unfollowed := true, recurses := true, apart := false }
def LockPlaysSaid : Prop := lockPlaysRow.holds Try.pinned (OpenSpec.ofChange lockPlaysSpec)

/-- ITS FALSE NEIGHBOUR: 'it returns false'. Refute it at one input. -/
def lockPlaysWrong : ChangeSpec := { name := "lockPlays", fn := fun _ => fun
  | [d] => { results := [.lit (.bool false)], args := [d] }
  | _ => none }
def LockPlaysWrongFalsely : Prop := lockPlaysRow.holds Try.pinned (OpenSpec.ofChange lockPlaysWrong)

/-- 'phoenixlaw13.WaitPlays': WHATEVER THE INPUT: true; the input reads as it did. -/
def waitPlaysSpec : ChangeSpec := { name := "waitPlays", fn := fun _ => fun
  | [d] => { results := [.lit (.bool true)], args := [d] }
  | _ => none }
def waitPlaysRow : OpenClaim := { program := "ytpgelebmhhcodaa", sum := "6df3c5f8fe92d4d859a4cc8f73685cb6b69097c5a72720b3c75bacdffc1dc12b", func := "phoenix/phoenixlaw13.WaitPlays", spec := "waitPlays", unfollowed := true, recurses := true, apart := false }
def WaitPlaysSaid : Prop := waitPlaysRow.holds Try.pinned (OpenSpec.ofChange waitPlaysSpec)

/-- ITS FALSE NEIGHBOUR: 'it returns false'. Refute it at one input. -/
def waitPlaysWrong : ChangeSpec := { name := "waitPlays", fn := fun _ => fun
  | [d] => { results := [.lit (.bool false)], args := [d] }
  | _ => none }
def WaitPlaysWrongFalsely : Prop := waitPlaysRow.holds Try.pinned (OpenSpec.ofChange waitPlaysWrong)

/-- 'phoenixlaw13.WaitRounds': WHATEVER THE INPUT: true; the input reads as it did. -/
def waitRoundsSpec : ChangeSpec := { name := "waitRounds", fn := fun _ => fun
  | [d1, d2] => { results := [.lit (.bool true)], args := [d1, d2] }
  | _ => none }
def waitRoundsRow : OpenClaim := { program := "ytpgelebmhhcodaa", sum := "6df3c5f8fe92d4d859a4cc8f73685cb6b69097c5a72720b3c75bacdffc1dc12b", func := "phoenix/phoenixlaw13.WaitRounds", spec := "waitRounds", unfollowed := true, recurses := true, apart := false }
def WaitRoundsSaid : Prop := waitRoundsRow.holds Try.pinned (OpenSpec.ofChange waitRoundsSpec)

/-- ITS FALSE NEIGHBOUR: 'it returns false'. Refute it at one input. -/
def waitRoundsWrong : ChangeSpec := { name := "waitRounds", fn := fun _ => fun
  | [d1, d2] => { results := [.lit (.bool false)], args := [d1, d2] }
  | _ => none }
def WaitRoundsWrongFalsely : Prop := waitRoundsRow.holds Try.pinned (OpenSpec.ofChange waitRoundsWrong)

/-- 'phoenixlaw27.ModelApart': WHATEVER THE INPUT: true; the input reads as it did. -/
def modelApartSpec : ChangeSpec := { name := "modelApart", fn := fun _ => fun
  | [d1, d2, d3, d4] => { results := [.lit (.bool true)], args := [d1, d2, d3, d4] }
  | _ => none }
def modelApartRow : OpenClaim := { program := "ytpgelebmhhcodaa", sum := "6df3c5f8fe92d4d859a4cc8f73685cb6b69097c5a72720b3c75bacdffc1dc12b", func := "phoenix/phoenixlaw27.ModelApart", spec := "modelApart", inPlace := ["maps.clone"], unfollowed := true, recurses := true, apart := false }
def ModelApartSaid : Prop := modelApartRow.holds Try.pinned (OpenSpec.ofChange modelApartSpec)

/-- ITS FALSE NEIGHBOUR: 'it returns false'. Refute it at one input. -/
def modelApartWrong : ChangeSpec := { name := "modelApart", fn := fun _ => fun
  | [d1, d2, d3, d4] => { results := [.lit (.bool false)], args := [d1, d2, d3, d4] }
  | _ => none }
def ModelApartWrongFalsely : Prop := modelApartRow.holds Try.pinned (OpenSpec.ofChange modelApartWrong)

/-- 'phoenixlaw27.ModelNone': WHATEVER THE INPUT: true; the input reads as it did. -/
def modelNoneSpec : ChangeSpec := { name := "modelNone", fn := fun _ => fun
  | [d1, d2, d3, d4] => { results := [.lit (.bool true)], args := [d1, d2, d3, d4] }
  | _ => none }
def modelNoneRow : OpenClaim := { program := "ytpgelebmhhcodaa", sum := "6df3c5f8fe92d4d859a4cc8f73685cb6b69097c5a72720b3c75bacdffc1dc12b", func := "phoenix/phoenixlaw27.ModelNone", spec := "modelNone", inPlace := ["maps.clone"], unfollowed := true, recurses := true, apart := false }
def ModelNoneSaid : Prop := modelNoneRow.holds Try.pinned (OpenSpec.ofChange modelNoneSpec)

/-- ITS FALSE NEIGHBOUR: 'it returns false'. Refute it at one input. -/
def modelNoneWrong : ChangeSpec := { name := "modelNone", fn := fun _ => fun
  | [d1, d2, d3, d4] => { results := [.lit (.bool false)], args := [d1, d2, d3, d4] }
  | _ => none }
def ModelNoneWrongFalsely : Prop := modelNoneRow.holds Try.pinned (OpenSpec.ofChange modelNoneWrong)

/-- 'phoenixlaw27.ModelPlays': WHATEVER THE INPUT: true; the input reads as it did. -/
def modelPlaysSpec : ChangeSpec := { name := "modelPlays", fn := fun _ => fun
  | [d1, d2] => { results := [.lit (.bool true)], args := [d1, d2] }
  | _ => none }
def modelPlaysRow : OpenClaim := { program := "ytpgelebmhhcodaa", sum := "6df3c5f8fe92d4d859a4cc8f73685cb6b69097c5a72720b3c75bacdffc1dc12b", func := "phoenix/phoenixlaw27.ModelPlays", spec := "modelPlays", inPlace := ["maps.clone"], unfollowed := true, recurses := true, apart := false }
def ModelPlaysSaid : Prop := modelPlaysRow.holds Try.pinned (OpenSpec.ofChange modelPlaysSpec)

/-- ITS FALSE NEIGHBOUR: 'it returns false'. Refute it at one input. -/
def modelPlaysWrong : ChangeSpec := { name := "modelPlays", fn := fun _ => fun
  | [d1, d2] => { results := [.lit (.bool false)], args := [d1, d2] }
  | _ => none }
def ModelPlaysWrongFalsely : Prop := modelPlaysRow.holds Try.pinned (OpenSpec.ofChange modelPlaysWrong)

/- THE SECOND FORM. 'bulk': how many values and letters a reading holds, each counted each time it is reached (what is shared counts as often as it is met; a slice's spare places count too). A statement '..UptoSaid' is the law's where the arguments, and the package variables that the reading takes, are together of bulk at most 1048576: NARROWER than '..Said'. Prove '..Said' where nothing that the law and all that it calls make is longer than what came in: it says more and counts as full. Else prove '..UptoSaid'. A law counts once. -/
mutual
def uptoBulk {H : Type} : DataW H → Nat
  | .lit (.string bytes) => bytes.length + 1
  | .lit _ => 1
  | .nil => 1
  | .ptr d => uptoBulk d + 1
  | .slice elems spare => uptoBulkAll elems + uptoBulkAll spare + 1
  | .agg parts => uptoBulkAll parts + 1
  | .iface _ d => uptoBulk d + 1
  | .map entries => uptoBulkEntries entries + 1
  | .held _ => 1
def uptoBulkAll {H : Type} : List (DataW H) → Nat
  | [] => 0
  | d :: r => uptoBulk d + uptoBulkAll r
def uptoBulkEntries {H : Type} : List (Lit × DataW H) → Nat
  | [] => 0
  | x :: r => uptoBulkEntry x + uptoBulkEntries r
def uptoBulkEntry {H : Type} : Lit × DataW H → Nat
  | (.string bytes, d) => bytes.length + uptoBulk d + 1
  | (_, d) => uptoBulk d + 1
 end
def uptoSmall : (H : Type) → List (DataW H) → Bool := fun _ ds => decide (uptoBulkAll ds ≤ 1048576)
def OpenSpec.upto (s : _root_.Go.ChangeSpec) : _root_.Go.OpenSpec := { _root_.Go.OpenSpec.ofChange s with cond := some uptoSmall }

/-- 'phoenixlaw12.LockApart', WHERE WHAT IT READS IS OF BULK AT MOST 1048576: true; the input reads as it did. -/
def lockApartUptoRow : OpenClaim := { program := "ytpgelebmhhcodaa", sum := "6df3c5f8fe92d4d859a4cc8f73685cb6b69097c5a72720b3c75bacdffc1dc12b", func := "phoenix/phoenixlaw12.LockApart", spec := "lockApart", unfollowed := true, recurses := true, apart := false, narrowed := true }
def LockApartUptoSaid : Prop := lockApartUptoRow.holds Try.pinned (OpenSpec.upto lockApartSpec)

/-- 'phoenixlaw13.WaitOf', WHERE WHAT IT READS IS OF BULK AT MOST 1048576: true; the input reads as it did. -/
def waitOfUptoRow : OpenClaim := { program := "ytpgelebmhhcodaa", sum := "6df3c5f8fe92d4d859a4cc8f73685cb6b69097c5a72720b3c75bacdffc1dc12b", func := "phoenix/phoenixlaw13.WaitOf", spec := "waitOf", unfollowed := true, recurses := true, apart := false, narrowed := true }
def WaitOfUptoSaid : Prop := waitOfUptoRow.holds Try.pinned (OpenSpec.upto waitOfSpec)

/-- 'phoenixlaw13.WaitTrees', WHERE WHAT IT READS IS OF BULK AT MOST 1048576: true; the input reads as it did. -/
def waitTreesUptoRow : OpenClaim := { program := "ytpgelebmhhcodaa", sum := "6df3c5f8fe92d4d859a4cc8f73685cb6b69097c5a72720b3c75bacdffc1dc12b", func := "phoenix/phoenixlaw13.WaitTrees", spec := "waitTrees", unfollowed := true, recurses := true, apart := false, narrowed := true }
def WaitTreesUptoSaid : Prop := waitTreesUptoRow.holds Try.pinned (OpenSpec.upto waitTreesSpec)

/-- 'phoenixlaw27.ModelSerial', WHERE WHAT IT READS IS OF BULK AT MOST 1048576: true; the input reads as it did. -/
def modelSerialUptoRow : OpenClaim := { program := "ytpgelebmhhcodaa", sum := "6df3c5f8fe92d4d859a4cc8f73685cb6b69097c5a72720b3c75bacdffc1dc12b", func := "phoenix/phoenixlaw27.ModelSerial", spec := "modelSerial", unfollowed := true, recurses := true, apart := false, narrowed := true }
def ModelSerialUptoSaid : Prop := modelSerialUptoRow.holds Try.pinned (OpenSpec.upto modelSerialSpec)

/-- 'phoenixlaw12.LockPlays', WHERE WHAT IT READS IS OF BULK AT MOST 1048576: true; the input reads as it did. -/
def lockPlaysUptoRow : OpenClaim := { program := "ytpgelebmhhcodaa", sum := "6df3c5f8fe92d4d859a4cc8f73685cb6b69097c5a72720b3c75bacdffc1dc12b", func := "phoenix/phoenixlaw12.LockPlays", spec := "lockPlays", unfollowed := true, recurses := true, apart := false, narrowed := true }
def LockPlaysUptoSaid : Prop := lockPlaysUptoRow.holds Try.pinned (OpenSpec.upto lockPlaysSpec)

/-- 'phoenixlaw13.WaitPlays', WHERE WHAT IT READS IS OF BULK AT MOST 1048576: true; the input reads as it did. -/
def waitPlaysUptoRow : OpenClaim := { program := "ytpgelebmhhcodaa", sum := "6df3c5f8fe92d4d859a4cc8f73685cb6b69097c5a72720b3c75bacdffc1dc12b", func := "phoenix/phoenixlaw13.WaitPlays", spec := "waitPlays", unfollowed := true, recurses := true, apart := false, narrowed := true }
def WaitPlaysUptoSaid : Prop := waitPlaysUptoRow.holds Try.pinned (OpenSpec.upto waitPlaysSpec)

/-- 'phoenixlaw13.WaitRounds', WHERE WHAT IT READS IS OF BULK AT MOST 1048576: true; the input reads as it did. -/
def waitRoundsUptoRow : OpenClaim := { program := "ytpgelebmhhcodaa", sum := "6df3c5f8fe92d4d859a4cc8f73685cb6b69097c5a72720b3c75bacdffc1dc12b", func := "phoenix/phoenixlaw13.WaitRounds", spec := "waitRounds", unfollowed := true, recurses := true, apart := false, narrowed := true }
def WaitRoundsUptoSaid : Prop := waitRoundsUptoRow.holds Try.pinned (OpenSpec.upto waitRoundsSpec)

/-- 'phoenixlaw27.ModelApart', WHERE WHAT IT READS IS OF BULK AT MOST 1048576: true; the input reads as it did. -/
def modelApartUptoRow : OpenClaim := { program := "ytpgelebmhhcodaa", sum := "6df3c5f8fe92d4d859a4cc8f73685cb6b69097c5a72720b3c75bacdffc1dc12b", func := "phoenix/phoenixlaw27.ModelApart", spec := "modelApart", inPlace := ["maps.clone"], unfollowed := true, recurses := true, apart := false, narrowed := true }
def ModelApartUptoSaid : Prop := modelApartUptoRow.holds Try.pinned (OpenSpec.upto modelApartSpec)

/-- 'phoenixlaw27.ModelNone', WHERE WHAT IT READS IS OF BULK AT MOST 1048576: true; the input reads as it did. -/
def modelNoneUptoRow : OpenClaim := { program := "ytpgelebmhhcodaa", sum := "6df3c5f8fe92d4d859a4cc8f73685cb6b69097c5a72720b3c75bacdffc1dc12b", func := "phoenix/phoenixlaw27.ModelNone", spec := "modelNone", inPlace := ["maps.clone"], unfollowed := true, recurses := true, apart := false, narrowed := true }
def ModelNoneUptoSaid : Prop := modelNoneUptoRow.holds Try.pinned (OpenSpec.upto modelNoneSpec)

/-- 'phoenixlaw27.ModelPlays', WHERE WHAT IT READS IS OF BULK AT MOST 1048576: true; the input reads as it did. -/
def modelPlaysUptoRow : OpenClaim := { program := "ytpgelebmhhcodaa", sum := "6df3c5f8fe92d4d859a4cc8f73685cb6b69097c5a72720b3c75bacdffc1dc12b", func := "phoenix/phoenixlaw27.ModelPlays", spec := "modelPlays", inPlace := ["maps.clone"], unfollowed := true, recurses := true, apart := false, narrowed := true }
def ModelPlaysUptoSaid : Prop := modelPlaysUptoRow.holds Try.pinned (OpenSpec.upto modelPlaysSpec)

end Rows
end Go.Proofs.Ytpgelebmhhcodaa
