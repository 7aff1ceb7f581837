/-
  No cell of these rows narrows 'for every input' (looked for: loops, veiled, ifaces, maps, wideKeys, modest, calm, conditions, laid).
  DERIVED. THE GIVEN ROWS OF THIS SEAT. 6 by the template 'for every input the law returns true; each argument reads behind the call as it read before'; 0 by the template 'total and deterministic' (their statements: YtebpgghhjaoonaaTotals.lean).
  GIVEN WITH THE SEED: the statements are not yours to turn. If you find one false, say at which input.
  Laid BY PROGRAM, IN A SANDBOX (cutbox-rows.mjs): the forced cells as the released guide's own fill.sh prints them over the translation 5b1b8d1b9fd2fbb8… (all of the seat's roots in one cut). By AI agents, Wed Nov 11 2026. No macro, syntax, notation, axiom, sorry.
-/
import Derived.Test.YtebpgghhjaoonaaChecked
import GoSem.Claim
import GoSem.ClaimJoined
import GoSem.ClaimMapViews
import Derived.JoinedTies
import Derived.KernelRfl
namespace Go.Proofs.Ytebpgghhjaoonaa
/- THE CELL 'sum', in the pinned program and in every row, IS THE sha256 OF THE DUMP (.gsa) THAT YtebpgghhjaoonaaProg.lean LOADS. Nothing in Lean hashes anything: it is a label: what it is worth is what the hold of that sum in a sandbox is worth. -/
noncomputable def Try.pinned : Pinned := { name := "ytebpgghhjaoonaa", sum := "5b1b8d1b9fd2fbb88a01cb67d8a03fe83181040bdd7efb7393346d415783972d", checked := Try.checked }
namespace Rows
def none {H : Type} : Left H := { results := [], args := [] }

/-- 'phoenixlaw1.CellBack': WHATEVER THE INPUT: true; the input reads as it did. -/
def cellBackSpec : ChangeSpec := { name := "cellBack", fn := fun _ => fun
  | [d1, d2, d3, d4] => { results := [.lit (.bool true)], args := [d1, d2, d3, d4] }
  | _ => none }
def cellBackRow : OpenClaim := { program := "ytebpgghhjaoonaa", sum := "5b1b8d1b9fd2fbb88a01cb67d8a03fe83181040bdd7efb7393346d415783972d", func := "phoenix/phoenixlaw1.CellBack", spec := "cellBack", unfollowed := true, recurses := true, apart := false }
def CellBackSaid : Prop := cellBackRow.holds Try.pinned (OpenSpec.ofChange cellBackSpec)

/-- ITS FALSE NEIGHBOUR: 'it returns false'. Refute it at one input. -/
def cellBackWrong : ChangeSpec := { name := "cellBack", fn := fun _ => fun
  | [d1, d2, d3, d4] => { results := [.lit (.bool false)], args := [d1, d2, d3, d4] }
  | _ => none }
def CellBackWrongFalsely : Prop := cellBackRow.holds Try.pinned (OpenSpec.ofChange cellBackWrong)

/-- 'phoenixlaw1.CellRows': WHATEVER THE INPUT: true; the input reads as it did. -/
def cellRowsSpec : ChangeSpec := { name := "cellRows", fn := fun _ => fun
  | [d1, d2] => { results := [.lit (.bool true)], args := [d1, d2] }
  | _ => none }
def cellRowsRow : OpenClaim := { program := "ytebpgghhjaoonaa", sum := "5b1b8d1b9fd2fbb88a01cb67d8a03fe83181040bdd7efb7393346d415783972d", func := "phoenix/phoenixlaw1.CellRows", spec := "cellRows", unfollowed := true, recurses := true, apart := false }
def CellRowsSaid : Prop := cellRowsRow.holds Try.pinned (OpenSpec.ofChange cellRowsSpec)

/-- ITS FALSE NEIGHBOUR: 'it returns false'. Refute it at one input. -/
def cellRowsWrong : ChangeSpec := { name := "cellRows", fn := fun _ => fun
  | [d1, d2] => { results := [.lit (.bool false)], args := [d1, d2] }
  | _ => none }
def CellRowsWrongFalsely : Prop := cellRowsRow.holds Try.pinned (OpenSpec.ofChange cellRowsWrong)

/-- 'phoenixlaw1.CellSays': WHATEVER THE INPUT: true; the input reads as it did. -/
def cellSaysSpec : ChangeSpec := { name := "cellSays", fn := fun _ => fun
  | [d1, d2, d3, d4, d5] => { results := [.lit (.bool true)], args := [d1, d2, d3, d4, d5] }
  | _ => none }
def cellSaysRow : OpenClaim := { program := "ytebpgghhjaoonaa", sum := "5b1b8d1b9fd2fbb88a01cb67d8a03fe83181040bdd7efb7393346d415783972d", func := "phoenix/phoenixlaw1.CellSays", spec := "cellSays", unfollowed := true, recurses := true, apart := false }
def CellSaysSaid : Prop := cellSaysRow.holds Try.pinned (OpenSpec.ofChange cellSaysSpec)

/-- ITS FALSE NEIGHBOUR: 'it returns false'. Refute it at one input. -/
def cellSaysWrong : ChangeSpec := { name := "cellSays", fn := fun _ => fun
  | [d1, d2, d3, d4, d5] => { results := [.lit (.bool false)], args := [d1, d2, d3, d4, d5] }
  | _ => none }
def CellSaysWrongFalsely : Prop := cellSaysRow.holds Try.pinned (OpenSpec.ofChange cellSaysWrong)

/-- 'phoenixlaw1.CellEnds': WHATEVER THE INPUT: true; the input reads as it did. -/
def cellEndsSpec : ChangeSpec := { name := "cellEnds", fn := fun _ => fun
  | [d1, d2, d3] => { results := [.lit (.bool true)], args := [d1, d2, d3] }
  | _ => none }
def cellEndsRow : OpenClaim := { program := "ytebpgghhjaoonaa", sum := "5b1b8d1b9fd2fbb88a01cb67d8a03fe83181040bdd7efb7393346d415783972d", func := "phoenix/phoenixlaw1.CellEnds", spec := "cellEnds", unfollowed := true, recurses := true, apart := false }
def CellEndsSaid : Prop := cellEndsRow.holds Try.pinned (OpenSpec.ofChange cellEndsSpec)

/-- ITS FALSE NEIGHBOUR: 'it returns false'. Refute it at one input. -/
def cellEndsWrong : ChangeSpec := { name := "cellEnds", fn := fun _ => fun
  | [d1, d2, d3] => { results := [.lit (.bool false)], args := [d1, d2, d3] }
  | _ => none }
def CellEndsWrongFalsely : Prop := cellEndsRow.holds Try.pinned (OpenSpec.ofChange cellEndsWrong)

/-- 'phoenixlaw1.CellJoins': WHATEVER THE INPUT: true; the input reads as it did. -/
def cellJoinsSpec : ChangeSpec := { name := "cellJoins", fn := fun _ => fun
  | [d1, d2] => { results := [.lit (.bool true)], args := [d1, d2] }
  | _ => none }
def cellJoinsRow : OpenClaim := { program := "ytebpgghhjaoonaa", sum := "5b1b8d1b9fd2fbb88a01cb67d8a03fe83181040bdd7efb7393346d415783972d", func := "phoenix/phoenixlaw1.CellJoins", spec := "cellJoins", unfollowed := true, recurses := true, apart := false }
def CellJoinsSaid : Prop := cellJoinsRow.holds Try.pinned (OpenSpec.ofChange cellJoinsSpec)

/-- ITS FALSE NEIGHBOUR: 'it returns false'. Refute it at one input. -/
def cellJoinsWrong : ChangeSpec := { name := "cellJoins", fn := fun _ => fun
  | [d1, d2] => { results := [.lit (.bool false)], args := [d1, d2] }
  | _ => none }
def CellJoinsWrongFalsely : Prop := cellJoinsRow.holds Try.pinned (OpenSpec.ofChange cellJoinsWrong)

/-- 'phoenixlaw1.CellOwn': WHATEVER THE INPUT: true; the input reads as it did. -/
def cellOwnSpec : ChangeSpec := { name := "cellOwn", fn := fun _ => fun
  | [d1, d2, d3] => { results := [.lit (.bool true)], args := [d1, d2, d3] }
  | _ => none }
def cellOwnRow : OpenClaim := { program := "ytebpgghhjaoonaa", sum := "5b1b8d1b9fd2fbb88a01cb67d8a03fe83181040bdd7efb7393346d415783972d", func := "phoenix/phoenixlaw1.CellOwn", spec := "cellOwn", unfollowed := true, recurses := true, apart := false }
def CellOwnSaid : Prop := cellOwnRow.holds Try.pinned (OpenSpec.ofChange cellOwnSpec)

/-- ITS FALSE NEIGHBOUR: 'it returns false'. Refute it at one input. -/
def cellOwnWrong : ChangeSpec := { name := "cellOwn", fn := fun _ => fun
  | [d1, d2, d3] => { results := [.lit (.bool false)], args := [d1, d2, d3] }
  | _ => none }
def CellOwnWrongFalsely : Prop := cellOwnRow.holds Try.pinned (OpenSpec.ofChange cellOwnWrong)

/- THE SECOND FORM. 'bulk': how many values and letters a reading holds, each counted each time it is reached (what is shared counts as often as it is met; a slice's spare places count too). A statement '..UptoSaid' is the law's where the arguments, and the package variables that the reading takes, are together of bulk at most 1048576: NARROWER than '..Said'. Prove '..Said' where nothing that the law and all that it calls make is longer than what came in: it says more and counts as full. Else prove '..UptoSaid'. A law counts once. -/
mutual
def uptoBulk {H : Type} : DataW H → Nat
  | .lit (.string bytes) => bytes.length + 1
  | .lit _ => 1
  | .nil => 1
  | .ptr d => uptoBulk d + 1
  | .slice elems spare => uptoBulkAll elems + uptoBulkAll spare + 1
  | .agg parts => uptoBulkAll parts + 1
  | .iface _ d => uptoBulk d + 1
  | .map entries => uptoBulkEntries entries + 1
  | .held _ => 1
def uptoBulkAll {H : Type} : List (DataW H) → Nat
  | [] => 0
  | d :: r => uptoBulk d + uptoBulkAll r
def uptoBulkEntries {H : Type} : List (Lit × DataW H) → Nat
  | [] => 0
  | x :: r => uptoBulkEntry x + uptoBulkEntries r
def uptoBulkEntry {H : Type} : Lit × DataW H → Nat
  | (.string bytes, d) => bytes.length + uptoBulk d + 1
  | (_, d) => uptoBulk d + 1
 end
def uptoSmall : (H : Type) → List (DataW H) → Bool := fun _ ds => decide (uptoBulkAll ds ≤ 1048576)
def OpenSpec.upto (s : _root_.Go.ChangeSpec) : _root_.Go.OpenSpec := { _root_.Go.OpenSpec.ofChange s with cond := some uptoSmall }

/-- 'phoenixlaw1.CellBack', WHERE WHAT IT READS IS OF BULK AT MOST 1048576: true; the input reads as it did. -/
def cellBackUptoRow : OpenClaim := { program := "ytebpgghhjaoonaa", sum := "5b1b8d1b9fd2fbb88a01cb67d8a03fe83181040bdd7efb7393346d415783972d", func := "phoenix/phoenixlaw1.CellBack", spec := "cellBack", unfollowed := true, recurses := true, apart := false, narrowed := true }
def CellBackUptoSaid : Prop := cellBackUptoRow.holds Try.pinned (OpenSpec.upto cellBackSpec)

/-- 'phoenixlaw1.CellRows', WHERE WHAT IT READS IS OF BULK AT MOST 1048576: true; the input reads as it did. -/
def cellRowsUptoRow : OpenClaim := { program := "ytebpgghhjaoonaa", sum := "5b1b8d1b9fd2fbb88a01cb67d8a03fe83181040bdd7efb7393346d415783972d", func := "phoenix/phoenixlaw1.CellRows", spec := "cellRows", unfollowed := true, recurses := true, apart := false, narrowed := true }
def CellRowsUptoSaid : Prop := cellRowsUptoRow.holds Try.pinned (OpenSpec.upto cellRowsSpec)

/-- 'phoenixlaw1.CellSays', WHERE WHAT IT READS IS OF BULK AT MOST 1048576: true; the input reads as it did. -/
def cellSaysUptoRow : OpenClaim := { program := "ytebpgghhjaoonaa", sum := "5b1b8d1b9fd2fbb88a01cb67d8a03fe83181040bdd7efb7393346d415783972d", func := "phoenix/phoenixlaw1.CellSays", spec := "cellSays", unfollowed := true, recurses := true, apart := false, narrowed := true }
def CellSaysUptoSaid : Prop := cellSaysUptoRow.holds Try.pinned (OpenSpec.upto cellSaysSpec)

/-- 'phoenixlaw1.CellEnds', WHERE WHAT IT READS IS OF BULK AT MOST 1048576: true; the input reads as it did. -/
def cellEndsUptoRow : OpenClaim := { program := "ytebpgghhjaoonaa", sum := "5b1b8d1b9fd2fbb88a01cb67d8a03fe83181040bdd7efb7393346d415783972d", func := "phoenix/phoenixlaw1.CellEnds", spec := "cellEnds", unfollowed := true, recurses := true, apart := false, narrowed := true }
def CellEndsUptoSaid : Prop := cellEndsUptoRow.holds Try.pinned (OpenSpec.upto cellEndsSpec)

/-- 'phoenixlaw1.CellJoins', WHERE WHAT IT READS IS OF BULK AT MOST 1048576: true; the input reads as it did. -/
def cellJoinsUptoRow : OpenClaim := { program := "ytebpgghhjaoonaa", sum := "5b1b8d1b9fd2fbb88a01cb67d8a03fe83181040bdd7efb7393346d415783972d", func := "phoenix/phoenixlaw1.CellJoins", spec := "cellJoins", unfollowed := true, recurses := true, apart := false, narrowed := true }
def CellJoinsUptoSaid : Prop := cellJoinsUptoRow.holds Try.pinned (OpenSpec.upto cellJoinsSpec)

/-- 'phoenixlaw1.CellOwn', WHERE WHAT IT READS IS OF BULK AT MOST 1048576: true; the input reads as it did. -/
def cellOwnUptoRow : OpenClaim := { program := "ytebpgghhjaoonaa", sum := "5b1b8d1b9fd2fbb88a01cb67d8a03fe83181040bdd7efb7393346d415783972d", func := "phoenix/phoenixlaw1.CellOwn", spec := "cellOwn", unfollowed := true, recurses := true, apart := false, narrowed := true }
def CellOwnUptoSaid : Prop := cellOwnUptoRow.holds Try.pinned (OpenSpec.upto cellOwnSpec)

end Rows
end Go.Proofs.Ytebpgghhjaoonaa
