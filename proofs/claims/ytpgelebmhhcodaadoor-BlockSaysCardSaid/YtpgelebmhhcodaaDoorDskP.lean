/- Plain laws on disks. No program. -/
import Derived.Test.YtpgelebmhhcodaaDoorBase
namespace Go.Proofs.YtpgelebmhhcodaaDoor
open Go.RowKit
set_option linter.unusedVariables false

structure SecD where
  fast : List Int
  loose : List (List Int)
structure DiskD where
  l : List SecD
  off : Bool
  fuse : Int

def sec0 : SecD := ⟨List.replicate 256 0, []⟩
/-- how many sectors a new disk has -/
def newN (n : Int) : Nat := (min (max n 1) 200).toNat
def newD (n : Int) : DiskD := ⟨List.replicate (newN n) sec0, false, -1⟩
/-- what was written last -/
def topS (s : SecD) : List Int := s.loose.getLastD s.fast
def DiskD.has (d : DiskD) (i : Int) : Bool := decide (0 ≤ i) && decide (i < d.l.length)
def DiskD.sec (d : DiskD) (i : Nat) : SecD := d.l.getD i sec0
/-- is there power for one thing more -/
def spendB (d : DiskD) : Bool := !(d.fuse == 0)
def spendD (d : DiskD) : DiskD := if d.fuse < 0 then d else if d.fuse = 0 then { d with off := true } else { d with fuse := d.fuse - 1 }
def readC (d : DiskD) (i : Int) : Int := if d.off then 101 else if d.has i then 0 else 102
def readL (d : DiskD) (i : Int) : List Int := if d.off then [] else if d.has i then topS (d.sec i.toNat) else []
def addL (d : DiskD) (i : Nat) (b : List Int) : DiskD := { d with l := d.l.set i ⟨(d.sec i).fast, (d.sec i).loose ++ [b]⟩ }
def writeC (d : DiskD) (i : Int) (b : List Int) : Int := if d.off then 101 else if d.has i then (if b.length = 256 then (if spendB d then 0 else 101) else 103) else 102
def writeD (d : DiskD) (i : Int) (b : List Int) : DiskD := if d.off then d else if d.has i then (if b.length = 256 then spendD (addL d i.toNat b) else d) else d
def syncS (s : SecD) : SecD := ⟨topS s, []⟩
def syncC (d : DiskD) : Int := if d.off then 101 else if spendB d then 0 else 101
def syncD (d : DiskD) : DiskD := if d.off then d else if spendB d then { spendD d with l := d.l.map syncS } else spendD d
def fuseD (d : DiskD) (n : Int) : DiskD := { d with fuse := max n (-1) }
/-- the loose sectors, and how many versions -/
def looseTo (d : DiskD) (k : Nat) : List (Nat × Nat) := (List.range k).filterMap fun i => if (d.sec i).loose.length > 0 then some (i, (d.sec i).loose.length) else none
def looseD (d : DiskD) : List (Nat × Nat) := looseTo d d.l.length
def onD (d : DiskD) : DiskD := ⟨d.l.map fun s => ⟨s.fast, []⟩, false, -1⟩
def imageD (d : DiskD) : List (List Int) := d.l.map (·.fast)

theorem newN_bounds (n : Int) : 1 ≤ newN n ∧ newN n ≤ 200 := by unfold newN; omega
theorem newD_len (n : Int) : (newD n).l.length = newN n := by simp [newD]
end Go.Proofs.YtpgelebmhhcodaaDoor
