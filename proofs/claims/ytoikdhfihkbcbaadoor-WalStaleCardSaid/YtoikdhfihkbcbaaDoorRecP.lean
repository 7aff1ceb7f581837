/- Plain laws on records of the log. No program. -/
import Derived.Test.YtoikdhfihkbcbaaDoorPlain
namespace Go.Proofs.YtoikdhfihkbcbaaDoor
open Go.RowKit
set_option linter.unusedVariables false

structure RecD where
  kind : Int
  txn : Int
  page : Int
  prev : Int
  next : Int
  key : Int
  had : Bool
  has : Bool
  old : Int
  new : Int
deriving DecidableEq

def I64 (n : Int) : Prop := -9223372036854775808 ≤ n ∧ n ≤ 9223372036854775807

/-- its numbers are of their kinds -/
structure RecD.W (r : RecD) : Prop where
  kind : I64 r.kind
  txn : I64 r.txn
  page : I64 r.page
  prev : I64 r.prev
  next : I64 r.next
  key : I64 r.key
  old : I64 r.old
  new : I64 r.new

/-- the record as a value -/
def recV (r : RecD) : Value := .agg #[.int .i64 r.kind, .int .i64 r.txn, .int .i64 r.page, .int .i64 r.prev, .int .i64 r.next, .int .i64 r.key, .bool r.had, .bool r.has, .int .i64 r.old, .int .i64 r.new]

def inB (n lo hi : Int) : Bool := decide (lo ≤ n) && decide (n ≤ hi)
def prevB (r : RecD) : Bool := if r.kind = 1 ∨ r.kind = 7 ∨ r.kind = 10 then r.prev == 0 else if r.kind = 9 then inB r.prev 1 1073741824 else inB r.prev 0 1073741824
def nextB (r : RecD) : Bool := if r.kind = 3 ∨ r.kind = 8 then inB r.next 0 1073741824 else if r.kind = 10 then inB r.next 0 60000 else r.next == 0
def keyB (r : RecD) : Bool := if r.kind = 2 ∨ r.kind = 3 then inB r.key 0 1048575 else if r.kind = 8 then inB r.key 0 2 else r.key == 0
def valsB (r : RecD) : Bool :=
  if (r.has = false ∧ r.new ≠ 0) ∨ (r.had = false ∧ r.old ≠ 0) then false
  else if r.kind = 2 then r.had || r.has
  else if r.kind = 3 then r.had && (decide (1 ≤ r.old) && decide (r.old ≤ 1073741824))
  else !r.had && !r.has
def txnTop (r : RecD) : Int := if (1 ≤ r.kind ∧ r.kind ≤ 6) ∨ r.kind = 8 then 60000 else 0
def pageTop (r : RecD) : Int := if r.kind = 2 ∨ r.kind = 3 ∨ r.kind = 9 then 32 else 0
/-- whether a record may be -/
def okR (r : RecD) : Bool :=
  inB r.kind 1 10 && (inB r.txn (min (txnTop r) 1) (txnTop r) && (inB r.page (min (pageTop r) 1) (pageTop r) && (prevB r && (nextB r && (keyB r && valsB r)))))

def flagsR (r : RecD) : Int := (if r.had then 1 else 0) + (if r.has then 2 else 0)
def u64 (n : Int) : Int := n % 18446744073709551616
/-- its bytes -/
def recB (r : RecD) : List Int :=
  putL (putL (putL (putL (putL (putL (putL (putL (putL (List.replicate 40 0) 0 1 (u64 r.kind)) 1 1 (flagsR r)) 2 2 (u64 r.txn)) 4 2 (u64 r.page)) 8 4 (u64 r.prev)) 12 4 (u64 r.next)) 16 4 (u64 r.key)) 24 8 (u64 r.old)) 32 8 (u64 r.new)
def i64 (n : Int) : Int := if n < 9223372036854775808 then n else n - 18446744073709551616
/-- the record that bytes are, if they are one -/
def recOf (b : List Int) : RecD :=
  { kind := getL b 0 1, txn := getL b 2 2, page := getL b 4 2, prev := getL b 8 4, next := getL b 12 4, key := getL b 16 4, had := b.getD 1 0 % 2 == 1, has := b.getD 1 0 / 2 % 2 == 1, old := i64 (getL b 24 8), new := i64 (getL b 32 8) }

/-- the numbers, side by side: where, how many bytes, which -/
def recAt (k : Nat) : Int := [0, 1, 2, 4, 8, 12, 16, 24, 32].getD k 0
def recSz (k : Nat) : Int := [1, 1, 2, 2, 4, 4, 4, 8, 8].getD k 0
def recNo (r : RecD) (k : Nat) : Int := [u64 r.kind, flagsR r, u64 r.txn, u64 r.page, u64 r.prev, u64 r.next, u64 r.key, u64 r.old, u64 r.new].getD k 0
/-- the first k of them put -/
def recTo (r : RecD) : Nat → List Int
  | 0 => List.replicate 40 0
  | k + 1 => putL (recTo r k) (recAt k) (recSz k) (recNo r k)
theorem recTo_all (r : RecD) : recTo r 9 = recB r := rfl
theorem recTo_length (r : RecD) (k : Nat) : (recTo r k).length = 40 := by
  induction k with
  | zero => simp [recTo]
  | succ k ih => rw [recTo, putL_length, ih]
theorem recAt_bounds (k : Nat) (hk : k < 9) : 0 ≤ recAt k ∧ recAt k ≤ 32 ∧ 1 ≤ recSz k ∧ recSz k ≤ 8 := by
  match k, hk with
  | 0, _ | 1, _ | 2, _ | 3, _ | 4, _ | 5, _ | 6, _ | 7, _ | 8, _ => decide
  | k + 9, h => omega
theorem recNo_bounds (r : RecD) (k : Nat) (hk : k < 9) : 0 ≤ recNo r k ∧ recNo r k ≤ 18446744073709551615 := by
  have h : ∀ n, 0 ≤ u64 n ∧ u64 n ≤ 18446744073709551615 := fun n => by unfold u64; omega
  have hf : 0 ≤ flagsR r ∧ flagsR r ≤ 18446744073709551615 := by unfold flagsR; cases r.had <;> cases r.has <;> decide
  match k, hk with
  | 0, _ => exact h _
  | 1, _ => exact hf
  | 2, _ => exact h _
  | 3, _ => exact h _
  | 4, _ => exact h _
  | 5, _ => exact h _
  | 6, _ => exact h _
  | 7, _ => exact h _
  | 8, _ => exact h _
  | k + 9, h => omega

theorem recB_length (r : RecD) : (recB r).length = 40 := by simp [recB, putL_length]
theorem isB_recB (r : RecD) : IsB (recB r) := by 
  unfold recB
  exact isB_put (isB_put (isB_put (isB_put (isB_put (isB_put (isB_put (isB_put (isB_put (IsB.zeros 40) _ _ _) _ _ _) _ _ _) _ _ _) _ _ _) _ _ _) _ _ _) _ _ _) _ _ _
theorem get_put_after (l : List Int) (at_ t b s n : Int) (hb : 0 ≤ b) (hd : at_ + t ≤ b) (ht : 1 ≤ t) (ht' : t ≤ 8) (hs : 1 ≤ s) (hs' : s ≤ 8) (hin : b + s ≤ l.length) : getL (putL l at_ t n) b s = getL l b s := by
  have e : sz s = s := by unfold sz; omega
  have e2 : sz t = t := by unfold sz; omega
  unfold getL
  rw [e]
  refine getTo_congr _ _ (putL_length _ _ _ _) fun i hi hb => ?_
  rw [putL_get _ _ _ _ _ (by omega), if_neg (by omega)]
theorem get_put_before (l : List Int) (at_ t b s n : Int) (hb : 0 ≤ b) (hd : b + s ≤ at_) (hs : 1 ≤ s) (hs' : s ≤ 8) (hin : b + s ≤ l.length) : getL (putL l at_ t n) b s = getL l b s := by
  have e : sz s = s := by unfold sz; omega
  unfold getL
  rw [e]
  refine getTo_congr _ _ (putL_length _ _ _ _) fun i hi hb => ?_
  rw [putL_get _ _ _ _ _ (by omega), if_neg (by omega)]
/-- a byte behind or ahead of what is put -/
theorem putL_other (l : List Int) (at_ t n : Int) (i : Nat) (hi : i < l.length) (h : (i : Int) < at_ ∨ at_ + t ≤ i) (ht : 1 ≤ t) (ht' : t ≤ 8) : (putL l at_ t n).getD i 0 = l.getD i 0 := by
  have e2 : sz t = t := by unfold sz; omega
  rw [putL_get _ _ _ _ _ hi, if_neg (by omega)]
end Go.Proofs.YtoikdhfihkbcbaaDoor
