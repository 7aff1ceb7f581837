/- Plain words and lemmas on bytes and worlds, which the proofs over this program share. -/
import Derived.WalkKit
import Derived.BigQuiet
import Derived.Lib.Hide
import Derived.Lib.AppendZeros
import Derived.Lib.AppendZerosOnto
import Derived.Lib.SliceRun
import Derived.WalkSpells
namespace Go.Proofs.YtpgelebmhhcodaaDoor
open Go.RowKit

/-- each from 0 to 255 -/
def IsB (l : List Int) : Prop := ∀ x ∈ l, 0 ≤ x ∧ x ≤ 255

/-- a slice value that reads as a list of bytes -/
def Bs (w : World) (v : Value) (l : List Int) : Prop :=
  IsB l ∧ ∃ o cap, v = .slice o l.length cap ∧ l.length ≤ cap ∧ cap ≤ maxLen ∧ (o = none → cap = 0) ∧
    (l ≠ [] → ∃ a, o = some a ∧ ∀ i, i < l.length → w.cell? (a.add i) = some (.int .u8 (l.getD i 0)))

/-- a slice value of bytes that lies in a row of the call's own -/
def Ob (e : TypeId) (base : Nat) (w : World) (v : Value) (l : List Int) : Prop :=
  IsB l ∧ w.ownsRow base e 1 v l.length (l.map (Value.int .u8))

theorem getD_lt {α : Type} {l : List α} {i : Nat} {d : α} (h : i < l.length) : l.getD i d = l[i] := by
  simp [List.getD_eq_getElem?_getD, h]
theorem getD_ge {α : Type} {l : List α} {i : Nat} {d : α} (h : l.length ≤ i) : l.getD i d = d := by
  simp [List.getD_eq_getElem?_getD, h]
theorem ne_nil_of_lt {l : List Int} {k : Nat} (h : k < l.length) : l ≠ [] := by intro e; simp [e] at h

theorem Bs.nil (w : World) : Bs w (.slice none 0 0) [] := ⟨fun _ h => by simp at h, none, 0, rfl, by simp, by simp [maxLen], fun _ => rfl, fun h => absurd rfl h⟩

/-- one byte of such a value, under a name of its own -/
theorem Bs.at_ {w : World} {o : Option Addr} {l : List Int} (h1 : IsB l) (h : l ≠ [] → ∃ a, o = some a ∧ ∀ i, i < l.length → w.cell? (a.add i) = some (.int .u8 (l.getD i 0)))
    {k : Nat} (hk : k < l.length) : ∃ a x, o = some a ∧ w.cell? (a.add k) = some (.int .u8 x) ∧ Hid (l.getD k 0 = x) ∧ 0 ≤ x ∧ x ≤ 255 := by
  obtain ⟨a, ha, hc⟩ := h (by intro e; simp [e] at hk)
  have := h1 _ (List.getElem_mem hk)
  rw [← getD_lt (d := 0) hk] at this
  exact ⟨a, _, ha, hc k hk, rfl, this⟩

theorem IsB.nil : IsB [] := fun _ h => by simp at h
theorem IsB.append {l m : List Int} (h : IsB l) (k : IsB m) : IsB (l ++ m) := fun x hx => (List.mem_append.1 hx).elim (h x) (k x)
theorem IsB.cons {x : Int} {l : List Int} (h0 : 0 ≤ x) (h1 : x ≤ 255) (h : IsB l) : IsB (x :: l) := fun y hy => by
  rcases List.mem_cons.1 hy with rfl | hy
  · exact ⟨h0, h1⟩
  · exact h y hy
theorem IsB.get {l : List Int} (h : IsB l) (i : Nat) : 0 ≤ l.getD i 0 ∧ l.getD i 0 ≤ 255 := by
  by_cases hi : i < l.length
  · rw [getD_lt hi]; exact h _ (List.getElem_mem hi)
  · rw [getD_ge (by omega)]; omega
theorem IsB.set {l : List Int} (h : IsB l) (i : Nat) {x : Int} (h0 : 0 ≤ x) (h1 : x ≤ 255) : IsB (l.set i x) := fun y hy => by
  rcases List.mem_or_eq_of_mem_set hy with hy | rfl
  · exact h y hy
  · exact ⟨h0, h1⟩
theorem IsB.take {l : List Int} (h : IsB l) (n : Nat) : IsB (l.take n) := fun x hx => h x (List.mem_of_mem_take hx)
theorem IsB.drop {l : List Int} (h : IsB l) (n : Nat) : IsB (l.drop n) := fun x hx => h x (List.mem_of_mem_drop hx)
theorem IsB.zeros (n : Nat) : IsB (List.replicate n 0) := fun x hx => by obtain ⟨_, rfl⟩ := List.mem_replicate.1 hx; omega

theorem Below.lt {w : World} {a : Addr} {v : Value} (h : w.cell? a = some v) : a.block < w.heap.size := World.block_lt_of_cell? w a h

theorem Bs.below {w w' : World} {v : Value} {l : List Int} (h : Bs w v l) (hb : Below w.heap.size w w') : Bs w' v l := by
  obtain ⟨h1, o, c, h2, h3, h4, h5, h6⟩ := h
  refine ⟨h1, o, c, h2, h3, h4, h5, fun hne => ?_⟩
  obtain ⟨a, ha, hc⟩ := h6 hne
  exact ⟨a, ha, fun i hi => by rw [hb.cell (Below.lt (hc i hi))]; exact hc i hi⟩

theorem Ob.below {e : TypeId} {base : Nat} {w w' : World} {v : Value} {l : List Int} (h : Ob e base w v l) (hb : Below w.heap.size w w') : Ob e base w' v l := by
  refine ⟨h.1, h.2.1, ?_⟩
  rcases h.2.2 with hn | ⟨g, cap, cur, hv, hbg, hg, r⟩
  · exact .inl hn
  · exact .inr ⟨g, cap, cur, hv, hbg, by rw [hb.block g (Array.getElem?_eq_some_iff.1 hg).1]; exact hg, r⟩

theorem Ob.mono {e : TypeId} {base base' : Nat} {w : World} {v : Value} {l : List Int} (h : Ob e base w v l) (hb : base' ≤ base) : Ob e base' w v l := by
  refine ⟨h.1, h.2.1, ?_⟩
  rcases h.2.2 with hn | ⟨g, cap, cur, hv, hbg, hg, r⟩
  · exact .inl hn
  · exact .inr ⟨g, cap, cur, hv, by omega, hg, r⟩

theorem Ob.bs {e : TypeId} {base : Nat} {w : World} {v : Value} {l : List Int} (h : Ob e base w v l) : Bs w v l := by
  refine ⟨h.1, ?_⟩
  rcases h.2.2 with ⟨rfl, hn⟩ | ⟨g, cap, cur, rfl, hbg, hg, hn, hcm, hcs, ht⟩
  · have : l = [] := List.eq_nil_of_length_eq_zero hn
    subst this
    exact ⟨none, 0, rfl, by simp, by simp [maxLen], fun _ => rfl, fun h => absurd rfl h⟩
  · refine ⟨some ⟨g, 0, none⟩, cap, rfl, hn, hcm, by simp, fun _ => ⟨_, rfl, fun i hi => ?_⟩⟩
    refine h.2.cells (g := g) rfl i _ ?_
    rw [List.getElem?_map, List.getElem?_eq_getElem hi, getD_lt hi]
    rfl

/-- an owned row that is not nil: its block and what lies there -/
theorem Ob.row {e : TypeId} {base : Nat} {w : World} {v : Value} {l : List Int} (h : Ob e base w v l) (hne : l ≠ []) :
    ∃ g cap, v = .slice (some ⟨g, 0, none⟩) l.length cap ∧ base ≤ g ∧ g < w.heap.size ∧ l.length ≤ cap ∧ cap ≤ maxLen := by
  rcases h.2.2 with ⟨rfl, hn⟩ | ⟨g, cap, cur, rfl, hbg, hg, hn, hcm, hcs, ht⟩
  · exact absurd (List.eq_nil_of_length_eq_zero hn) hne
  · exact ⟨g, cap, rfl, hbg, (Array.getElem?_eq_some_iff.1 hg).1, hn, hcm⟩

theorem Ob.cell {e : TypeId} {base : Nat} {w : World} {g n cap : Nat} {l : List Int} (h : Ob e base w (.slice (some ⟨g, 0, none⟩) n cap) l) {i : Nat} (hi : i < l.length) :
    w.cell? ⟨g, i, none⟩ = some (.int .u8 (l.getD i 0)) := by
  have := h.2.cells (g := g) rfl i (.int .u8 (l.getD i 0)) (by rw [List.getElem?_map, List.getElem?_eq_getElem hi, getD_lt hi]; rfl)
  rw [← this]; congr 1
  unfold Addr.add; split <;> simp_all

theorem Ob.len {e : TypeId} {base : Nat} {w : World} {o : Option Addr} {n cap : Nat} {l : List Int} (h : Ob e base w (.slice o n cap) l) : n = l.length := by
  rcases h.2.2 with ⟨h, hn⟩ | ⟨g, cap, cur, h, _⟩
  · simp at h; omega
  · simp at h; omega

theorem Ob.frozen {e : TypeId} {base : Nat} {w : World} {g n cap : Nat} {l : List Int} (h : Ob e base w (.slice (some ⟨g, 0, none⟩) n cap) l) (i : Nat) :
    w.frozen? ⟨g, i, none⟩ = false := by
  obtain rfl := h.len
  exact h.2.frozenAt i

/-- a store into an owned row -/
theorem Ob.set {e : TypeId} {base : Nat} {w : World} {g n cap : Nat} {l : List Int} (h : Ob e base w (.slice (some ⟨g, 0, none⟩) n cap) l) (i : Nat) {x : Int} (h0 : 0 ≤ x) (h1 : x ≤ 255) :
    Ob e base (w.setCell ⟨g, i, none⟩ (.int .u8 x)) (.slice (some ⟨g, 0, none⟩) n cap) (l.set i x) := by
  obtain rfl := h.len
  refine ⟨h.1.set i h0 h1, ?_⟩
  have := (h.2.stored i (.int .u8 x)).1
  rw [List.map_set, List.length_set]
  exact this

/-- two numbers whose bits do not meet, joined -/
theorem or_shift (y x : Int) (s : Nat) (hs : s ≤ 56) (hy : 0 ≤ y) (hy' : y < 2 ^ s) (hx : 0 ≤ x) (hx' : x ≤ 255) :
    bits .or .u64 y (IntKind.u64.wrap (x * 2 ^ s)) = y + x * 2 ^ s := by
  obtain ⟨b, rfl⟩ := Int.eq_ofNat_of_zero_le hy
  obtain ⟨a, rfl⟩ := Int.eq_ofNat_of_zero_le hx
  have hp : (2 : Nat) ^ s ≤ 2 ^ 56 := Nat.pow_le_pow_right (by decide) hs
  have e2 : ((2 : Int) ^ s) = ((2 ^ s : Nat) : Int) := by simp
  have h1 : a * 2 ^ s ≤ 255 * 2 ^ s := Nat.mul_le_mul_right _ (by omega)
  rw [e2] at hy' ⊢
  rw [← Int.natCast_mul, IntKind.wrap_u64]
  have hb : b < 2 ^ s := by omega
  generalize hq : (2 : Nat) ^ s = q at *
  have h2 : ((a * q : Nat) : Int) % 18446744073709551616 = ((a * q : Nat) : Int) := Int.emod_eq_of_lt (by omega) (by omega)
  rw [h2, bits_or_u64_nat _ _ (by omega) (by omega)]
  have := Nat.two_pow_add_eq_or_of_lt (b := b) (i := s) (by omega) a
  rw [hq] at this
  rw [Nat.mul_comm a q, Nat.or_comm, ← this]
  omega

/-- bytes written out, in a new row -/
theorem Ob.lit {e : TypeId} {base : Nat} {w : World} (l : List Int) (cs : Array Value) (hcs : cs = (l.map (Value.int .u8)).toArray) (n : Nat) (hn : n = l.length) (h : IsB l) (hb : base ≤ w.heap.size) (hm : l.length ≤ 1000000000000) :
    Ob e base (w.alloc (.cells cs e)) (.slice (some ⟨w.heap.size, 0, none⟩) n n) l := by
  subst hcs hn
  refine ⟨h, ?_⟩
  have := World.ownsRow_lit (e := e) (size := 1) w (l.map (Value.int .u8)).toArray l.length hb (by simp [maxLen]; omega) (by simp)
  simpa using this
theorem Ob.one {e : TypeId} {base : Nat} {w : World} {x : Int} (h0 : 0 ≤ x) (h1 : x ≤ 255) (hb : base ≤ w.heap.size) :
    Ob e base (w.alloc (.cells #[.int .u8 x] e)) (.slice (some ⟨w.heap.size, 0, none⟩) 1 1) [x] :=
  Ob.lit [x] _ rfl 1 rfl (IsB.nil.cons h0 h1) hb (by simp)

theorem bdrew (B : Nat) (w : World) (n : Nat) : Below B w (w.drewN n) := ⟨rfl, rfl, rfl, Nat.le_refl _, fun _ _ => rfl⟩

theorem wf_i64 {n : Int} (h : (Lit.int .i64 n).wf = true) : -9223372036854775808 ≤ n ∧ n ≤ 9223372036854775807 := by
  simpa [Lit.wf, IntKind.min, IntKind.max, IntKind.signed, IntKind.bits] using h
theorem wf_u64 {n : Int} (h : (Lit.int .u64 n).wf = true) : 0 ≤ n ∧ n ≤ 18446744073709551615 := by
  simpa [Lit.wf, IntKind.min, IntKind.max, IntKind.signed, IntKind.bits] using h
theorem wf_u32 {n : Int} (h : (Lit.int .u32 n).wf = true) : 0 ≤ n ∧ n ≤ 4294967295 := by
  simpa [Lit.wf, IntKind.min, IntKind.max, IntKind.signed, IntKind.bits] using h
theorem wf_u8 {n : Int} (h : (Lit.int .u8 n).wf = true) : 0 ≤ n ∧ n ≤ 255 := by
  simpa [Lit.wf, IntKind.min, IntKind.max, IntKind.signed, IntKind.bits] using h

/-- bytes that came in, read -/
theorem bs_of_row {w : World} {a : Option Addr} {len cap : Nat} {zs : List Int}
    (h : (a = none ∧ len = 0 ∧ cap = 0 ∧ zs = []) ∨ ∃ x, a = some x ∧ len ≤ cap ∧ cap ≤ maxLen ∧ zs.length = cap ∧ (∀ i, i < zs.length → w.cell? (x.add i) = some (.int .u8 (zs.getD i 0))) ∧ ∀ n ∈ zs, (Lit.int .u8 n).wf = true) :
    ∃ l : List Int, l.length = len ∧ Bs w (.slice a len cap) l := by
  rcases h with ⟨rfl, rfl, rfl, rfl⟩ | ⟨x, rfl, h1, h2, h3, h4, h5⟩
  · exact ⟨[], rfl, Bs.nil w⟩
  · have hlen : (zs.take len).length = len := by rw [List.length_take]; omega
    refine ⟨zs.take len, hlen, fun y hy => wf_u8 (h5 y (List.mem_of_mem_take hy)), some x, cap, by rw [hlen], by omega, h2, by simp, fun _ => ⟨x, rfl, fun i hi => ?_⟩⟩
    rw [h4 i (by omega), getD_lt hi, getD_lt (show i < zs.length by omega), List.getElem_take]

/-- a slice value that reads as a list of numbers of one kind -/
def Ns (k : IntKind) (w : World) (v : Value) (l : List Int) : Prop :=
  (∀ x ∈ l, (Lit.int k x).wf = true) ∧ ∃ o cap, v = .slice o l.length cap ∧ l.length ≤ cap ∧ cap ≤ maxLen ∧ (o = none → cap = 0) ∧
    (l ≠ [] → ∃ a, o = some a ∧ ∀ i, i < l.length → w.cell? (a.add i) = some (.int k (l.getD i 0)))
theorem Ns.nil (k : IntKind) (w : World) : Ns k w (.slice none 0 0) [] := ⟨fun _ h => by simp at h, none, 0, rfl, by simp, by simp [maxLen], fun _ => rfl, fun h => absurd rfl h⟩
theorem Ns.at_ {ik : IntKind} {w : World} {o : Option Addr} {l : List Int} (h1 : ∀ x ∈ l, (Lit.int ik x).wf = true) (h : l ≠ [] → ∃ a, o = some a ∧ ∀ i, i < l.length → w.cell? (a.add i) = some (.int ik (l.getD i 0)))
    {k : Nat} (hk : k < l.length) : ∃ a x, o = some a ∧ w.cell? (a.add k) = some (.int ik x) ∧ Hid (l.getD k 0 = x) ∧ (Lit.int ik x).wf = true := by
  obtain ⟨a, ha, hc⟩ := h (by intro e; simp [e] at hk)
  have := h1 _ (List.getElem_mem hk)
  rw [← getD_lt (d := 0) hk] at this
  exact ⟨a, _, ha, hc k hk, rfl, this⟩
theorem Ns.below {ik : IntKind} {w w' : World} {v : Value} {l : List Int} (h : Ns ik w v l) (hb : Below w.heap.size w w') : Ns ik w' v l := by
  obtain ⟨h1, o, c, h2, h3, h4, h5, h6⟩ := h
  refine ⟨h1, o, c, h2, h3, h4, h5, fun hne => ?_⟩
  obtain ⟨a, ha, hc⟩ := h6 hne
  exact ⟨a, ha, fun i hi => by rw [hb.cell (Below.lt (hc i hi))]; exact hc i hi⟩
theorem ns_of_row {ik : IntKind} {w : World} {a : Option Addr} {len cap : Nat} {zs : List Int}
    (h : (a = none ∧ len = 0 ∧ cap = 0 ∧ zs = []) ∨ ∃ x, a = some x ∧ len ≤ cap ∧ cap ≤ maxLen ∧ zs.length = cap ∧ (∀ i, i < zs.length → w.cell? (x.add i) = some (.int ik (zs.getD i 0))) ∧ ∀ n ∈ zs, (Lit.int ik n).wf = true) :
    ∃ l : List Int, l.length = len ∧ Ns ik w (.slice a len cap) l := by
  rcases h with ⟨rfl, rfl, rfl, rfl⟩ | ⟨x, rfl, h1, h2, h3, h4, h5⟩
  · exact ⟨[], rfl, Ns.nil _ w⟩
  · have hlen : (zs.take len).length = len := by rw [List.length_take]; omega
    refine ⟨zs.take len, hlen, fun y hy => h5 y (List.mem_of_mem_take hy), some x, cap, by rw [hlen], by omega, h2, by simp, fun _ => ⟨x, rfl, fun i hi => ?_⟩⟩
    rw [h4 i (by omega), getD_lt hi, getD_lt (show i < zs.length by omega), List.getElem_take]

/-- the same world, but for draws -/
def Qw (a b : World) : Prop := ∃ n, b = a.drewN n
theorem Qw.refl (a : World) : Qw a a := ⟨0, rfl⟩
theorem Qw.drew {a b : World} (h : Qw a b) (n : Nat) : Qw a (b.drewN n) := by obtain ⟨m, rfl⟩ := h; exact ⟨m + n, World.drewN_drewN _ _ _⟩
theorem Qw.below {a b : World} (h : Qw a b) (B : Nat) : Below B a b := by obtain ⟨m, rfl⟩ := h; exact bdrew _ _ _
theorem Qw.cell {a b : World} (h : Qw a b) (p : Addr) : b.cell? p = a.cell? p := by obtain ⟨m, rfl⟩ := h; rfl
theorem Qw.frozen {a b : World} (h : Qw a b) (p : Addr) : b.frozen? p = a.frozen? p := by obtain ⟨m, rfl⟩ := h; rfl
theorem Qw.size {a b : World} (h : Qw a b) : b.heap.size = a.heap.size := by obtain ⟨m, rfl⟩ := h; rfl
theorem Qw.trans {a b c : World} (h : Qw a b) (k : Qw b c) : Qw a c := by obtain ⟨m, rfl⟩ := k; exact h.drew m

theorem quiet_eq {P : Program} {f : FuncId} {args : Array Value} {w : World} {n : Nat} {v : Value}
    (h : Calls P f args (w.drewN n) fun e w' => e = .returned v ∧ w.drewN n = w') : Calls P f args (w.drewN n) fun e w'' => e = .returned v ∧ ∃ m, w'' = w.drewN m :=
  h.mono fun _ _ ⟨he, hm⟩ => ⟨he, n, hm.symm⟩

theorem addr_add_add (a : Addr) (i j : Nat) : (a.add i).add j = a.add (i + j) := by
  unfold Addr.add
  by_cases hi : i = 0
  · subst hi; simp
  · by_cases hj : j = 0
    · subst hj; simp [hi]
    · simp [hi, hj, Nat.add_assoc]

/-- a part of a slice of bytes -/
theorem Bs.sub {w : World} {o : Option Addr} {n cap : Nat} {l : List Int} (h : Bs w (.slice o n cap) l) (lo hi : Nat) (h1 : lo ≤ hi) (h2 : hi ≤ l.length) :
    Bs w (.slice (if cap = lo then o else o.map (·.add lo)) (hi - lo) (cap - lo)) ((l.take hi).drop lo) := by
  obtain ⟨hl, o', c, he, hc1, hc2, hc3, hc4⟩ := h
  simp only [Value.slice.injEq] at he
  obtain ⟨rfl, rfl, rfl⟩ := he
  have hlen : ((l.take hi).drop lo).length = hi - lo := by rw [List.length_drop, List.length_take]; omega
  refine ⟨(hl.take hi).drop lo, _, _, by rw [hlen], by omega, by omega, ?_, fun hne => ?_⟩
  · intro hn
    split at hn
    · omega
    · have : o = none := by simpa using hn
      have := hc3 this
      omega
  · have hlt : lo < hi := by
      refine Nat.lt_of_not_le fun hge => hne ?_
      exact List.eq_nil_of_length_eq_zero (by omega)
    obtain ⟨a, rfl, hcell⟩ := hc4 (ne_nil_of_lt (k := lo) (by omega))
    refine ⟨a.add lo, by rw [if_neg (by omega)]; rfl, fun i hi' => ?_⟩
    rw [addr_add_add, hcell _ (by omega), getD_lt hi', getD_lt (by omega)]
    simp

theorem Bs.pre {w : World} {o : Option Addr} {n cap : Nat} {l : List Int} (h : Bs w (.slice o n cap) l) (m : Nat) (h2 : m ≤ l.length) : Bs w (.slice o m cap) (l.take m) := by
  have := h.sub 0 m (Nat.zero_le _) h2
  have e : (if cap = 0 then o else o.map (·.add 0)) = o := by
    cases o with
    | none => simp
    | some a => simp [Addr.add]
  rw [e, List.drop_zero] at this
  exact this

/-- a slice value that reads as a list of lists of bytes -/
def Rs (w : World) (v : Value) (L : List (List Int)) : Prop :=
  ∃ o cap, v = .slice o L.length cap ∧ L.length ≤ cap ∧ cap ≤ maxLen ∧ (o = none → cap = 0) ∧
    (L ≠ [] → ∃ a, o = some a ∧ ∀ i, i < L.length → ∃ u, w.cell? (a.add i) = some u ∧ Bs w u (L.getD i []))
theorem Rs.nil (w : World) : Rs w (.slice none 0 0) [] := ⟨none, 0, rfl, by simp, by simp [maxLen], fun _ => rfl, fun h => absurd rfl h⟩
/-- slices of bytes written out, in a new row -/
theorem Rs.lit {w : World} {e : TypeId} (us : List Value) (cs : Array Value) (hcs : cs = us.toArray) (L : List (List Int)) (n : Nat) (hn : n = L.length) (hlen : us.length = L.length) (hm : L.length ≤ 1000000000000)
    (h : ∀ i, i < L.length → Bs w (us.getD i undef) (L.getD i [])) : Rs (w.alloc (.cells cs e)) (.slice (some ⟨w.heap.size, 0, none⟩) n n) L := by
  subst hcs hn
  refine ⟨some ⟨w.heap.size, 0, none⟩, L.length, rfl, Nat.le_refl _, by simp [maxLen]; omega, by simp, fun _ => ⟨_, rfl, fun i hi => ⟨us.getD i undef, ?_, ?_⟩⟩⟩
  · have hadd : (⟨w.heap.size, 0, none⟩ : Addr).add i = ⟨w.heap.size, i, none⟩ := by unfold Addr.add; split <;> simp_all
    rw [hadd, cell_of_row (w.alloc (.cells us.toArray e)) w.heap.size i us.toArray e (0, 0) (heap_alloc_new w _), getD_lt (show i < us.length by omega)]
    simp [show i < us.length by omega]
  · exact (h i hi).below ((Below.refl _ _).alloc (Nat.le_refl _) _)
theorem Rs.at_ {w : World} {o : Option Addr} {L : List (List Int)} (h : L ≠ [] → ∃ a, o = some a ∧ ∀ i, i < L.length → ∃ u, w.cell? (a.add i) = some u ∧ Bs w u (L.getD i []))
    {k : Nat} (hk : k < L.length) : ∃ a u, o = some a ∧ w.cell? (a.add k) = some u ∧ Bs w u (L.getD k []) := by
  obtain ⟨a, ha, hc⟩ := h (by intro e; simp [e] at hk)
  obtain ⟨u, h1, h2⟩ := hc k hk
  exact ⟨a, u, ha, h1, h2⟩
theorem Rs.below {w w' : World} {v : Value} {L : List (List Int)} (h : Rs w v L) (hb : Below w.heap.size w w') : Rs w' v L := by
  obtain ⟨o, c, h2, h3, h4, h5, h6⟩ := h
  refine ⟨o, c, h2, h3, h4, h5, fun hne => ?_⟩
  obtain ⟨a, ha, hc⟩ := h6 hne
  refine ⟨a, ha, fun i hi => ?_⟩
  obtain ⟨u, h1, h2⟩ := hc i hi
  exact ⟨u, by rw [hb.cell (Below.lt h1)]; exact h1, h2.below hb⟩

/-- a block of three cells that the caller laid, behind a call that leaves old memory alone -/
theorem after3 {w w1 : World} {T : TypeId} {c0 c1 c2 : Value} (h : Below (w.alloc (.cells #[c0, c1, c2] T)).heap.size (w.alloc (.cells #[c0, c1, c2] T)) w1) :
    w1.cell? ⟨w.heap.size, 0, none⟩ = some c0 ∧ w1.cell? ⟨w.heap.size, 1, none⟩ = some c1 ∧ w1.cell? ⟨w.heap.size, 2, none⟩ = some c2 ∧
      w1.frozen? ⟨w.heap.size, 0, none⟩ = false ∧ w1.frozen? ⟨w.heap.size, 1, none⟩ = false ∧ w1.frozen? ⟨w.heap.size, 2, none⟩ = false ∧ w.heap.size < w1.heap.size := by
  have hs := h.size
  simp at hs
  refine ⟨?_, ?_, ?_, ?_, ?_, ?_, by omega⟩
  · rw [h.cell (by simp)]; simp [go_sem]
  · rw [h.cell (by simp)]; simp [go_sem]
  · rw [h.cell (by simp)]; simp [go_sem]
  · rw [h.frozen (by simp)]; simp [go_sem]
  · rw [h.frozen (by simp)]; simp [go_sem]
  · rw [h.frozen (by simp)]; simp [go_sem]

/-- string(b) of bytes that can be read -/
theorem Bs.str {P : Program} {w : World} {v : Value} {l : List Int} (h : Bs w v l) (src e dst : TypeId) (hs : P.underlying src = some (.slice e)) (he : P.underlying e = some (.int .u8)) (hd : P.underlying dst = some .string) :
    (convert src dst v).run P w = .ok (.string (strOfNums l)) w := by
  obtain ⟨_, o, c, rfl, _, _, _, hc⟩ := h
  cases o with
  | none =>
    have hm : l = [] := Classical.byContradiction fun hne => by obtain ⟨a, ha, _⟩ := hc hne; cases ha
    subst hm
    exact run_convert_bytes_nil w src e hs he 0 c dst hd
  | some a =>
    have hl : (loadCells a l.length).run P w = .ok (l.map (Value.int .u8)).toArray w := by
      have := run_loadCells_list (P := P) w a (l.map (Value.int .u8)) (fun j v hj => by
        rw [List.getElem?_map] at hj
        by_cases hjl : j < l.length
        · obtain ⟨a', ha, hcc⟩ := hc (ne_nil_of_lt hjl)
          cases ha
          rw [hcc j hjl, getD_lt hjl]
          rw [List.getElem?_eq_getElem hjl] at hj
          simpa using hj
        · rw [List.getElem?_eq_none (by omega)] at hj; simp at hj)
      simpa using this
    rw [run_convert_bytes_string w src dst e _ l.length c hs he hd, run_bytesToString w _ l.length c l hl, foldl_push_bytes]
    simp [strOfNums, ByteArray.empty, ByteArray.emptyWithCapacity]
    rfl
theorem strOfNums_inj {l m : List Int} (hl : IsB l) (hm : IsB m) (h : strOfNums l = strOfNums m) : l = m := by
  have h2 : l.map (fun n => UInt8.ofNat n.toNat) = m.map (fun n => UInt8.ofNat n.toNat) := by rw [← strOfNums_data, ← strOfNums_data, h]
  have hlen : l.length = m.length := by simpa using congrArg List.length h2
  apply List.ext_getElem hlen
  intro i h3 h4
  have h5 := congrArg (fun (q : List UInt8) => (q.getD i 0).toNat) h2
  have b1 := hl _ (List.getElem_mem h3)
  have b2 := hm _ (List.getElem_mem h4)
  simp [List.getD_eq_getElem?_getD, h3, h4] at h5
  omega

/-- a block of ten cells that the caller laid, behind a call that leaves old memory alone -/
theorem after10 {w w1 : World} {T : TypeId} {c0 c1 c2 c3 c4 c5 c6 c7 c8 c9 : Value} (h : Below (w.alloc (.cells #[c0, c1, c2, c3, c4, c5, c6, c7, c8, c9] T)).heap.size (w.alloc (.cells #[c0, c1, c2, c3, c4, c5, c6, c7, c8, c9] T)) w1) :
    w1.cell? ⟨w.heap.size, 0, none⟩ = some c0 ∧ w1.cell? ⟨w.heap.size, 1, none⟩ = some c1 ∧ w1.cell? ⟨w.heap.size, 2, none⟩ = some c2 ∧ w1.cell? ⟨w.heap.size, 3, none⟩ = some c3 ∧ w1.cell? ⟨w.heap.size, 4, none⟩ = some c4 ∧ w1.cell? ⟨w.heap.size, 5, none⟩ = some c5 ∧ w1.cell? ⟨w.heap.size, 6, none⟩ = some c6 ∧ w1.cell? ⟨w.heap.size, 7, none⟩ = some c7 ∧ w1.cell? ⟨w.heap.size, 8, none⟩ = some c8 ∧ w1.cell? ⟨w.heap.size, 9, none⟩ = some c9 ∧ w.heap.size < w1.heap.size := by
  have hs := h.size
  simp at hs
  refine ⟨?_, ?_, ?_, ?_, ?_, ?_, ?_, ?_, ?_, ?_, by omega⟩
  · rw [h.cell (by simp)]; simp [go_sem]
  · rw [h.cell (by simp)]; simp [go_sem]
  · rw [h.cell (by simp)]; simp [go_sem]
  · rw [h.cell (by simp)]; simp [go_sem]
  · rw [h.cell (by simp)]; simp [go_sem]
  · rw [h.cell (by simp)]; simp [go_sem]
  · rw [h.cell (by simp)]; simp [go_sem]
  · rw [h.cell (by simp)]; simp [go_sem]
  · rw [h.cell (by simp)]; simp [go_sem]
  · rw [h.cell (by simp)]; simp [go_sem]

theorem tmod_neg {n b : Int} (hb : 0 < b) (h : n.tmod b < 0) : n.tmod b + b = n % b := by
  rw [Int.tmod_eq_emod] at h ⊢
  split at h
  · have := Int.emod_nonneg n (show b ≠ 0 by omega); omega
  · rename_i hc; rw [if_neg hc]; omega
theorem tmod_pos {n b : Int} (hb : 0 < b) (h : 0 ≤ n.tmod b) : n.tmod b = n % b := by
  rw [Int.tmod_eq_emod] at h ⊢
  split at h
  · rename_i hc; rw [if_pos hc]; omega
  · have := Int.emod_lt_of_pos n hb; omega

def sameB (l m : List Int) : Bool := decide (l = m)
theorem sameB_iff {l m : List Int} : sameB l m = true ↔ l = m := by simp [sameB]

/-- what the walk needs to know of '[]byte' and 'byte' -/
structure ByteT (P : Program) (t e : TypeId) : Prop where
  sl : P.underlying t = some (.slice e)
  info : ∃ i : TypeInfo, P.info? e = some i ∧ i.zero = some (.int .u8 0) ∧ i.size = 1 ∧ i.bytes = 1

/-- append of bytes that can be read, onto an owned row -/
theorem ByteT.append {P : Program} {t e : TypeId} (T : ByteT P t e) (ty : TypeId) (w : World) (base : Nat) (v : Value) (l : List Int) (h : Ob e base w v l) (u : Value) (m : List Int) (hu : Bs w u m)
    (hlen : l.length + m.length ≤ 1000000000000) (hbase : base ≤ w.heap.size) :
    ∃ v' w', (Builtin.append_ #[t, t] ty #[v, u]).run P w = .ok v' w' ∧ Ob e base w' v' (l ++ m) ∧ w.grownBy w' v.ownBlock ∧ (v' = .slice none 0 0 ↔ v = .slice none 0 0 ∧ m = []) := by
  obtain ⟨i, hi, hz, hs, hb⟩ := T.info
  obtain ⟨hm1, o, c, rfl, hlc, hcm, hon, hcell⟩ := hu
  cases o with
  | none =>
    have hm : m = [] := Classical.byContradiction fun hne => by obtain ⟨a, ha, _⟩ := hcell hne; cases ha
    subst hm
    have hc0 := hon rfl
    subst hc0
    refine ⟨v, w, run_append_owned_none (P := P) w base t ty e i 1 T.sl hi v l.length _ h.2, ?_, ⟨rfl, rfl, rfl, Nat.le_refl _, fun _ _ _ => rfl⟩, by simp⟩
    rw [List.append_nil]; exact h
  | some a =>
    have hnews : ∀ j u, (m.map (Value.int .u8))[j]? = some u → w.cell? (a.add j) = some u := by
      intro j u hu
      rw [List.getElem?_map] at hu
      by_cases hj : j < m.length
      · obtain ⟨a', ha, hc⟩ := hcell (ne_nil_of_lt hj)
        cases ha
        rw [hc j hj, getD_lt hj]
        rw [List.getElem?_eq_getElem hj] at hu
        simpa using hu
      · rw [List.getElem?_eq_none (by omega)] at hu; simp at hu
    obtain ⟨v', w', hr, h1, h2, h3⟩ := run_append_own (P := P) w base t ty e i (.int .u8 0) 1 1 T.sl hi hz hs hb rfl (by decide) v l.length _ h.2 a m.length c (m.map (Value.int .u8)) (by simp) hnews
      (fun x hx => by obtain ⟨_, _, rfl⟩ := List.mem_map.1 hx; rfl) (by simp [maxLen]; omega) (by omega) hbase
    refine ⟨v', w', hr, ⟨h.1.append hm1, ?_⟩, h2, h3.trans (and_congr_right fun _ => List.length_eq_zero_iff)⟩
    rw [List.length_append, List.map_append]; exact h1

theorem zeroCells_one (z : Value) (n : Nat) : Builtin.zeroCells #[z] n = (List.replicate n z).toArray := by
  apply Array.toList_inj.1
  apply List.ext_getElem?
  intro j
  by_cases hj : j < n
  · simp [Builtin.zeroCells, hj, Nat.mod_one]
  · simp [Builtin.zeroCells, hj]

/-- append of so many zeros onto an owned row -/
theorem ByteT.appendZ {P : Program} {t e : TypeId} (T : ByteT P t e) (tn : TypeId) (kn : IntKind) (htn : P.underlying tn = some (.int kn)) (ty : TypeId) (w : World) (base : Nat) (v : Value) (l : List Int) (h : Ob e base w v l) (n : Nat) (hn : 0 < n)
    (hlen : l.length + n ≤ 1000000000000) (hbase : base ≤ w.heap.size) :
    ∃ v' w', (Builtin.append_ #[t, tn] ty #[v, .int .i64 n]).run P w = .ok v' w' ∧ Ob e base w' v' (l ++ List.replicate n 0) ∧ w.grownBy w' v.ownBlock := by
  obtain ⟨i, hi, hz, hs, hb⟩ := T.info
  have hrep : ∀ m, Builtin.zeroCells (Value.cells (.int .u8 0)) m = (List.replicate m (Value.int .u8 0)).toArray := fun m => zeroCells_one _ m
  have hlen' : (l ++ List.replicate n 0).length = l.length + n := by simp
  have hmap : (l ++ List.replicate n 0).map (Value.int .u8) = l.map (Value.int .u8) ++ List.replicate n (Value.int .u8 0) := by simp
  have fresh : ∀ (need old : Nat) (hneed : need = l.length + n) (row : Option Nat), Ob e base (w.drew.alloc (.cells ((l.map (Value.int .u8)).toArray ++ Builtin.zeroCells (Value.cells (.int .u8 0)) n ++ Builtin.zeroCells (Value.cells (.int .u8 0)) (grownCap w need old e - need)) e)) (.slice (some ⟨w.heap.size, 0, none⟩) need (grownCap w need old e)) (l ++ List.replicate n 0)
      ∧ w.grownBy (w.drew.alloc (.cells ((l.map (Value.int .u8)).toArray ++ Builtin.zeroCells (Value.cells (.int .u8 0)) n ++ Builtin.zeroCells (Value.cells (.int .u8 0)) (grownCap w need old e - need)) e)) row := by
    intro need old hneed row
    subst hneed
    have hge := grownCap_ge w (l.length + n) old e
    have hcm := grownCap_le_maxLen w (l.length + n) old e (by simp [maxLen]; omega)
    refine ⟨⟨h.1.append (IsB.zeros n), ?_⟩, ⟨rfl, rfl, rfl, by simp, fun k hk _ => Below.heap_alloc w.drew _ k hk⟩⟩
    rw [hlen', hmap]
    refine ⟨by simp, .inr ⟨w.heap.size, _, _, rfl, hbase, heap_alloc_new w.drew _, hge, hcm, ?_, ?_⟩⟩
    · rw [hrep, hrep]; simp; omega
    · rw [hrep, hrep]; simp only [Array.toList_append, Nat.mul_one]
      rw [List.take_append_of_le_length (by simp), List.take_of_length_le (by simp)]
  rcases h.2.2 with ⟨rfl, h0⟩ | ⟨g, cap, cur, rfl, hbg, hg, hnc, hcm, hcs, htake⟩
  · have hl : l = [] := List.eq_nil_of_length_eq_zero h0
    subst hl
    have hr := Lib.run_append_nil_zeros (P := P) w t tn ty e i _ .i64 kn T.sl htn hi hz n hn (by omega) (by omega) (by rw [hb]; omega)
    have hf := fresh n 0 (by simp) (Value.ownBlock (.slice none 0 0))
    simp only [List.map_nil, Array.empty_append, List.nil_append] at hf ⊢
    exact ⟨_, _, hr, hf.1, hf.2⟩
  · by_cases hroom : l.length + n ≤ cap
    · have hst := run_storeCells_at P g l.length e (List.replicate n (Value.int .u8 0)) 0 cur w hg (by simp; omega) (fun v hv => by rw [(List.mem_replicate.1 hv).2]; rfl)
      simp only [Nat.add_zero] at hst
      refine ⟨.slice (some ⟨g, 0, none⟩) (l.length + n) cap, w.setRow g (cur.toList.take l.length ++ List.replicate n (Value.int .u8 0) ++ cur.toList.drop (l.length + n)).toArray, ?_, ⟨h.1.append (IsB.zeros n), ?_⟩, ⟨rfl, rfl, rfl, by simp, fun k _ hk => setRow_other w g k _ (fun e => hk (by simp [Value.ownBlock, e]))⟩⟩
      · have hw : IntKind.i64.wrap (n : Int) = n := by rw [IntKind.wrap_i64]; omega
        have hneg : ¬ ((n : Int) < 0) := by omega
        have h48 : ¬ (281474976710656 < (n : Int)) := by omega
        have hns : ¬ n = 0 := by omega
        have hz2 : Builtin.zeroCells #[Value.int IntKind.u8 0] n = (List.replicate n (Value.int .u8 0)).toArray := zeroCells_one _ _
        simp [Builtin.append_, run_underlying T.sl, run_underlying htn, sizeOf, typeInfo, zeroValue, hi, hz, hs, hb, asInt, asIntOf, hw, hneg, h48, hns, hroom, Addr.add_lit, Value.cells, hz2] at hst ⊢
        simp [hst]
      · rw [hlen', hmap]
        refine ⟨by simp, .inr ⟨g, cap, _, rfl, hbg, setRow_heap w g cur _ e _ hg, hroom, hcm, by simp; omega, ?_⟩⟩
        rw [← htake]
        simp only [Nat.mul_one]
        rw [List.take_append_of_le_length (by simp; omega), List.take_of_length_le (by simp; omega)]
    · have hold : (Builtin.firstCells i.size l.length (.slice (some ⟨g, 0, none⟩) l.length cap)).run P w.drew = .ok (l.map (Value.int .u8)).toArray w.drew := by
        refine run_firstCells_some (P := P) w.drew i.size l.length ⟨g, 0, none⟩ l.length cap (l.map (Value.int .u8)) (by rw [hs]; simp) ?_
        exact fun j u hu => h.2.cells (g := g) rfl j u hu
      have hr := Lib.run_append_grow_zeros (P := P) w t tn ty e i _ .i64 kn T.sl htn hi hz (some ⟨g, 0, none⟩) l.length cap _ hold n hn (by omega) (by omega) (by omega) (by rw [hb]; omega) (by rw [hb]; have := growslice_fits (need := l.length + n) (old := cap) (bytes := 1) (by omega) (by omega); omega)
      have hf := fresh (l.length + n) cap rfl (Value.ownBlock (.slice (some ⟨g, 0, none⟩) l.length cap))
      exact ⟨_, _, hr, hf.1, hf.2⟩

theorem Ob.grown {e : TypeId} {base B : Nat} {w0 w w' : World} {v : Value} {l : List Int} (h : Ob e base w v l) (hg : w.grownBy w' v.ownBlock) (hb : Below B w0 w) (h1 : B ≤ base) (h2 : B ≤ w.heap.size) : Below B w0 w' :=
  hb.grown hg h2 fun k hk => Nat.le_trans h1 (h.2.lt k hk).1

theorem Ob.made {e : TypeId} {base : Nat} {w : World} (cur : Array Value) (cap : Nat) (hb : base ≤ w.heap.size) (hm : cap ≤ maxLen) (hs : cur.size = cap) :
    Ob e base (w.alloc (.cells cur e)) (.slice (some ⟨w.heap.size, 0, none⟩) 0 cap) [] :=
  ⟨IsB.nil, by simpa using World.ownsRow_made (size := 1) w cur cap hb hm (by simpa using hs)⟩

theorem Ob.nil {e : TypeId} {base : Nat} {w : World} : Ob e base w (.slice none 0 0) [] := ⟨IsB.nil, World.ownsRow_nil _ _ _ _⟩

/-- make([]byte, l, c) -/
theorem ByteT.make {P : Program} {t e : TypeId} (T : ByteT P t e) (w : World) (base : Nat) (kl kc : IntKind) (n c : Int) (h0 : 0 ≤ n) (hnc : n ≤ c) (hc : c ≤ 1000000000000) (hbase : base ≤ w.heap.size) :
    ∃ cur, (Instr.makeSlice t (.int kl n) (.int kc c)).run P w = .ok (.slice (some ⟨w.heap.size, 0, none⟩) n.toNat c.toNat) (w.alloc (.cells cur e)) ∧
      Ob e base (w.alloc (.cells cur e)) (.slice (some ⟨w.heap.size, 0, none⟩) n.toNat c.toNat) (List.replicate n.toNat 0) := by
  obtain ⟨i, hi, hz, hs, hb⟩ := T.info
  have hr := run_make (P := P) w t e i _ T.sl hi hz kl kc n c h0 hnc (by rw [hb]; omega) (by omega)
  refine ⟨_, hr, IsB.zeros _, ?_⟩
  have hsz : (madeCells (Value.int .u8 0).cells (c.toNat * i.size)).size = c.toNat * 1 := by rw [size_madeCells, hs]
  refine ⟨by simp, .inr ⟨w.heap.size, c.toNat, _, ?_, hbase, heap_alloc_new w _, by simp; omega, by simp [maxLen]; omega, hsz, ?_⟩⟩
  · simp
  · rw [hs]
    show List.take _ (madeCells #[Value.int .u8 0] (c.toNat * 1)).toList = _
    rw [toList_madeCells_one, List.take_replicate, List.map_replicate, List.length_replicate]
    congr 1; omega

/-- append, where its run is known, behind a guard that says yes -/
theorem wpList_append_run_g {P : Program} (w : World) {ops : Array Oper} {rest : List Oper} {o : Oper} {a : Act} {Q : Exit → Act → World → Prop} (hgd : Region.wanted o (yielded ops a.tmps) = true) (s x : Operand) (t tn : TypeId)
    (ho : o.op = .call { callee := .builtin .append, args := #[s, x], argTypes := #[t, tn] }) (vs vx : Value) (hs : a.eval s = vs) (hx : a.eval x = vx)
    (v' : Value) (w' : World) (hr : (Builtin.append_ #[t, tn] o.type #[vs, vx]).run P w = .ok v' w') (h : wpList P ops Q rest (a.put o.dst v') w') : wpList P ops Q (o :: rest) a w :=
  wpList_step fun K hK => by rw [if_pos hgd]; exact Lib.wp_append_run w s x t tn ho vs vx hs hx v' w' hr (hK _ _ h)
end Go.Proofs.YtpgelebmhhcodaaDoor
