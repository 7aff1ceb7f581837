/- Contract: rec.Same ('==' of two records). -/
import Derived.Test.YtabpmpaeakebmaaDoorProg
import Derived.Test.YtabpmpaeakebmaaDoorRecS
import Derived.Laws.StructEq
namespace Go.Proofs.YtabpmpaeakebmaaDoor
open Go.RowKit
set_option linter.unusedVariables false

theorem eqf_step {P : Program} {d : Nat} {xs ys : Array Value} {f : Field} {fs : List Field} {a b : Value} {r s : Bool} {w : World} (hn : f.name ≠ "_") (ha : (part f.type xs f.offset).run P w = .ok a w) (hb : (part f.type ys f.offset).run P w = .ok b w)
    (he : (Op.equalIn d f.type a b).run P w = .ok r w) (hr : (Op.eqFields d xs ys fs).run P w = .ok s w) : (Op.eqFields d xs ys (f :: fs)).run P w = .ok (r && s) w := by
  rw [Op.eqFields]
  simp only [if_pos hn, Sem.run_bind, ha, hb, he, Result.andThen_ok]
  cases r
  · simp
  · simpa using hr
theorem eqf_nil {P : Program} {d : Nat} {xs ys : Array Value} {w : World} : (Op.eqFields d xs ys []).run P w = .ok true w := by simp [Op.eqFields]

/-- '==' of two records, in whatever program that lays them so -/
theorem eql_rec {P : Program} {t ti tb tl : TypeId} (hu : P.underlying t = some (.struct (P.fieldsOf t))) (hp : P.stoodInHeld t = false) (hi : P.underlying ti = some (.int .i64)) (hb : P.underlying tb = some .bool) (hl : P.underlying tl = some (.int .i64))
    (hs : (P.fieldsOf t).toList.map (fun f => (f.name, f.type, f.offset)) = [("Kind", ti, 0), ("Txn", ti, 1), ("Page", ti, 2), ("Prev", ti, 3), ("Next", ti, 4), ("Key", ti, 5), ("Had", tb, 6), ("Has", tb, 7), ("Old", tl, 8), ("New", tl, 9)])
    (p0 : ∀ (c0 c1 c2 c3 c4 c5 c6 c7 c8 c9 : Value) (w : World), (part ti #[c0, c1, c2, c3, c4, c5, c6, c7, c8, c9] 0).run P w = .ok c0 w) (p1 : ∀ (c0 c1 c2 c3 c4 c5 c6 c7 c8 c9 : Value) (w : World), (part ti #[c0, c1, c2, c3, c4, c5, c6, c7, c8, c9] 1).run P w = .ok c1 w) (p2 : ∀ (c0 c1 c2 c3 c4 c5 c6 c7 c8 c9 : Value) (w : World), (part ti #[c0, c1, c2, c3, c4, c5, c6, c7, c8, c9] 2).run P w = .ok c2 w) (p3 : ∀ (c0 c1 c2 c3 c4 c5 c6 c7 c8 c9 : Value) (w : World), (part ti #[c0, c1, c2, c3, c4, c5, c6, c7, c8, c9] 3).run P w = .ok c3 w) (p4 : ∀ (c0 c1 c2 c3 c4 c5 c6 c7 c8 c9 : Value) (w : World), (part ti #[c0, c1, c2, c3, c4, c5, c6, c7, c8, c9] 4).run P w = .ok c4 w) (p5 : ∀ (c0 c1 c2 c3 c4 c5 c6 c7 c8 c9 : Value) (w : World), (part ti #[c0, c1, c2, c3, c4, c5, c6, c7, c8, c9] 5).run P w = .ok c5 w) (p6 : ∀ (c0 c1 c2 c3 c4 c5 c6 c7 c8 c9 : Value) (w : World), (part tb #[c0, c1, c2, c3, c4, c5, c6, c7, c8, c9] 6).run P w = .ok c6 w) (p7 : ∀ (c0 c1 c2 c3 c4 c5 c6 c7 c8 c9 : Value) (w : World), (part tb #[c0, c1, c2, c3, c4, c5, c6, c7, c8, c9] 7).run P w = .ok c7 w) (p8 : ∀ (c0 c1 c2 c3 c4 c5 c6 c7 c8 c9 : Value) (w : World), (part tl #[c0, c1, c2, c3, c4, c5, c6, c7, c8, c9] 8).run P w = .ok c8 w) (p9 : ∀ (c0 c1 c2 c3 c4 c5 c6 c7 c8 c9 : Value) (w : World), (part tl #[c0, c1, c2, c3, c4, c5, c6, c7, c8, c9] 9).run P w = .ok c9 w)
    (a b : RecD) (w : World) : (binOp .eql t (recV a) (recV b)).run P w = .ok (.bool (sameRB a b)) w := by
  generalize hF : (P.fieldsOf t).toList = F at hs
  obtain ⟨kind1, txn1, page1, prev1, next1, key1, had1, has1, old1, new1⟩ := a
  obtain ⟨kind2, txn2, page2, prev2, next2, key2, had2, has2, old2, new2⟩ := b
  unfold recV
  rw [run_eql_struct, run_equalIn_struct _ 9999 _ _ _ hu hp, hF]
  simp only [List.map_eq_cons_iff, List.map_eq_nil_iff] at hs
  obtain ⟨f0, F0, rfl, h0, f1, F1, rfl, h1, f2, F2, rfl, h2, f3, F3, rfl, h3, f4, F4, rfl, h4, f5, F5, rfl, h5, f6, F6, rfl, h6, f7, F7, rfl, h7, f8, F8, rfl, h8, f9, F9, rfl, h9, rfl⟩ := hs
  obtain ⟨n0, t0, o0⟩ : f0.name = _ ∧ f0.type = _ ∧ f0.offset = _ := by simpa only [Prod.mk.injEq] using h0
  obtain ⟨n1, t1, o1⟩ : f1.name = _ ∧ f1.type = _ ∧ f1.offset = _ := by simpa only [Prod.mk.injEq] using h1
  obtain ⟨n2, t2, o2⟩ : f2.name = _ ∧ f2.type = _ ∧ f2.offset = _ := by simpa only [Prod.mk.injEq] using h2
  obtain ⟨n3, t3, o3⟩ : f3.name = _ ∧ f3.type = _ ∧ f3.offset = _ := by simpa only [Prod.mk.injEq] using h3
  obtain ⟨n4, t4, o4⟩ : f4.name = _ ∧ f4.type = _ ∧ f4.offset = _ := by simpa only [Prod.mk.injEq] using h4
  obtain ⟨n5, t5, o5⟩ : f5.name = _ ∧ f5.type = _ ∧ f5.offset = _ := by simpa only [Prod.mk.injEq] using h5
  obtain ⟨n6, t6, o6⟩ : f6.name = _ ∧ f6.type = _ ∧ f6.offset = _ := by simpa only [Prod.mk.injEq] using h6
  obtain ⟨n7, t7, o7⟩ : f7.name = _ ∧ f7.type = _ ∧ f7.offset = _ := by simpa only [Prod.mk.injEq] using h7
  obtain ⟨n8, t8, o8⟩ : f8.name = _ ∧ f8.type = _ ∧ f8.offset = _ := by simpa only [Prod.mk.injEq] using h8
  obtain ⟨n9, t9, o9⟩ : f9.name = _ ∧ f9.type = _ ∧ f9.offset = _ := by simpa only [Prod.mk.injEq] using h9
  have e10 := @eqf_nil P 9999 (#[.int .i64 kind1, .int .i64 txn1, .int .i64 page1, .int .i64 prev1, .int .i64 next1, .int .i64 key1, .bool had1, .bool has1, .int .i64 old1, .int .i64 new1]) (#[.int .i64 kind2, .int .i64 txn2, .int .i64 page2, .int .i64 prev2, .int .i64 next2, .int .i64 key2, .bool had2, .bool has2, .int .i64 old2, .int .i64 new2]) w
  have e9 := eqf_step (f := f9) (by rw [n9]; decide) (by rw [t9, o9]; exact p9 _ _ _ _ _ _ _ _ _ _ w) (by rw [t9, o9]; exact p9 _ _ _ _ _ _ _ _ _ _ w) (by rw [t9]; exact run_equalIn_int _ 9998 _ _ _ _ _ hl) e10
  have e8 := eqf_step (f := f8) (by rw [n8]; decide) (by rw [t8, o8]; exact p8 _ _ _ _ _ _ _ _ _ _ w) (by rw [t8, o8]; exact p8 _ _ _ _ _ _ _ _ _ _ w) (by rw [t8]; exact run_equalIn_int _ 9998 _ _ _ _ _ hl) e9
  have e7 := eqf_step (f := f7) (by rw [n7]; decide) (by rw [t7, o7]; exact p7 _ _ _ _ _ _ _ _ _ _ w) (by rw [t7, o7]; exact p7 _ _ _ _ _ _ _ _ _ _ w) (by rw [t7]; exact run_equalIn_bool' _ 9998 _ _ _ hb) e8
  have e6 := eqf_step (f := f6) (by rw [n6]; decide) (by rw [t6, o6]; exact p6 _ _ _ _ _ _ _ _ _ _ w) (by rw [t6, o6]; exact p6 _ _ _ _ _ _ _ _ _ _ w) (by rw [t6]; exact run_equalIn_bool' _ 9998 _ _ _ hb) e7
  have e5 := eqf_step (f := f5) (by rw [n5]; decide) (by rw [t5, o5]; exact p5 _ _ _ _ _ _ _ _ _ _ w) (by rw [t5, o5]; exact p5 _ _ _ _ _ _ _ _ _ _ w) (by rw [t5]; exact run_equalIn_int _ 9998 _ _ _ _ _ hi) e6
  have e4 := eqf_step (f := f4) (by rw [n4]; decide) (by rw [t4, o4]; exact p4 _ _ _ _ _ _ _ _ _ _ w) (by rw [t4, o4]; exact p4 _ _ _ _ _ _ _ _ _ _ w) (by rw [t4]; exact run_equalIn_int _ 9998 _ _ _ _ _ hi) e5
  have e3 := eqf_step (f := f3) (by rw [n3]; decide) (by rw [t3, o3]; exact p3 _ _ _ _ _ _ _ _ _ _ w) (by rw [t3, o3]; exact p3 _ _ _ _ _ _ _ _ _ _ w) (by rw [t3]; exact run_equalIn_int _ 9998 _ _ _ _ _ hi) e4
  have e2 := eqf_step (f := f2) (by rw [n2]; decide) (by rw [t2, o2]; exact p2 _ _ _ _ _ _ _ _ _ _ w) (by rw [t2, o2]; exact p2 _ _ _ _ _ _ _ _ _ _ w) (by rw [t2]; exact run_equalIn_int _ 9998 _ _ _ _ _ hi) e3
  have e1 := eqf_step (f := f1) (by rw [n1]; decide) (by rw [t1, o1]; exact p1 _ _ _ _ _ _ _ _ _ _ w) (by rw [t1, o1]; exact p1 _ _ _ _ _ _ _ _ _ _ w) (by rw [t1]; exact run_equalIn_int _ 9998 _ _ _ _ _ hi) e2
  have e0 := eqf_step (f := f0) (by rw [n0]; decide) (by rw [t0, o0]; exact p0 _ _ _ _ _ _ _ _ _ _ w) (by rw [t0, o0]; exact p0 _ _ _ _ _ _ _ _ _ _ w) (by rw [t0]; exact run_equalIn_int _ 9998 _ _ _ _ _ hi) e1
  rw [e0]
  simp [sameRB, Result.andThen]

theorem eqlRec (a b : RecD) (w : World) : (binOp .eql 50 (recV a) (recV b)).run Tryd.prog w = .ok (.bool (sameRB a b)) w :=
  eql_rec (ti := 3) (tb := 4) (tl := 2) (by kernel_rfl) (by kernel_rfl) Tryd.underlying3 Tryd.underlying4 Tryd.underlying2 (by kernel_rfl)
    (fun _ _ _ _ _ _ _ _ _ _ _ => by kernel_rfl) (fun _ _ _ _ _ _ _ _ _ _ _ => by kernel_rfl) (fun _ _ _ _ _ _ _ _ _ _ _ => by kernel_rfl) (fun _ _ _ _ _ _ _ _ _ _ _ => by kernel_rfl) (fun _ _ _ _ _ _ _ _ _ _ _ => by kernel_rfl) (fun _ _ _ _ _ _ _ _ _ _ _ => by kernel_rfl) (fun _ _ _ _ _ _ _ _ _ _ _ => by kernel_rfl) (fun _ _ _ _ _ _ _ _ _ _ _ => by kernel_rfl) (fun _ _ _ _ _ _ _ _ _ _ _ => by kernel_rfl) (fun _ _ _ _ _ _ _ _ _ _ _ => by kernel_rfl) a b w

/-- Same -/
theorem recSame (a b : RecD) (w : World) : Calls Tryd.prog 32 #[recV a, recV b] w fun e w' => e = .returned (.bool (sameRB a b)) ∧ Below w.heap.size w w' := by
  have hq := fun w' => eqlRec a b w'
  have hb : ∀ o1 o2, Below w.heap.size w ((w.alloc o1).alloc o2) := fun o1 o2 => ((Below.refl _ _).alloc (Nat.le_refl _) o1).alloc (by simp) o2
  generalize hr : sameRB a b = r at hq
  have HR := Lib.hid hr
  clear hr
  obtain ⟨kind1, txn1, page1, prev1, next1, key1, had1, has1, old1, new1⟩ := a
  obtain ⟨kind2, txn2, page2, prev2, next2, key2, had2, has2, old2, new2⟩ := b
  unfold recV at *
  go_enter Tryd.func32, Tryd.ntmps32
  go_wp2_with fail
  go_ret
  exact ⟨rfl, hb _ _⟩
end Go.Proofs.YtabpmpaeakebmaaDoor
