/-
  Layer 4: Compare.
-/
import Derived.Test.YtimoenpfnaaehaaO4
import Derived.Lib.Bytealg
import Derived.Deep.Quiet
namespace Go.Proofs.Ytimoenpfnaaehaa
open Go.RowKit

/-- Two texts in order. -/
def cmpS (a b : ByteArray) : Int := Lib.compareBytes a.data.toList b.data.toList
theorem ext77 (a b : ByteArray) (w : World) : (callFunc 77 #[.string a, .string b]).run Try.prog w = .ok (.value (.int .i64 (cmpS a b))) w := by
  rw [run_callFunc_extern (e := Extern.BytealgCompare.compare) Try.func77 rfl rfl (by kernel_rfl) (by kernel_rfl), Lib.run_compareString]
  rfl

theorem strcmp_is (a b : ByteArray) (w : World) : Calls Try.prog 53 #[.string a, .string b] w (Same (.int .i64 (cmpS a b)) w) := by
  have e1 := ext77
  go_enter Try.func53, Try.ntmps53
  go_wp2
  go_ret
  exact same_ret rfl

def cmpB (a b : Bool) : Int := if a = b then 0 else if b then -1 else 1
theorem bools_is (a b : Bool) (w : World) : Calls Try.prog 49 #[.bool a, .bool b] w (Same (.int .i64 (cmpB a b)) w) := by
  cases a <;> cases b
  all_goals
    go_enter Try.func49, Try.ntmps49
    go_wp2_with fail
    go_ret
    exact same_ret rfl

/-- a, or b where a is none -/
def orI (a b : Int) : Int := if a ≠ 0 then a else b

/-- Two items in order. -/
def It.cmp (x y : It) : Int :=
  if x.k ≠ y.k ∨ x.ok = false ∨ y.ok = false then cmpI x.k y.k
  else if x.k = 2 then cmpB x.b y.b else if x.k = 3 then cmpI x.n y.n else if x.k = 4 then cmpF x.f y.f
  else if x.k = 5 then orI (cmpF x.re y.re) (cmpF x.im y.im) else if x.k = 6 then cmpS x.t y.t else 0

def OrRel (a b : Int) (w : World) (i : Value) (wr : World) : Prop := wr = w ∧ ∃ k : Nat, i = .int .i64 k ∧ (k = 0 ∨ k = 1 ∧ a = 0 ∨ k = 2 ∧ a = 0 ∧ b = 0)
set_option maxHeartbeats 400000 in
theorem or_is (a b : Int) (w : World) (g : Nat) (h0 : w.cell? ⟨g, 0, none⟩ = some (.int .i64 a)) (h1 : w.cell? ⟨g, 1, none⟩ = some (.int .i64 b)) :
    Calls Try.prog 52 #[.slice (some ⟨g, 0, none⟩) 2 2] w (Same (.int .i64 (orI a b)) w) := by
  go_enter Try.func52, Try.ntmps52
  go_wp2_with fail
  go_loopw [8] (fun i wr => OrRel a b w i wr) (fun i _ => 2 - (intOf i).toNat)
  case atStart => exact ⟨rfl, 0, rfl, .inl rfl⟩
  case round =>
    obtain ⟨rfl, k, rfl, hk⟩ := hrel
    rcases hk with rfl | ⟨rfl, rfl⟩ | ⟨rfl, rfl, rfl⟩
    · by_cases ha : a = 0
      · subst ha
        go_wp2_with fail
        go_roundw
        case rel => exact ⟨rfl, 1, by go_num, .inr (.inl ⟨rfl, rfl⟩)⟩
        case measure => simp [intOf]
      · have hb : (a != 0) = true := by simpa using ha
        have HC := Lib.hid (show orI a b = a by unfold orI; rw [if_pos ha])
        clear ha
        go_wp2_with fail
        go_ret
        exact same_ret (by rw [HC.out]; rfl)
    · by_cases hb0 : b = 0
      · subst hb0
        go_wp2_with fail
        go_roundw
        case rel => exact ⟨rfl, 2, by go_num, .inr (.inr ⟨rfl, rfl, rfl⟩)⟩
        case measure => simp [intOf]
      · have hb : (b != 0) = true := by simpa using hb0
        clear hb0
        go_wp2_with fail
        go_ret
        exact same_ret rfl
    · go_wp2_with fail
      go_ret
      exact same_ret rfl

section
variable (k k' : Int) (b b' : Bool) (n n' : Int) (f f' re re' im im' : Nat) (t t' : ByteArray) (w : World)

set_option maxHeartbeats 1000000 in
theorem compare_kinds (h : k ≠ k') : Calls Try.prog 25 #[.agg (itC k b n f re im t), .agg (itC k' b' n' f' re' im' t')] w (Ans (.int .i64 (cmpI k k')) w) := by
  have hb : (k != k') = true := by simpa using h
  clear h
  go_enter Try.func25, Try.ntmps25
  go_wp2_with fail
  refine (cmp_int _ _ _).mono ?_; rintro e w1 ⟨rfl, rfl⟩
  go_wp2_with fail
  go_ret
  exact ⟨rfl, ((Only.refl _ _).alloc _).alloc _⟩

set_option maxRecDepth 100000 in
set_option maxHeartbeats 1000000 in
theorem compare_no1 (h : It.ok ⟨k, b, n, f, re, im, t⟩ = false) : Calls Try.prog 25 #[.agg (itC k b n f re im t), .agg (itC k b' n' f' re' im' t')] w (Ans (.int .i64 (cmpI k k)) w) := by
  have HC := fun u => Lib.hid (check_is ⟨k, b, n, f, re, im, t⟩ u)
  simp only [h] at HC
  clear h
  obtain ⟨B1, B2, O⟩ := new2 w 29 29 (itC k b n f re im t) (itC k b' n' f' re' im' t')
  have HO := Lib.hid O
  clear O
  go_enter Try.func25, Try.ntmps25
  go_upto_region 1 with (fail)
  generalize (w.alloc (.cells (itC k b n f re im t) 29)).alloc (.cells (itC k b' n' f' re' im' t') 29) = W at *
  obtain ⟨c0, c1, c2, c3, c4, c5⟩ := blk6 B1
  have d0 := (blk6 B2).1
  go_wp2_with fail
  refine (HC _).out.mono ?_; rintro e w1 ⟨rfl, ho1⟩
  clear c0 c1 c2 c3 c4 c5 d0
  have e0 := (blk6 (B1.only ho1 (fun h => h))).1
  have e1 := (blk6 (B2.only ho1 (fun h => h))).1
  have HO1 := Lib.hid (HO.out.trans ho1)
  clear ho1
  go_wp2_with fail
  refine (cmp_int _ _ _).mono ?_; rintro e w2 ⟨rfl, rfl⟩
  go_wp2_with fail
  go_ret
  exact ⟨rfl, HO1.out⟩

set_option maxRecDepth 100000 in
set_option maxHeartbeats 1000000 in
theorem compare_no2 (h0 : It.ok ⟨k, b, n, f, re, im, t⟩ = true) (h : It.ok ⟨k, b', n', f', re', im', t'⟩ = false) : Calls Try.prog 25 #[.agg (itC k b n f re im t), .agg (itC k b' n' f' re' im' t')] w (Ans (.int .i64 (cmpI k k)) w) := by
  have HC := fun u => Lib.hid (check_is ⟨k, b, n, f, re, im, t⟩ u)
  have HD := fun u => Lib.hid (check_is ⟨k, b', n', f', re', im', t'⟩ u)
  simp only [h0] at HC
  simp only [h] at HD
  clear h h0
  obtain ⟨B1, B2, O⟩ := new2 w 29 29 (itC k b n f re im t) (itC k b' n' f' re' im' t')
  have HO := Lib.hid O
  clear O
  go_enter Try.func25, Try.ntmps25
  go_upto_region 1 with (fail)
  generalize (w.alloc (.cells (itC k b n f re im t) 29)).alloc (.cells (itC k b' n' f' re' im' t') 29) = W at *
  obtain ⟨c0, c1, c2, c3, c4, c5⟩ := blk6 B1
  have d0 := (blk6 B2).1
  go_wp2_with fail
  refine (HC _).out.mono ?_; rintro e w1 ⟨rfl, ho1⟩
  have E1 := B1.only ho1 (fun h => h)
  have E2 := B2.only ho1 (fun h => h)
  clear c0 c1 c2 c3 c4 c5 d0
  have c0 := (blk6 E1).1
  obtain ⟨d0, d1, d2, d3, d4, d5⟩ := blk6 E2
  have HO1 := Lib.hid (HO.out.trans ho1)
  clear ho1
  go_wp2_with fail
  refine (HD _).out.mono ?_; rintro e w2 ⟨rfl, ho2⟩
  clear c0 d0 d1 d2 d3 d4 d5
  have e0 := (blk6 (E1.only ho2 (fun h => h))).1
  have e1 := (blk6 (E2.only ho2 (fun h => h))).1
  have HO2 := Lib.hid (HO1.out.trans ho2)
  clear ho2
  go_wp2_with fail
  refine (cmp_int _ _ _).mono ?_; rintro e w2 ⟨rfl, rfl⟩
  go_wp2_with fail
  go_ret
  exact ⟨rfl, HO2.out⟩
set_option maxRecDepth 100000 in
set_option maxHeartbeats 1000000 in
theorem compare_1 (h0 : It.ok ⟨1, b, n, f, re, im, t⟩ = true) (h : It.ok ⟨1, b', n', f', re', im', t'⟩ = true) : Calls Try.prog 25 #[.agg (itC 1 b n f re im t), .agg (itC 1 b' n' f' re' im' t')] w (Ans (.int .i64 (0)) w) := by
  have HC := fun u => Lib.hid (check_is ⟨1, b, n, f, re, im, t⟩ u)
  have HD := fun u => Lib.hid (check_is ⟨1, b', n', f', re', im', t'⟩ u)
  simp only [h0] at HC
  simp only [h] at HD
  clear h h0
  obtain ⟨B1, B2, O⟩ := new2 w 29 29 (itC 1 b n f re im t) (itC 1 b' n' f' re' im' t')
  have HO := Lib.hid O
  clear O
  go_enter Try.func25, Try.ntmps25
  go_upto_region 1 with (fail)
  generalize (w.alloc (.cells (itC 1 b n f re im t) 29)).alloc (.cells (itC 1 b' n' f' re' im' t') 29) = W at *
  obtain ⟨c0, c1, c2, c3, c4, c5⟩ := blk6 B1
  have d0 := (blk6 B2).1
  go_wp2_with fail
  refine (HC _).out.mono ?_; rintro e w1 ⟨rfl, ho1⟩
  have E1 := B1.only ho1 (fun h => h)
  have E2 := B2.only ho1 (fun h => h)
  clear c0 c1 c2 c3 c4 c5 d0
  have c0 := (blk6 E1).1
  obtain ⟨d0, d1, d2, d3, d4, d5⟩ := blk6 E2
  have HO1 := Lib.hid (HO.out.trans ho1)
  clear ho1
  go_wp2_with fail
  refine (HD _).out.mono ?_; rintro e w2 ⟨rfl, ho2⟩
  clear c0 d0 d1 d2 d3 d4 d5
  have F1 := E1.only ho2 (fun h => h)
  have F2 := E2.only ho2 (fun h => h)
  have hlt := F2.lt
  obtain ⟨c0, c1, c2, c3, c4, c5⟩ := blk6 F1
  obtain ⟨d0, d1, d2, d3, d4, d5⟩ := blk6 F2
  have HO2 := Lib.hid (HO1.out.trans ho2)
  clear ho2
  go_wp2_with fail
  go_ret
  exact ⟨rfl, HO2.out⟩

set_option maxRecDepth 100000 in
set_option maxHeartbeats 1000000 in
theorem compare_2 (h0 : It.ok ⟨2, b, n, f, re, im, t⟩ = true) (h : It.ok ⟨2, b', n', f', re', im', t'⟩ = true) : Calls Try.prog 25 #[.agg (itC 2 b n f re im t), .agg (itC 2 b' n' f' re' im' t')] w (Ans (.int .i64 (cmpB b b')) w) := by
  have HC := fun u => Lib.hid (check_is ⟨2, b, n, f, re, im, t⟩ u)
  have HD := fun u => Lib.hid (check_is ⟨2, b', n', f', re', im', t'⟩ u)
  simp only [h0] at HC
  simp only [h] at HD
  clear h h0
  obtain ⟨B1, B2, O⟩ := new2 w 29 29 (itC 2 b n f re im t) (itC 2 b' n' f' re' im' t')
  have HO := Lib.hid O
  clear O
  go_enter Try.func25, Try.ntmps25
  go_upto_region 1 with (fail)
  generalize (w.alloc (.cells (itC 2 b n f re im t) 29)).alloc (.cells (itC 2 b' n' f' re' im' t') 29) = W at *
  obtain ⟨c0, c1, c2, c3, c4, c5⟩ := blk6 B1
  have d0 := (blk6 B2).1
  go_wp2_with fail
  refine (HC _).out.mono ?_; rintro e w1 ⟨rfl, ho1⟩
  have E1 := B1.only ho1 (fun h => h)
  have E2 := B2.only ho1 (fun h => h)
  clear c0 c1 c2 c3 c4 c5 d0
  have c0 := (blk6 E1).1
  obtain ⟨d0, d1, d2, d3, d4, d5⟩ := blk6 E2
  have HO1 := Lib.hid (HO.out.trans ho1)
  clear ho1
  go_wp2_with fail
  refine (HD _).out.mono ?_; rintro e w2 ⟨rfl, ho2⟩
  clear c0 d0 d1 d2 d3 d4 d5
  have F1 := E1.only ho2 (fun h => h)
  have F2 := E2.only ho2 (fun h => h)
  have hlt := F2.lt
  obtain ⟨c0, c1, c2, c3, c4, c5⟩ := blk6 F1
  obtain ⟨d0, d1, d2, d3, d4, d5⟩ := blk6 F2
  have HO2 := Lib.hid (HO1.out.trans ho2)
  clear ho2
  go_wp2_with fail
  refine (bools_is _ _ _).mono ?_; rintro e w3 ⟨rfl, rfl⟩
  go_wp2_with fail
  go_ret
  exact ⟨rfl, HO2.out⟩

set_option maxRecDepth 100000 in
set_option maxHeartbeats 1000000 in
theorem compare_3 (h0 : It.ok ⟨3, b, n, f, re, im, t⟩ = true) (h : It.ok ⟨3, b', n', f', re', im', t'⟩ = true) : Calls Try.prog 25 #[.agg (itC 3 b n f re im t), .agg (itC 3 b' n' f' re' im' t')] w (Ans (.int .i64 (cmpI n n')) w) := by
  have HC := fun u => Lib.hid (check_is ⟨3, b, n, f, re, im, t⟩ u)
  have HD := fun u => Lib.hid (check_is ⟨3, b', n', f', re', im', t'⟩ u)
  simp only [h0] at HC
  simp only [h] at HD
  clear h h0
  obtain ⟨B1, B2, O⟩ := new2 w 29 29 (itC 3 b n f re im t) (itC 3 b' n' f' re' im' t')
  have HO := Lib.hid O
  clear O
  go_enter Try.func25, Try.ntmps25
  go_upto_region 1 with (fail)
  generalize (w.alloc (.cells (itC 3 b n f re im t) 29)).alloc (.cells (itC 3 b' n' f' re' im' t') 29) = W at *
  obtain ⟨c0, c1, c2, c3, c4, c5⟩ := blk6 B1
  have d0 := (blk6 B2).1
  go_wp2_with fail
  refine (HC _).out.mono ?_; rintro e w1 ⟨rfl, ho1⟩
  have E1 := B1.only ho1 (fun h => h)
  have E2 := B2.only ho1 (fun h => h)
  clear c0 c1 c2 c3 c4 c5 d0
  have c0 := (blk6 E1).1
  obtain ⟨d0, d1, d2, d3, d4, d5⟩ := blk6 E2
  have HO1 := Lib.hid (HO.out.trans ho1)
  clear ho1
  go_wp2_with fail
  refine (HD _).out.mono ?_; rintro e w2 ⟨rfl, ho2⟩
  clear c0 d0 d1 d2 d3 d4 d5
  have F1 := E1.only ho2 (fun h => h)
  have F2 := E2.only ho2 (fun h => h)
  have hlt := F2.lt
  obtain ⟨c0, c1, c2, c3, c4, c5⟩ := blk6 F1
  obtain ⟨d0, d1, d2, d3, d4, d5⟩ := blk6 F2
  have HO2 := Lib.hid (HO1.out.trans ho2)
  clear ho2
  go_wp2_with fail
  refine (cmp_64 _ _ _).mono ?_; rintro e w3 ⟨rfl, rfl⟩
  go_wp2_with fail
  go_ret
  exact ⟨rfl, HO2.out⟩

set_option maxRecDepth 100000 in
set_option maxHeartbeats 1000000 in
theorem compare_4 (h0 : It.ok ⟨4, b, n, f, re, im, t⟩ = true) (h : It.ok ⟨4, b', n', f', re', im', t'⟩ = true) : Calls Try.prog 25 #[.agg (itC 4 b n f re im t), .agg (itC 4 b' n' f' re' im' t')] w (Ans (.int .i64 (cmpF f f')) w) := by
  have HC := fun u => Lib.hid (check_is ⟨4, b, n, f, re, im, t⟩ u)
  have HD := fun u => Lib.hid (check_is ⟨4, b', n', f', re', im', t'⟩ u)
  simp only [h0] at HC
  simp only [h] at HD
  clear h h0
  obtain ⟨B1, B2, O⟩ := new2 w 29 29 (itC 4 b n f re im t) (itC 4 b' n' f' re' im' t')
  have HO := Lib.hid O
  clear O
  go_enter Try.func25, Try.ntmps25
  go_upto_region 1 with (fail)
  generalize (w.alloc (.cells (itC 4 b n f re im t) 29)).alloc (.cells (itC 4 b' n' f' re' im' t') 29) = W at *
  obtain ⟨c0, c1, c2, c3, c4, c5⟩ := blk6 B1
  have d0 := (blk6 B2).1
  go_wp2_with fail
  refine (HC _).out.mono ?_; rintro e w1 ⟨rfl, ho1⟩
  have E1 := B1.only ho1 (fun h => h)
  have E2 := B2.only ho1 (fun h => h)
  clear c0 c1 c2 c3 c4 c5 d0
  have c0 := (blk6 E1).1
  obtain ⟨d0, d1, d2, d3, d4, d5⟩ := blk6 E2
  have HO1 := Lib.hid (HO.out.trans ho1)
  clear ho1
  go_wp2_with fail
  refine (HD _).out.mono ?_; rintro e w2 ⟨rfl, ho2⟩
  clear c0 d0 d1 d2 d3 d4 d5
  have F1 := E1.only ho2 (fun h => h)
  have F2 := E2.only ho2 (fun h => h)
  have hlt := F2.lt
  obtain ⟨c0, c1, c2, c3, c4, c5⟩ := blk6 F1
  obtain ⟨d0, d1, d2, d3, d4, d5⟩ := blk6 F2
  have HO2 := Lib.hid (HO1.out.trans ho2)
  clear ho2
  go_wp2_with fail
  refine (floats_is _ _ _).mono ?_; rintro e w3 ⟨rfl, rfl⟩
  go_wp2_with fail
  go_ret
  exact ⟨rfl, HO2.out⟩

set_option maxRecDepth 100000 in
set_option maxHeartbeats 1000000 in
theorem compare_5 (h0 : It.ok ⟨5, b, n, f, re, im, t⟩ = true) (h : It.ok ⟨5, b', n', f', re', im', t'⟩ = true) : Calls Try.prog 25 #[.agg (itC 5 b n f re im t), .agg (itC 5 b' n' f' re' im' t')] w (Ans (.int .i64 (orI (cmpF re re') (cmpF im im'))) w) := by
  have HC := fun u => Lib.hid (check_is ⟨5, b, n, f, re, im, t⟩ u)
  have HD := fun u => Lib.hid (check_is ⟨5, b', n', f', re', im', t'⟩ u)
  simp only [h0] at HC
  simp only [h] at HD
  clear h h0
  obtain ⟨B1, B2, O⟩ := new2 w 29 29 (itC 5 b n f re im t) (itC 5 b' n' f' re' im' t')
  have HO := Lib.hid O
  clear O
  go_enter Try.func25, Try.ntmps25
  go_upto_region 1 with (fail)
  generalize (w.alloc (.cells (itC 5 b n f re im t) 29)).alloc (.cells (itC 5 b' n' f' re' im' t') 29) = W at *
  obtain ⟨c0, c1, c2, c3, c4, c5⟩ := blk6 B1
  have d0 := (blk6 B2).1
  go_wp2_with fail
  refine (HC _).out.mono ?_; rintro e w1 ⟨rfl, ho1⟩
  have E1 := B1.only ho1 (fun h => h)
  have E2 := B2.only ho1 (fun h => h)
  clear c0 c1 c2 c3 c4 c5 d0
  have c0 := (blk6 E1).1
  obtain ⟨d0, d1, d2, d3, d4, d5⟩ := blk6 E2
  have HO1 := Lib.hid (HO.out.trans ho1)
  clear ho1
  go_wp2_with fail
  refine (HD _).out.mono ?_; rintro e w2 ⟨rfl, ho2⟩
  clear c0 d0 d1 d2 d3 d4 d5
  have F1 := E1.only ho2 (fun h => h)
  have F2 := E2.only ho2 (fun h => h)
  have hlt := F2.lt
  obtain ⟨c0, c1, c2, c3, c4, c5⟩ := blk6 F1
  obtain ⟨d0, d1, d2, d3, d4, d5⟩ := blk6 F2
  have HO2 := Lib.hid (HO1.out.trans ho2)
  clear ho2
  go_wp2_with fail
  refine wp_region_still_tail 14 (by kernel_rfl) (by kernel_rfl) ?_
  simp only [List.take_succ_cons, List.take_zero, List.drop_succ_cons, List.drop_zero]
  change wpStill _ _ w2.drew _ _ _
  still_step
  still_step
  still_step
  still_step
  still_step
  still_step
  still_call (still_same (floats_is re re' _))
  still_step
  still_step
  still_step
  still_step
  still_step
  still_step
  still_call (still_same (floats_is im im' _))
  refine wpStill_nil ?_
  change wpList _ _ _ _ _ w2.drew
  go_wp2_with fail
  have N := (Blk.new w2 3 #[.int .i64 (cmpF re re'), .int .i64 (cmpF im im')]).drew
  refine (or_is (cmpF re re') (cmpF im im') _ w2.heap.size (N.cellv 0 rfl) (N.cellv 1 rfl)).mono ?_; rintro e w3 ⟨rfl, rfl⟩
  go_wp2_with fail
  go_ret
  exact ⟨rfl, (HO2.out.alloc _).drew⟩

set_option maxRecDepth 100000 in
set_option maxHeartbeats 1000000 in
theorem compare_6 (h0 : It.ok ⟨6, b, n, f, re, im, t⟩ = true) (h : It.ok ⟨6, b', n', f', re', im', t'⟩ = true) : Calls Try.prog 25 #[.agg (itC 6 b n f re im t), .agg (itC 6 b' n' f' re' im' t')] w (Ans (.int .i64 (cmpS t t')) w) := by
  have HC := fun u => Lib.hid (check_is ⟨6, b, n, f, re, im, t⟩ u)
  have HD := fun u => Lib.hid (check_is ⟨6, b', n', f', re', im', t'⟩ u)
  simp only [h0] at HC
  simp only [h] at HD
  clear h h0
  obtain ⟨B1, B2, O⟩ := new2 w 29 29 (itC 6 b n f re im t) (itC 6 b' n' f' re' im' t')
  have HO := Lib.hid O
  clear O
  go_enter Try.func25, Try.ntmps25
  go_upto_region 1 with (fail)
  generalize (w.alloc (.cells (itC 6 b n f re im t) 29)).alloc (.cells (itC 6 b' n' f' re' im' t') 29) = W at *
  obtain ⟨c0, c1, c2, c3, c4, c5⟩ := blk6 B1
  have d0 := (blk6 B2).1
  go_wp2_with fail
  refine (HC _).out.mono ?_; rintro e w1 ⟨rfl, ho1⟩
  have E1 := B1.only ho1 (fun h => h)
  have E2 := B2.only ho1 (fun h => h)
  clear c0 c1 c2 c3 c4 c5 d0
  have c0 := (blk6 E1).1
  obtain ⟨d0, d1, d2, d3, d4, d5⟩ := blk6 E2
  have HO1 := Lib.hid (HO.out.trans ho1)
  clear ho1
  go_wp2_with fail
  refine (HD _).out.mono ?_; rintro e w2 ⟨rfl, ho2⟩
  clear c0 d0 d1 d2 d3 d4 d5
  have F1 := E1.only ho2 (fun h => h)
  have F2 := E2.only ho2 (fun h => h)
  have hlt := F2.lt
  obtain ⟨c0, c1, c2, c3, c4, c5⟩ := blk6 F1
  obtain ⟨d0, d1, d2, d3, d4, d5⟩ := blk6 F2
  have HO2 := Lib.hid (HO1.out.trans ho2)
  clear ho2
  go_wp2_with fail
  refine (strcmp_is _ _ _).mono ?_; rintro e w3 ⟨rfl, rfl⟩
  go_wp2_with fail
  go_ret
  exact ⟨rfl, HO2.out⟩

end

theorem compare_is (x y : It) (w : World) : Calls Try.prog 25 #[.agg x.c, .agg y.c] w (Ans (.int .i64 (x.cmp y)) w) := by
  obtain ⟨k, b, n, f, re, im, t⟩ := x
  obtain ⟨k', b', n', f', re', im', t'⟩ := y
  unfold It.cmp
  by_cases hk : k = k'
  · subst hk
    cases h0 : It.ok ⟨k, b, n, f, re, im, t⟩
    · rw [if_pos (by simp)]
      exact compare_no1 k b b' n n' f f' re re' im im' t t' w h0
    · cases h1 : It.ok ⟨k, b', n', f', re', im', t'⟩
      · rw [if_pos (by simp)]
        exact compare_no2 k b b' n n' f f' re re' im im' t t' w h0 h1
      · rw [if_neg (by simp)]
        have hr := ok_kind h0
        simp only at hr
        have : k = 1 ∨ k = 2 ∨ k = 3 ∨ k = 4 ∨ k = 5 ∨ k = 6 := by omega
        rcases this with rfl | rfl | rfl | rfl | rfl | rfl
        · exact compare_1 b b' n n' f f' re re' im im' t t' w h0 h1
        · exact compare_2 b b' n n' f f' re re' im im' t t' w h0 h1
        · exact compare_3 b b' n n' f f' re re' im im' t t' w h0 h1
        · exact compare_4 b b' n n' f f' re re' im im' t t' w h0 h1
        · exact compare_5 b b' n n' f f' re re' im im' t t' w h0 h1
        · exact compare_6 b b' n n' f f' re re' im im' t t' w h0 h1
  · rw [if_pos (.inl hk)]
    exact compare_kinds k k' b b' n n' f f' re re' im im' t t' w hk

end Go.Proofs.Ytimoenpfnaaehaa
