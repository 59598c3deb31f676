/-
  Layer 4's reference (cloisterref04): Compare.
-/
import Derived.Test.YtimoenpfnaaehaaOR3
namespace Go.Proofs.Ytimoenpfnaaehaa
open Go.RowKit

section
variable (k k' : Int) (b b' : Bool) (n n' : Int) (f f' re re' im im' : Nat) (t t' : ByteArray) (w : World)

set_option maxHeartbeats 1000000 in
theorem rcompare_kinds (h : k ≠ k') : Calls Try.prog 26 #[.agg (rwC k b n f re im t), .agg (rwC k' b' n' f' re' im' t')] w (Ans (.int .i64 (cmpI k k')) w) := by
  have hb : (k != k') = true := by simpa using h
  clear h
  go_enter Try.func26, Try.ntmps26
  go_wp2_with fail
  refine (ints_is _ _ _).mono ?_; rintro e w1 ⟨rfl, rfl⟩
  go_wp2_with fail
  go_ret
  exact ⟨rfl, ((Only.refl _ _).alloc _).alloc _⟩

set_option maxRecDepth 100000 in
set_option maxHeartbeats 1000000 in
theorem rcompare_no1 (hf : f < 18446744073709551616) (hre : re < 18446744073709551616) (him : im < 18446744073709551616) (h : It.ok ⟨k, b, n, f, re, im, t⟩ = false) : Calls Try.prog 26 #[.agg (rwC k b n f re im t), .agg (rwC k b' n' f' re' im' t')] w (Ans (.int .i64 (cmpI k k)) w) := by
  have HC := fun u => Lib.hid (rcheck_is ⟨k, b, n, f, re, im, t⟩ hf hre him u)
  simp only [h] at HC
  clear h
  obtain ⟨B1, B2, O⟩ := new2 w 32 32 (rwC k b n f re im t) (rwC k b' n' f' re' im' t')
  have HO := Lib.hid O
  clear O
  go_enter Try.func26, Try.ntmps26
  go_upto_region 1 with (fail)
  generalize (w.alloc (.cells (rwC k b n f re im t) 32)).alloc (.cells (rwC k b' n' f' re' im' t') 32) = W at *
  obtain ⟨c0, c1, c2, c3, c4, c5, c6⟩ := blk7 B1
  have d0 := (blk7 B2).1
  go_wp2_with fail
  refine (HC _).out.mono ?_; rintro e w1 ⟨rfl, ho1⟩
  have E1 := B1.only ho1 (fun h => h)
  have E2 := B2.only ho1 (fun h => h)
  clear c0 c1 c2 c3 c4 c5 c6 d0
  have HO1 := Lib.hid (HO.out.trans ho1)
  clear ho1
  have e0 := (blk7 E1).1
  have e1 := (blk7 E2).1
  go_wp2_with fail
  refine (ints_is _ _ _).mono ?_; rintro e w2 ⟨rfl, rfl⟩
  go_wp2_with fail
  go_ret
  exact ⟨rfl, HO1.out⟩

variable (hf : f < 18446744073709551616) (hf' : f' < 18446744073709551616) (hre : re < 18446744073709551616) (hre' : re' < 18446744073709551616) (him : im < 18446744073709551616) (him' : im' < 18446744073709551616)
include hf hf' hre hre' him him'

set_option maxRecDepth 100000 in
set_option maxHeartbeats 1000000 in
theorem rcompare_no2 (h0 : It.ok ⟨k, b, n, f, re, im, t⟩ = true) (h : It.ok ⟨k, b', n', f', re', im', t'⟩ = false) : Calls Try.prog 26 #[.agg (rwC k b n f re im t), .agg (rwC k b' n' f' re' im' t')] w (Ans (.int .i64 (cmpI k k)) w) := by
  have HC := fun u => Lib.hid (rcheck_is ⟨k, b, n, f, re, im, t⟩ hf hre him u)
  have HD := fun u => Lib.hid (rcheck_is ⟨k, b', n', f', re', im', t'⟩ hf' hre' him' u)
  simp only [h0] at HC
  simp only [h] at HD
  clear h h0
  obtain ⟨B1, B2, O⟩ := new2 w 32 32 (rwC k b n f re im t) (rwC k b' n' f' re' im' t')
  have HO := Lib.hid O
  clear O
  go_enter Try.func26, Try.ntmps26
  go_upto_region 1 with (fail)
  generalize (w.alloc (.cells (rwC k b n f re im t) 32)).alloc (.cells (rwC k b' n' f' re' im' t') 32) = W at *
  obtain ⟨c0, c1, c2, c3, c4, c5, c6⟩ := blk7 B1
  have d0 := (blk7 B2).1
  go_wp2_with fail
  refine (HC _).out.mono ?_; rintro e w1 ⟨rfl, ho1⟩
  have E1 := B1.only ho1 (fun h => h)
  have E2 := B2.only ho1 (fun h => h)
  clear c0 c1 c2 c3 c4 c5 c6 d0
  have HO1 := Lib.hid (HO.out.trans ho1)
  clear ho1
  obtain ⟨d0, d1, d2, d3, d4, d5, d6⟩ := blk7 E2
  go_wp2_with fail
  refine (HD _).out.mono ?_; rintro e w2 ⟨rfl, ho2⟩
  clear d0 d1 d2 d3 d4 d5 d6
  have F1 := E1.only ho2 (fun h => h)
  have F2 := E2.only ho2 (fun h => h)
  obtain ⟨c0, c1, c2, c3, c4, c5, c6⟩ := blk7 F1
  obtain ⟨d0, d1, d2, d3, d4, d5, d6⟩ := blk7 F2
  have HO2 := Lib.hid (HO1.out.trans ho2)
  clear ho2
  go_wp2_with fail
  refine (ints_is _ _ _).mono ?_; rintro e w3 ⟨rfl, rfl⟩
  go_wp2_with fail
  go_ret
  exact ⟨rfl, HO2.out⟩

set_option maxRecDepth 100000 in
set_option maxHeartbeats 1000000 in
theorem rcompare_1 (h0 : It.ok ⟨1, b, n, f, re, im, t⟩ = true) (h : It.ok ⟨1, b', n', f', re', im', t'⟩ = true) : Calls Try.prog 26 #[.agg (rwC 1 b n f re im t), .agg (rwC 1 b' n' f' re' im' t')] w (Ans (.int .i64 (0)) w) := by
  have HC := fun u => Lib.hid (rcheck_is ⟨1, b, n, f, re, im, t⟩ hf hre him u)
  have HD := fun u => Lib.hid (rcheck_is ⟨1, b', n', f', re', im', t'⟩ hf' hre' him' u)
  simp only [h0] at HC
  simp only [h] at HD
  clear h h0
  obtain ⟨B1, B2, O⟩ := new2 w 32 32 (rwC 1 b n f re im t) (rwC 1 b' n' f' re' im' t')
  have HO := Lib.hid O
  clear O
  go_enter Try.func26, Try.ntmps26
  go_upto_region 1 with (fail)
  generalize (w.alloc (.cells (rwC 1 b n f re im t) 32)).alloc (.cells (rwC 1 b' n' f' re' im' t') 32) = W at *
  obtain ⟨c0, c1, c2, c3, c4, c5, c6⟩ := blk7 B1
  have d0 := (blk7 B2).1
  go_wp2_with fail
  refine (HC _).out.mono ?_; rintro e w1 ⟨rfl, ho1⟩
  have E1 := B1.only ho1 (fun h => h)
  have E2 := B2.only ho1 (fun h => h)
  clear c0 c1 c2 c3 c4 c5 c6 d0
  have HO1 := Lib.hid (HO.out.trans ho1)
  clear ho1
  obtain ⟨d0, d1, d2, d3, d4, d5, d6⟩ := blk7 E2
  go_wp2_with fail
  refine (HD _).out.mono ?_; rintro e w2 ⟨rfl, ho2⟩
  clear d0 d1 d2 d3 d4 d5 d6
  have F1 := E1.only ho2 (fun h => h)
  have F2 := E2.only ho2 (fun h => h)
  obtain ⟨c0, c1, c2, c3, c4, c5, c6⟩ := blk7 F1
  obtain ⟨d0, d1, d2, d3, d4, d5, d6⟩ := blk7 F2
  have HO2 := Lib.hid (HO1.out.trans ho2)
  clear ho2
  go_wp2_with fail
  go_ret
  exact ⟨rfl, HO2.out⟩

set_option maxRecDepth 100000 in
set_option maxHeartbeats 1000000 in
theorem rcompare_2 (h0 : It.ok ⟨2, b, n, f, re, im, t⟩ = true) (h : It.ok ⟨2, b', n', f', re', im', t'⟩ = true) : Calls Try.prog 26 #[.agg (rwC 2 b n f re im t), .agg (rwC 2 b' n' f' re' im' t')] w (Ans (.int .i64 (cmpB b b')) w) := by
  have HC := fun u => Lib.hid (rcheck_is ⟨2, b, n, f, re, im, t⟩ hf hre him u)
  have HD := fun u => Lib.hid (rcheck_is ⟨2, b', n', f', re', im', t'⟩ hf' hre' him' u)
  simp only [h0] at HC
  simp only [h] at HD
  clear h h0
  obtain ⟨B1, B2, O⟩ := new2 w 32 32 (rwC 2 b n f re im t) (rwC 2 b' n' f' re' im' t')
  have HO := Lib.hid O
  clear O
  go_enter Try.func26, Try.ntmps26
  go_upto_region 1 with (fail)
  generalize (w.alloc (.cells (rwC 2 b n f re im t) 32)).alloc (.cells (rwC 2 b' n' f' re' im' t') 32) = W at *
  obtain ⟨c0, c1, c2, c3, c4, c5, c6⟩ := blk7 B1
  have d0 := (blk7 B2).1
  go_wp2_with fail
  refine (HC _).out.mono ?_; rintro e w1 ⟨rfl, ho1⟩
  have E1 := B1.only ho1 (fun h => h)
  have E2 := B2.only ho1 (fun h => h)
  clear c0 c1 c2 c3 c4 c5 c6 d0
  have HO1 := Lib.hid (HO.out.trans ho1)
  clear ho1
  obtain ⟨d0, d1, d2, d3, d4, d5, d6⟩ := blk7 E2
  go_wp2_with fail
  refine (HD _).out.mono ?_; rintro e w2 ⟨rfl, ho2⟩
  clear d0 d1 d2 d3 d4 d5 d6
  have F1 := E1.only ho2 (fun h => h)
  have F2 := E2.only ho2 (fun h => h)
  obtain ⟨c0, c1, c2, c3, c4, c5, c6⟩ := blk7 F1
  obtain ⟨d0, d1, d2, d3, d4, d5, d6⟩ := blk7 F2
  have HO2 := Lib.hid (HO1.out.trans ho2)
  clear ho2
  cases b <;> cases b'
  all_goals
    go_wp2_with fail
    go_ret
    exact ⟨rfl, HO2.out⟩

set_option maxRecDepth 100000 in
set_option maxHeartbeats 1000000 in
theorem rcompare_3 (h0 : It.ok ⟨3, b, n, f, re, im, t⟩ = true) (h : It.ok ⟨3, b', n', f', re', im', t'⟩ = true) : Calls Try.prog 26 #[.agg (rwC 3 b n f re im t), .agg (rwC 3 b' n' f' re' im' t')] w (Ans (.int .i64 (cmpI n n')) w) := by
  have HC := fun u => Lib.hid (rcheck_is ⟨3, b, n, f, re, im, t⟩ hf hre him u)
  have HD := fun u => Lib.hid (rcheck_is ⟨3, b', n', f', re', im', t'⟩ hf' hre' him' u)
  simp only [h0] at HC
  simp only [h] at HD
  clear h h0
  obtain ⟨B1, B2, O⟩ := new2 w 32 32 (rwC 3 b n f re im t) (rwC 3 b' n' f' re' im' t')
  have HO := Lib.hid O
  clear O
  go_enter Try.func26, Try.ntmps26
  go_upto_region 1 with (fail)
  generalize (w.alloc (.cells (rwC 3 b n f re im t) 32)).alloc (.cells (rwC 3 b' n' f' re' im' t') 32) = W at *
  obtain ⟨c0, c1, c2, c3, c4, c5, c6⟩ := blk7 B1
  have d0 := (blk7 B2).1
  go_wp2_with fail
  refine (HC _).out.mono ?_; rintro e w1 ⟨rfl, ho1⟩
  have E1 := B1.only ho1 (fun h => h)
  have E2 := B2.only ho1 (fun h => h)
  clear c0 c1 c2 c3 c4 c5 c6 d0
  have HO1 := Lib.hid (HO.out.trans ho1)
  clear ho1
  obtain ⟨d0, d1, d2, d3, d4, d5, d6⟩ := blk7 E2
  go_wp2_with fail
  refine (HD _).out.mono ?_; rintro e w2 ⟨rfl, ho2⟩
  clear d0 d1 d2 d3 d4 d5 d6
  have F1 := E1.only ho2 (fun h => h)
  have F2 := E2.only ho2 (fun h => h)
  obtain ⟨c0, c1, c2, c3, c4, c5, c6⟩ := blk7 F1
  obtain ⟨d0, d1, d2, d3, d4, d5, d6⟩ := blk7 F2
  have HO2 := Lib.hid (HO1.out.trans ho2)
  clear ho2
  go_wp2_with fail
  refine (ints_is _ _ _).mono ?_; rintro e w3 ⟨rfl, rfl⟩
  go_wp2_with fail
  go_ret
  exact ⟨rfl, HO2.out⟩

set_option maxRecDepth 100000 in
set_option maxHeartbeats 1000000 in
theorem rcompare_4 (h0 : It.ok ⟨4, b, n, f, re, im, t⟩ = true) (h : It.ok ⟨4, b', n', f', re', im', t'⟩ = true) : Calls Try.prog 26 #[.agg (rwC 4 b n f re im t), .agg (rwC 4 b' n' f' re' im' t')] w (Ans (.int .i64 (cmpF f f')) w) := by
  have HC := fun u => Lib.hid (rcheck_is ⟨4, b, n, f, re, im, t⟩ hf hre him u)
  have HD := fun u => Lib.hid (rcheck_is ⟨4, b', n', f', re', im', t'⟩ hf' hre' him' u)
  simp only [h0] at HC
  simp only [h] at HD
  clear h h0
  obtain ⟨B1, B2, O⟩ := new2 w 32 32 (rwC 4 b n f re im t) (rwC 4 b' n' f' re' im' t')
  have HO := Lib.hid O
  clear O
  go_enter Try.func26, Try.ntmps26
  go_upto_region 1 with (fail)
  generalize (w.alloc (.cells (rwC 4 b n f re im t) 32)).alloc (.cells (rwC 4 b' n' f' re' im' t') 32) = W at *
  obtain ⟨c0, c1, c2, c3, c4, c5, c6⟩ := blk7 B1
  have d0 := (blk7 B2).1
  go_wp2_with fail
  refine (HC _).out.mono ?_; rintro e w1 ⟨rfl, ho1⟩
  have E1 := B1.only ho1 (fun h => h)
  have E2 := B2.only ho1 (fun h => h)
  clear c0 c1 c2 c3 c4 c5 c6 d0
  have HO1 := Lib.hid (HO.out.trans ho1)
  clear ho1
  obtain ⟨d0, d1, d2, d3, d4, d5, d6⟩ := blk7 E2
  go_wp2_with fail
  refine (HD _).out.mono ?_; rintro e w2 ⟨rfl, ho2⟩
  clear d0 d1 d2 d3 d4 d5 d6
  have F1 := E1.only ho2 (fun h => h)
  have F2 := E2.only ho2 (fun h => h)
  obtain ⟨c0, c1, c2, c3, c4, c5, c6⟩ := blk7 F1
  obtain ⟨d0, d1, d2, d3, d4, d5, d6⟩ := blk7 F2
  have HO2 := Lib.hid (HO1.out.trans ho2)
  clear ho2
  go_wp2_with fail
  refine (rfloats_is _ _ hf hf' _).mono ?_; rintro e w3 ⟨rfl, rfl⟩
  go_wp2_with fail
  go_ret
  exact ⟨rfl, HO2.out⟩

set_option maxRecDepth 100000 in
set_option maxHeartbeats 1000000 in
theorem rcompare_5 (h0 : It.ok ⟨5, b, n, f, re, im, t⟩ = true) (h : It.ok ⟨5, b', n', f', re', im', t'⟩ = true) : Calls Try.prog 26 #[.agg (rwC 5 b n f re im t), .agg (rwC 5 b' n' f' re' im' t')] w (Ans (.int .i64 (orI (cmpF re re') (cmpF im im'))) w) := by
  have HC := fun u => Lib.hid (rcheck_is ⟨5, b, n, f, re, im, t⟩ hf hre him u)
  have HD := fun u => Lib.hid (rcheck_is ⟨5, b', n', f', re', im', t'⟩ hf' hre' him' u)
  simp only [h0] at HC
  simp only [h] at HD
  clear h h0
  obtain ⟨B1, B2, O⟩ := new2 w 32 32 (rwC 5 b n f re im t) (rwC 5 b' n' f' re' im' t')
  have HO := Lib.hid O
  clear O
  go_enter Try.func26, Try.ntmps26
  go_upto_region 1 with (fail)
  generalize (w.alloc (.cells (rwC 5 b n f re im t) 32)).alloc (.cells (rwC 5 b' n' f' re' im' t') 32) = W at *
  obtain ⟨c0, c1, c2, c3, c4, c5, c6⟩ := blk7 B1
  have d0 := (blk7 B2).1
  go_wp2_with fail
  refine (HC _).out.mono ?_; rintro e w1 ⟨rfl, ho1⟩
  have E1 := B1.only ho1 (fun h => h)
  have E2 := B2.only ho1 (fun h => h)
  clear c0 c1 c2 c3 c4 c5 c6 d0
  have HO1 := Lib.hid (HO.out.trans ho1)
  clear ho1
  obtain ⟨d0, d1, d2, d3, d4, d5, d6⟩ := blk7 E2
  go_wp2_with fail
  refine (HD _).out.mono ?_; rintro e w2 ⟨rfl, ho2⟩
  clear d0 d1 d2 d3 d4 d5 d6
  have F1 := E1.only ho2 (fun h => h)
  have F2 := E2.only ho2 (fun h => h)
  obtain ⟨c0, c1, c2, c3, c4, c5, c6⟩ := blk7 F1
  obtain ⟨d0, d1, d2, d3, d4, d5, d6⟩ := blk7 F2
  have HO2 := Lib.hid (HO1.out.trans ho2)
  clear ho2
  have HX := fun u => Lib.hid (rfloats_is re re' hre hre' u)
  by_cases hz : cmpF re re' = 0
  · have hb : (cmpF re re' != 0) = false := by simp [hz]
    have HZ := Lib.hid (show orI (cmpF re re') (cmpF im im') = cmpF im im' by unfold orI; rw [if_neg (by simp [hz])])
    clear hz
    go_wp2_with fail
    refine (HX _).out.mono ?_; rintro e w3 ⟨rfl, rfl⟩
    go_wp2_with fail
    refine (rfloats_is _ _ him him' _).mono ?_; rintro e w3 ⟨rfl, rfl⟩
    go_wp2_with fail
    go_ret
    exact ⟨by rw [HZ.out]; rfl, HO2.out⟩
  · have hb : (cmpF re re' != 0) = true := by simpa using hz
    have HZ := Lib.hid (show orI (cmpF re re') (cmpF im im') = cmpF re re' by unfold orI; rw [if_pos hz])
    clear hz
    go_wp2_with fail
    refine (HX _).out.mono ?_; rintro e w3 ⟨rfl, rfl⟩
    go_wp2_with fail
    go_ret
    exact ⟨by rw [HZ.out]; rfl, HO2.out⟩

set_option maxRecDepth 100000 in
set_option maxHeartbeats 1000000 in
theorem rcompare_6 (ht : t.size ≤ 9223372036854775807) (h0 : It.ok ⟨6, b, n, f, re, im, t⟩ = true) (h : It.ok ⟨6, b', n', f', re', im', t'⟩ = true) : Calls Try.prog 26 #[.agg (rwC 6 b n f re im t), .agg (rwC 6 b' n' f' re' im' t')] w (Ans (.int .i64 (cmpS t t')) w) := by
  have HC := fun u => Lib.hid (rcheck_is ⟨6, b, n, f, re, im, t⟩ hf hre him u)
  have HD := fun u => Lib.hid (rcheck_is ⟨6, b', n', f', re', im', t'⟩ hf' hre' him' u)
  simp only [h0] at HC
  simp only [h] at HD
  clear h h0
  obtain ⟨B1, B2, O⟩ := new2 w 32 32 (rwC 6 b n f re im t) (rwC 6 b' n' f' re' im' t')
  have HO := Lib.hid O
  clear O
  go_enter Try.func26, Try.ntmps26
  go_upto_region 1 with (fail)
  generalize (w.alloc (.cells (rwC 6 b n f re im t) 32)).alloc (.cells (rwC 6 b' n' f' re' im' t') 32) = W at *
  obtain ⟨c0, c1, c2, c3, c4, c5, c6⟩ := blk7 B1
  have d0 := (blk7 B2).1
  go_wp2_with fail
  refine (HC _).out.mono ?_; rintro e w1 ⟨rfl, ho1⟩
  have E1 := B1.only ho1 (fun h => h)
  have E2 := B2.only ho1 (fun h => h)
  clear c0 c1 c2 c3 c4 c5 c6 d0
  have HO1 := Lib.hid (HO.out.trans ho1)
  clear ho1
  obtain ⟨d0, d1, d2, d3, d4, d5, d6⟩ := blk7 E2
  go_wp2_with fail
  refine (HD _).out.mono ?_; rintro e w2 ⟨rfl, ho2⟩
  clear d0 d1 d2 d3 d4 d5 d6
  have F1 := E1.only ho2 (fun h => h)
  have F2 := E2.only ho2 (fun h => h)
  obtain ⟨c0, c1, c2, c3, c4, c5, c6⟩ := blk7 F1
  obtain ⟨d0, d1, d2, d3, d4, d5, d6⟩ := blk7 F2
  have HO2 := Lib.hid (HO1.out.trans ho2)
  clear ho2
  go_wp2_with fail
  refine (texts_is t t' _ ht).mono ?_; rintro e w3 ⟨rfl, ho3⟩
  have HO3 := Lib.hid (HO2.out.trans ho3)
  clear ho3 c0 c1 c2 c3 c4 c5 c6 d0 d1 d2 d3 d4 d5 d6
  go_wp2_with fail
  go_ret
  exact ⟨rfl, HO3.out⟩

end

/-- What an item's numbers keep to. -/
def It.In (x : It) : Prop := x.f < 18446744073709551616 ∧ x.re < 18446744073709551616 ∧ x.im < 18446744073709551616 ∧ x.t.size ≤ 9223372036854775807

theorem rcompare_is (x y : It) (hx : x.In) (hy : y.In) (w : World) : Calls Try.prog 26 #[.agg x.r, .agg y.r] w (Ans (.int .i64 (x.cmp y)) w) := by
  obtain ⟨k, b, n, f, re, im, t⟩ := x
  obtain ⟨k', b', n', f', re', im', t'⟩ := y
  obtain ⟨hf, hre, him, ht⟩ := hx
  obtain ⟨hf', hre', him', _⟩ := hy
  unfold It.cmp
  by_cases hk : k = k'
  · subst hk
    cases h0 : It.ok ⟨k, b, n, f, re, im, t⟩
    · rw [if_pos (by simp)]
      exact rcompare_no1 k b b' n n' f f' re re' im im' t t' w hf hre him h0
    · cases h1 : It.ok ⟨k, b', n', f', re', im', t'⟩
      · rw [if_pos (by simp)]
        exact rcompare_no2 k b b' n n' f f' re re' im im' t t' w hf hf' hre hre' him him' h0 h1
      · rw [if_neg (by simp)]
        have hr := ok_kind h0
        simp only at hr
        have : k = 1 ∨ k = 2 ∨ k = 3 ∨ k = 4 ∨ k = 5 ∨ k = 6 := by omega
        rcases this with rfl | rfl | rfl | rfl | rfl | rfl
        · exact rcompare_1 b b' n n' f f' re re' im im' t t' w hf hf' hre hre' him him' h0 h1
        · exact rcompare_2 b b' n n' f f' re re' im im' t t' w hf hf' hre hre' him him' h0 h1
        · exact rcompare_3 b b' n n' f f' re re' im im' t t' w hf hf' hre hre' him him' h0 h1
        · exact rcompare_4 b b' n n' f f' re re' im im' t t' w hf hf' hre hre' him him' h0 h1
        · exact rcompare_5 b b' n n' f f' re re' im im' t t' w hf hf' hre hre' him him' h0 h1
        · exact rcompare_6 b b' n n' f f' re re' im im' t t' w hf hf' hre hre' him him' ht h0 h1
  · rw [if_pos (.inl hk)]
    exact rcompare_kinds k k' b b' n n' f f' re re' im im' t t' w hk

end Go.Proofs.Ytimoenpfnaaehaa
