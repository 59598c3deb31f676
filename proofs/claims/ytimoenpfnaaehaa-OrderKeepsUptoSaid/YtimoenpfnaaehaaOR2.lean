/-
  Layer 4's reference (cloisterref04): Clean, Floats, Texts.
-/
import Derived.Test.YtimoenpfnaaehaaOR1
namespace Go.Proofs.Ytimoenpfnaaehaa
open Go.RowKit

set_option maxHeartbeats 400000 in
theorem rclean_no (x : It) (hf : x.f < 18446744073709551616) (hre : x.re < 18446744073709551616) (him : x.im < 18446744073709551616) (h : x.ok = false) (w : World) : Calls Try.prog 19 #[.agg x.r] w (Ans (.agg x.r) w) := by
  have HC := fun u => Lib.hid (rcheck_is x hf hre him u)
  simp only [h] at HC
  clear h
  obtain ⟨k, b, n, f, re, im, t⟩ := x
  obtain ⟨B1, B2, O⟩ := new2 w 32 32 (rwC k b n f re im t) (rwC 0 false 0 0 0 0 ⟨#[]⟩)
  have HO := Lib.hid O
  clear O
  go_enter Try.func19, Try.ntmps19
  go_wp2_with (refine wpList_load_row rfl 32 (.tmp 1) rfl w.heap.size rfl 32 _ (0, 0) _ B1 Try.underlying32 rfl info32 ?_)
  generalize (w.alloc (.cells (rwC k b n f re im t) 32)).alloc (.cells (rwC 0 false 0 0 0 0 ⟨#[]⟩) 32) = W at *
  refine (HC _).out.mono ?_; rintro e w1 ⟨rfl, ho1⟩
  have E1 := B1.only ho1 (fun h => h)
  have E2 := B2.only ho1 (fun h => h)
  have R2 := E2.row (rwC k b n f re im t)
  have HO2 := Lib.hid ((HO.out.trans ho1).row (b := w.heap.size + 1) (.inr (by omega)) (rwC k b n f re im t))
  clear ho1
  go_wp2_with (refine wpList_load_row rfl 32 (.tmp 1) rfl w.heap.size rfl 32 _ (0, 0) _ E1 Try.underlying32 rfl info32 ?_; refine wpList_store_row rfl 32 (.tmp 2) (.tmp 6) rfl (w.heap.size + 1) (rwC k b n f re im t) rfl rfl 32 (rwC 0 false 0 0 0 0 ⟨#[]⟩) E2 info32 rfl (one_rwC k b n f re im t) ?_)
  exact bodyPost_ret (v := .agg (rwC k b n f re im t)) (results_cell_row rfl _ _ _ 32 _ (0, 0) _ rfl R2 Try.underlying32 rfl info32) rfl ⟨rfl, HO2.out⟩

set_option maxRecDepth 100000 in
set_option maxHeartbeats 1000000 in
theorem rclean_ok (x : It) (hf : x.f < 18446744073709551616) (hre : x.re < 18446744073709551616) (him : x.im < 18446744073709551616) (h : x.ok = true) (w : World) : Calls Try.prog 19 #[.agg x.r] w (Ans (.agg (It.r { x with f := cln x.f, re := cln x.re, im := cln x.im })) w) := by
  have HC := fun u => Lib.hid (rcheck_is x hf hre him u)
  simp only [h] at HC
  clear h
  obtain ⟨k, b, n, f, re, im, t⟩ := x
  simp only at hf hre him
  obtain ⟨B1, B2, O⟩ := new2 w 32 32 (rwC k b n f re im t) (rwC 0 false 0 0 0 0 ⟨#[]⟩)
  have HO := Lib.hid O
  clear O
  go_enter Try.func19, Try.ntmps19
  go_wp2_with (refine wpList_load_row rfl 32 (.tmp 1) rfl w.heap.size rfl 32 _ (0, 0) _ B1 Try.underlying32 rfl info32 ?_)
  generalize (w.alloc (.cells (rwC k b n f re im t) 32)).alloc (.cells (rwC 0 false 0 0 0 0 ⟨#[]⟩) 32) = W at *
  refine (HC _).out.mono ?_; rintro e w1 ⟨rfl, ho1⟩
  have E1 := B1.only ho1 (fun h => h)
  have E2 := B2.only ho1 (fun h => h)
  have HO1 := Lib.hid (HO.out.trans ho1)
  clear ho1 B1 B2
  obtain ⟨c0, c1, c2, c3, c4, c5, c6⟩ := blk7 E1
  have f3 := E1.free 3
  have f4 := E1.free 4
  have f5 := E1.free 5
  go_wp2_with fail
  refine wp_region_still_tail 10 (by kernel_rfl) (by kernel_rfl) ?_
  simp only [List.take_succ_cons, List.take_zero, List.drop_succ_cons, List.drop_zero]
  change wpStill _ _ w1.drew _ _ _
  still_step
  still_step
  still_call (still_same (cleanBits_is f hf _))
  still_step
  still_step
  still_call (still_same (cleanBits_is re hre _))
  still_step
  still_step
  still_call (still_same (cleanBits_is im him _))
  still_step
  refine wpStill_nil ?_
  change wpList _ _ _ _ _ w1.drew
  have e3 : Blk (((w1.setCell ⟨w.heap.size, 3, none⟩ (.int .u64 (cln f : Int))).setCell ⟨w.heap.size, 4, none⟩ (.int .u64 (cln re : Int))).setCell ⟨w.heap.size, 5, none⟩ (.int .u64 (cln im : Int))).drew w.heap.size 32 (rwC k b n (cln f) (cln re) (cln im) t) := (((E1.put 3 _).put 4 _).put 5 _).drew
  have e2 : Blk (((w1.setCell ⟨w.heap.size, 3, none⟩ (.int .u64 (cln f : Int))).setCell ⟨w.heap.size, 4, none⟩ (.int .u64 (cln re : Int))).setCell ⟨w.heap.size, 5, none⟩ (.int .u64 (cln im : Int))).drew (w.heap.size + 1) 32 (rwC 0 false 0 0 0 0 ⟨#[]⟩) := (((E2.far (by dsimp only; omega) _).far (by dsimp only; omega) _).far (by dsimp only; omega) _).drew
  have HO3 := Lib.hid (show Only NoneOf w (((w1.setCell ⟨w.heap.size, 3, none⟩ (.int .u64 (cln f : Int))).setCell ⟨w.heap.size, 4, none⟩ (.int .u64 (cln re : Int))).setCell ⟨w.heap.size, 5, none⟩ (.int .u64 (cln im : Int))).drew from (((HO1.out.put (.inr (Nat.le_refl _)) _).put (.inr (Nat.le_refl _)) _).put (.inr (Nat.le_refl _)) _).drew)
  have R2 := e2.row (rwC k b n (cln f) (cln re) (cln im) t)
  have HO4 := Lib.hid (HO3.out.row (b := w.heap.size + 1) (.inr (by omega)) (rwC k b n (cln f) (cln re) (cln im) t))
  go_wp2_with (refine wpList_load_row rfl 32 (.tmp 1) rfl w.heap.size rfl 32 _ (0, 0) _ e3 Try.underlying32 rfl info32 ?_; refine wpList_store_row rfl 32 (.tmp 2) (.tmp 19) rfl (w.heap.size + 1) (rwC k b n (cln f) (cln re) (cln im) t) rfl rfl 32 (rwC 0 false 0 0 0 0 ⟨#[]⟩) e2 info32 rfl (one_rwC k b n (cln f) (cln re) (cln im) t) ?_)
  exact bodyPost_ret (v := .agg (rwC k b n (cln f) (cln re) (cln im) t)) (results_cell_row rfl _ _ _ 32 _ (0, 0) _ rfl R2 Try.underlying32 rfl info32) rfl ⟨rfl, HO4.out⟩

theorem rfloats_is (a b : Nat) (ha : a < 18446744073709551616) (hb : b < 18446744073709551616) (w : World) : Calls Try.prog 55 #[.int .u64 (a : Int), .int .u64 (b : Int)] w (Same (.int .i64 (cmpF a b)) w) := by
  have e1 := ext45
  have L1 := fun u => Lib.hid (nan_is a ha u)
  have L2 := fun u => Lib.hid (nan_is b hb u)
  have O1 := Lib.hid (ord_lt a b)
  have O2 := Lib.hid (ord_gt a b)
  cases h : isNaNB a <;> cases h0 : isNaNB b
  · simp only [h] at L1
    simp only [h0] at L2
    have q1 : ∀ x : Bool, decide (keyF a < keyF b) = x → (FloatKind.f64.format.order a b == some Ordering.lt) = x := by
      intro x hx; refine O1.out.trans ?_; rw [h, h0, hx]; simp
    have q2 : ∀ x : Bool, decide (keyF b < keyF a) = x → (FloatKind.f64.format.order a b == some Ordering.gt) = x := by
      intro x hx; refine O2.out.trans ?_; rw [h, h0, hx]; simp
    have HX := Lib.hid (show cmpF a b = cmpI (keyF a) (keyF b) by simp [cmpF, h, h0])
    clear h h0
    rcases Int.lt_trichotomy (keyF a) (keyF b) with h | h | h
    · have HC := Lib.hid (show cmpI (keyF a) (keyF b) = -1 by unfold cmpI; rw [if_pos h])
      have r1 := q1 true (by simpa using h)
      have r2 := q2 false (by simp; omega)
      clear q1 q2 h
      go_enter Try.func55, Try.ntmps55
      go_wp2_with (first | (refine (L1 _).out.mono ?_; rintro e w1 ⟨rfl, rfl⟩) | (refine (L2 _).out.mono ?_; rintro e w1 ⟨rfl, rfl⟩))
      go_ret
      exact same_ret (by rw [HX.out, HC.out]; rfl)
    · have HC := Lib.hid (show cmpI (keyF a) (keyF b) = 0 by unfold cmpI; rw [if_neg (by omega), if_neg (by omega)])
      have r1 := q1 false (by simp; omega)
      have r2 := q2 false (by simp; omega)
      clear q1 q2 h
      go_enter Try.func55, Try.ntmps55
      go_wp2_with (first | (refine (L1 _).out.mono ?_; rintro e w1 ⟨rfl, rfl⟩) | (refine (L2 _).out.mono ?_; rintro e w1 ⟨rfl, rfl⟩))
      go_ret
      exact same_ret (by rw [HX.out, HC.out]; rfl)
    · have HC := Lib.hid (show cmpI (keyF a) (keyF b) = 1 by unfold cmpI; rw [if_neg (by omega), if_pos h])
      have r1 := q1 false (by simp; omega)
      have r2 := q2 true (by simpa using h)
      clear q1 q2 h
      go_enter Try.func55, Try.ntmps55
      go_wp2_with (first | (refine (L1 _).out.mono ?_; rintro e w1 ⟨rfl, rfl⟩) | (refine (L2 _).out.mono ?_; rintro e w1 ⟨rfl, rfl⟩))
      go_ret
      exact same_ret (by rw [HX.out, HC.out]; rfl)
  · simp only [h] at L1
    simp only [h0] at L2
    have HX := Lib.hid (show cmpF a b = -1 by simp [cmpF, h, h0])
    clear h h0
    go_enter Try.func55, Try.ntmps55
    go_wp2_with (first | (refine (L1 _).out.mono ?_; rintro e w1 ⟨rfl, rfl⟩) | (refine (L2 _).out.mono ?_; rintro e w1 ⟨rfl, rfl⟩))
    go_ret
    exact same_ret (by rw [HX.out]; rfl)
  · simp only [h] at L1
    simp only [h0] at L2
    have HX := Lib.hid (show cmpF a b = 1 by simp [cmpF, h, h0])
    clear h h0
    go_enter Try.func55, Try.ntmps55
    go_wp2_with (first | (refine (L1 _).out.mono ?_; rintro e w1 ⟨rfl, rfl⟩) | (refine (L2 _).out.mono ?_; rintro e w1 ⟨rfl, rfl⟩))
    go_ret
    exact same_ret (by rw [HX.out]; rfl)
  · simp only [h] at L1
    simp only [h0] at L2
    have HX := Lib.hid (show cmpF a b = 0 by simp [cmpF, h, h0])
    clear h h0
    go_enter Try.func55, Try.ntmps55
    go_wp2_with (first | (refine (L1 _).out.mono ?_; rintro e w1 ⟨rfl, rfl⟩) | (refine (L2 _).out.mono ?_; rintro e w1 ⟨rfl, rfl⟩))
    go_ret
    exact same_ret (by rw [HX.out]; rfl)

end Go.Proofs.Ytimoenpfnaaehaa
