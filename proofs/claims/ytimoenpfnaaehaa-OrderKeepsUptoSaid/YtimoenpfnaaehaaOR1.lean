/-
  Layer 4's reference (cloisterref04): Check, Clean.
-/
import Derived.Test.YtimoenpfnaaehaaO5
namespace Go.Proofs.Ytimoenpfnaaehaa
open Go.RowKit

theorem empty_no {t : ByteArray} (h : emptyB t = false) : (!t.toList.isEmpty) = true ∧ t.toList.isEmpty = false := by
  unfold emptyB at h
  have h1 : t.toList ≠ [] := by
    intro e
    rw [e, ByteArray.toList_eq] at h
    cases h
  simp [h1]
theorem empty_yes {t : ByteArray} (h : emptyB t = true) : (!t.toList.isEmpty) = false ∧ t.toList.isEmpty = true := by
  unfold emptyB at h
  have h1 : t.toList = [] := by
    have := eq_of_beq h
    rw [this, ByteArray.toList_eq]
  simp [h1]

set_option maxHeartbeats 400000 in
theorem rcheck_low (k : Int) (b : Bool) (n : Int) (f re im : Nat) (t : ByteArray) (w : World) (h : k < 1) : Calls Try.prog 22 #[.agg (rwC k b n f re im t)] w (Ans (.int .i64 40) w) := by
  go_enter Try.func22, Try.ntmps22
  go_wp2_with fail
  go_ret
  exact ⟨rfl, (Only.refl _ _).alloc _⟩
set_option maxHeartbeats 400000 in
theorem rcheck_high (k : Int) (b : Bool) (n : Int) (f re im : Nat) (t : ByteArray) (w : World) (h0 : 1 ≤ k) (h : 6 < k) : Calls Try.prog 22 #[.agg (rwC k b n f re im t)] w (Ans (.int .i64 40) w) := by
  go_enter Try.func22, Try.ntmps22
  go_wp2_with fail
  go_ret
  exact ⟨rfl, (Only.refl _ _).alloc _⟩

section
variable (b : Bool) (n : Int) (f re im : Nat) (t : ByteArray) (w : World) (hf : f < 18446744073709551616) (hre : re < 18446744073709551616) (him : im < 18446744073709551616)
include hf hre him

set_option maxRecDepth 100000 in
set_option maxHeartbeats 4000000 in
theorem rcheck_1 : Calls Try.prog 22 #[.agg (rwC 1 b n f re im t)] w (Ans (.int .i64 (if It.ok ⟨1, b, n, f, re, im, t⟩ then 0 else 40)) w) := by
  have HF := fun u => Lib.hid (nought_is f hf u)
  have HR := fun u => Lib.hid (nought_is re hre u)
  have HI := fun u => Lib.hid (nought_is im him u)
  cases b
  · by_cases hn : n = 0
    · subst hn
      cases ht : emptyB t
      · obtain ⟨ht1, ht2⟩ := empty_no ht
        rw [show It.ok ⟨1, false, 0, f, re, im, t⟩ = false by simp [It.ok, *]]
        go_enter Try.func22, Try.ntmps22
        go_upto_region 1 with (fail)
        have hB := Blk.new w 32 (rwC 1 false 0 f re im t)
        have hO := Lib.hid ((Only.refl NoneOf w).alloc (.cells (rwC 1 false 0 f re im t) 32))
        generalize w.alloc (.cells (rwC 1 false 0 f re im t) 32) = W at *
        obtain ⟨c0, c1, c2, c3, c4, c5, c6⟩ := blk7 hB
        go_wp2_with (go_at_call 47; first | (refine (HF _).out.mono ?_; rintro e w1 ⟨rfl, rfl⟩) | (refine (HR _).out.mono ?_; rintro e w1 ⟨rfl, rfl⟩) | (refine (HI _).out.mono ?_; rintro e w1 ⟨rfl, rfl⟩))
        go_ret
        exact ⟨rfl, hO.out⟩
      · obtain ⟨ht1, ht2⟩ := empty_yes ht
        cases z1 : isZeroB f
        · rw [show It.ok ⟨1, false, 0, f, re, im, t⟩ = false by simp [It.ok, *]]
          go_enter Try.func22, Try.ntmps22
          go_upto_region 1 with (fail)
          have hB := Blk.new w 32 (rwC 1 false 0 f re im t)
          have hO := Lib.hid ((Only.refl NoneOf w).alloc (.cells (rwC 1 false 0 f re im t) 32))
          generalize w.alloc (.cells (rwC 1 false 0 f re im t) 32) = W at *
          obtain ⟨c0, c1, c2, c3, c4, c5, c6⟩ := blk7 hB
          go_wp2_with (go_at_call 47; first | (refine (HF _).out.mono ?_; rintro e w1 ⟨rfl, rfl⟩) | (refine (HR _).out.mono ?_; rintro e w1 ⟨rfl, rfl⟩) | (refine (HI _).out.mono ?_; rintro e w1 ⟨rfl, rfl⟩))
          go_ret
          exact ⟨rfl, hO.out⟩
        · cases z2 : isZeroB re
          · rw [show It.ok ⟨1, false, 0, f, re, im, t⟩ = false by simp [It.ok, *]]
            go_enter Try.func22, Try.ntmps22
            go_upto_region 1 with (fail)
            have hB := Blk.new w 32 (rwC 1 false 0 f re im t)
            have hO := Lib.hid ((Only.refl NoneOf w).alloc (.cells (rwC 1 false 0 f re im t) 32))
            generalize w.alloc (.cells (rwC 1 false 0 f re im t) 32) = W at *
            obtain ⟨c0, c1, c2, c3, c4, c5, c6⟩ := blk7 hB
            go_wp2_with (go_at_call 47; first | (refine (HF _).out.mono ?_; rintro e w1 ⟨rfl, rfl⟩) | (refine (HR _).out.mono ?_; rintro e w1 ⟨rfl, rfl⟩) | (refine (HI _).out.mono ?_; rintro e w1 ⟨rfl, rfl⟩))
            go_ret
            exact ⟨rfl, hO.out⟩
          · cases z3 : isZeroB im
            · rw [show It.ok ⟨1, false, 0, f, re, im, t⟩ = false by simp [It.ok, *]]
              go_enter Try.func22, Try.ntmps22
              go_upto_region 1 with (fail)
              have hB := Blk.new w 32 (rwC 1 false 0 f re im t)
              have hO := Lib.hid ((Only.refl NoneOf w).alloc (.cells (rwC 1 false 0 f re im t) 32))
              generalize w.alloc (.cells (rwC 1 false 0 f re im t) 32) = W at *
              obtain ⟨c0, c1, c2, c3, c4, c5, c6⟩ := blk7 hB
              go_wp2_with (go_at_call 47; first | (refine (HF _).out.mono ?_; rintro e w1 ⟨rfl, rfl⟩) | (refine (HR _).out.mono ?_; rintro e w1 ⟨rfl, rfl⟩) | (refine (HI _).out.mono ?_; rintro e w1 ⟨rfl, rfl⟩))
              go_ret
              exact ⟨rfl, hO.out⟩
            · rw [show It.ok ⟨1, false, 0, f, re, im, t⟩ = true by simp [It.ok, *]]
              go_enter Try.func22, Try.ntmps22
              go_upto_region 1 with (fail)
              have hB := Blk.new w 32 (rwC 1 false 0 f re im t)
              have hO := Lib.hid ((Only.refl NoneOf w).alloc (.cells (rwC 1 false 0 f re im t) 32))
              generalize w.alloc (.cells (rwC 1 false 0 f re im t) 32) = W at *
              obtain ⟨c0, c1, c2, c3, c4, c5, c6⟩ := blk7 hB
              go_wp2_with (go_at_call 47; first | (refine (HF _).out.mono ?_; rintro e w1 ⟨rfl, rfl⟩) | (refine (HR _).out.mono ?_; rintro e w1 ⟨rfl, rfl⟩) | (refine (HI _).out.mono ?_; rintro e w1 ⟨rfl, rfl⟩))
              go_ret
              exact ⟨rfl, hO.out⟩
    · have hn1 : (n == 0) = false := by simpa using hn
      have hn2 : (n != 0) = true := by simpa using hn
      rw [show It.ok ⟨1, false, n, f, re, im, t⟩ = false by simp [It.ok, *]]
      go_enter Try.func22, Try.ntmps22
      go_upto_region 1 with (fail)
      have hB := Blk.new w 32 (rwC 1 false n f re im t)
      have hO := Lib.hid ((Only.refl NoneOf w).alloc (.cells (rwC 1 false n f re im t) 32))
      generalize w.alloc (.cells (rwC 1 false n f re im t) 32) = W at *
      obtain ⟨c0, c1, c2, c3, c4, c5, c6⟩ := blk7 hB
      go_wp2_with (go_at_call 47; first | (refine (HF _).out.mono ?_; rintro e w1 ⟨rfl, rfl⟩) | (refine (HR _).out.mono ?_; rintro e w1 ⟨rfl, rfl⟩) | (refine (HI _).out.mono ?_; rintro e w1 ⟨rfl, rfl⟩))
      go_ret
      exact ⟨rfl, hO.out⟩
  · rw [show It.ok ⟨1, true, n, f, re, im, t⟩ = false by simp [It.ok, *]]
    go_enter Try.func22, Try.ntmps22
    go_upto_region 1 with (fail)
    have hB := Blk.new w 32 (rwC 1 true n f re im t)
    have hO := Lib.hid ((Only.refl NoneOf w).alloc (.cells (rwC 1 true n f re im t) 32))
    generalize w.alloc (.cells (rwC 1 true n f re im t) 32) = W at *
    obtain ⟨c0, c1, c2, c3, c4, c5, c6⟩ := blk7 hB
    go_wp2_with (go_at_call 47; first | (refine (HF _).out.mono ?_; rintro e w1 ⟨rfl, rfl⟩) | (refine (HR _).out.mono ?_; rintro e w1 ⟨rfl, rfl⟩) | (refine (HI _).out.mono ?_; rintro e w1 ⟨rfl, rfl⟩))
    go_ret
    exact ⟨rfl, hO.out⟩

set_option maxRecDepth 100000 in
set_option maxHeartbeats 4000000 in
theorem rcheck_2 : Calls Try.prog 22 #[.agg (rwC 2 b n f re im t)] w (Ans (.int .i64 (if It.ok ⟨2, b, n, f, re, im, t⟩ then 0 else 40)) w) := by
  have HF := fun u => Lib.hid (nought_is f hf u)
  have HR := fun u => Lib.hid (nought_is re hre u)
  have HI := fun u => Lib.hid (nought_is im him u)
  by_cases hn : n = 0
  · subst hn
    cases ht : emptyB t
    · obtain ⟨ht1, ht2⟩ := empty_no ht
      rw [show It.ok ⟨2, b, 0, f, re, im, t⟩ = false by simp [It.ok, *]]
      go_enter Try.func22, Try.ntmps22
      go_upto_region 1 with (fail)
      have hB := Blk.new w 32 (rwC 2 b 0 f re im t)
      have hO := Lib.hid ((Only.refl NoneOf w).alloc (.cells (rwC 2 b 0 f re im t) 32))
      generalize w.alloc (.cells (rwC 2 b 0 f re im t) 32) = W at *
      obtain ⟨c0, c1, c2, c3, c4, c5, c6⟩ := blk7 hB
      go_wp2_with (go_at_call 47; first | (refine (HF _).out.mono ?_; rintro e w1 ⟨rfl, rfl⟩) | (refine (HR _).out.mono ?_; rintro e w1 ⟨rfl, rfl⟩) | (refine (HI _).out.mono ?_; rintro e w1 ⟨rfl, rfl⟩))
      go_ret
      exact ⟨rfl, hO.out⟩
    · obtain ⟨ht1, ht2⟩ := empty_yes ht
      cases z1 : isZeroB f
      · rw [show It.ok ⟨2, b, 0, f, re, im, t⟩ = false by simp [It.ok, *]]
        go_enter Try.func22, Try.ntmps22
        go_upto_region 1 with (fail)
        have hB := Blk.new w 32 (rwC 2 b 0 f re im t)
        have hO := Lib.hid ((Only.refl NoneOf w).alloc (.cells (rwC 2 b 0 f re im t) 32))
        generalize w.alloc (.cells (rwC 2 b 0 f re im t) 32) = W at *
        obtain ⟨c0, c1, c2, c3, c4, c5, c6⟩ := blk7 hB
        go_wp2_with (go_at_call 47; first | (refine (HF _).out.mono ?_; rintro e w1 ⟨rfl, rfl⟩) | (refine (HR _).out.mono ?_; rintro e w1 ⟨rfl, rfl⟩) | (refine (HI _).out.mono ?_; rintro e w1 ⟨rfl, rfl⟩))
        go_ret
        exact ⟨rfl, hO.out⟩
      · cases z2 : isZeroB re
        · rw [show It.ok ⟨2, b, 0, f, re, im, t⟩ = false by simp [It.ok, *]]
          go_enter Try.func22, Try.ntmps22
          go_upto_region 1 with (fail)
          have hB := Blk.new w 32 (rwC 2 b 0 f re im t)
          have hO := Lib.hid ((Only.refl NoneOf w).alloc (.cells (rwC 2 b 0 f re im t) 32))
          generalize w.alloc (.cells (rwC 2 b 0 f re im t) 32) = W at *
          obtain ⟨c0, c1, c2, c3, c4, c5, c6⟩ := blk7 hB
          go_wp2_with (go_at_call 47; first | (refine (HF _).out.mono ?_; rintro e w1 ⟨rfl, rfl⟩) | (refine (HR _).out.mono ?_; rintro e w1 ⟨rfl, rfl⟩) | (refine (HI _).out.mono ?_; rintro e w1 ⟨rfl, rfl⟩))
          go_ret
          exact ⟨rfl, hO.out⟩
        · cases z3 : isZeroB im
          · rw [show It.ok ⟨2, b, 0, f, re, im, t⟩ = false by simp [It.ok, *]]
            go_enter Try.func22, Try.ntmps22
            go_upto_region 1 with (fail)
            have hB := Blk.new w 32 (rwC 2 b 0 f re im t)
            have hO := Lib.hid ((Only.refl NoneOf w).alloc (.cells (rwC 2 b 0 f re im t) 32))
            generalize w.alloc (.cells (rwC 2 b 0 f re im t) 32) = W at *
            obtain ⟨c0, c1, c2, c3, c4, c5, c6⟩ := blk7 hB
            go_wp2_with (go_at_call 47; first | (refine (HF _).out.mono ?_; rintro e w1 ⟨rfl, rfl⟩) | (refine (HR _).out.mono ?_; rintro e w1 ⟨rfl, rfl⟩) | (refine (HI _).out.mono ?_; rintro e w1 ⟨rfl, rfl⟩))
            go_ret
            exact ⟨rfl, hO.out⟩
          · rw [show It.ok ⟨2, b, 0, f, re, im, t⟩ = true by simp [It.ok, *]]
            go_enter Try.func22, Try.ntmps22
            go_upto_region 1 with (fail)
            have hB := Blk.new w 32 (rwC 2 b 0 f re im t)
            have hO := Lib.hid ((Only.refl NoneOf w).alloc (.cells (rwC 2 b 0 f re im t) 32))
            generalize w.alloc (.cells (rwC 2 b 0 f re im t) 32) = W at *
            obtain ⟨c0, c1, c2, c3, c4, c5, c6⟩ := blk7 hB
            go_wp2_with (go_at_call 47; first | (refine (HF _).out.mono ?_; rintro e w1 ⟨rfl, rfl⟩) | (refine (HR _).out.mono ?_; rintro e w1 ⟨rfl, rfl⟩) | (refine (HI _).out.mono ?_; rintro e w1 ⟨rfl, rfl⟩))
            go_ret
            exact ⟨rfl, hO.out⟩
  · have hn1 : (n == 0) = false := by simpa using hn
    have hn2 : (n != 0) = true := by simpa using hn
    rw [show It.ok ⟨2, b, n, f, re, im, t⟩ = false by simp [It.ok, *]]
    go_enter Try.func22, Try.ntmps22
    go_upto_region 1 with (fail)
    have hB := Blk.new w 32 (rwC 2 b n f re im t)
    have hO := Lib.hid ((Only.refl NoneOf w).alloc (.cells (rwC 2 b n f re im t) 32))
    generalize w.alloc (.cells (rwC 2 b n f re im t) 32) = W at *
    obtain ⟨c0, c1, c2, c3, c4, c5, c6⟩ := blk7 hB
    go_wp2_with (go_at_call 47; first | (refine (HF _).out.mono ?_; rintro e w1 ⟨rfl, rfl⟩) | (refine (HR _).out.mono ?_; rintro e w1 ⟨rfl, rfl⟩) | (refine (HI _).out.mono ?_; rintro e w1 ⟨rfl, rfl⟩))
    go_ret
    exact ⟨rfl, hO.out⟩

set_option maxRecDepth 100000 in
set_option maxHeartbeats 4000000 in
theorem rcheck_3 : Calls Try.prog 22 #[.agg (rwC 3 b n f re im t)] w (Ans (.int .i64 (if It.ok ⟨3, b, n, f, re, im, t⟩ then 0 else 40)) w) := by
  have HF := fun u => Lib.hid (nought_is f hf u)
  have HR := fun u => Lib.hid (nought_is re hre u)
  have HI := fun u => Lib.hid (nought_is im him u)
  cases b
  · cases ht : emptyB t
    · obtain ⟨ht1, ht2⟩ := empty_no ht
      rw [show It.ok ⟨3, false, n, f, re, im, t⟩ = false by simp [It.ok, *]]
      go_enter Try.func22, Try.ntmps22
      go_upto_region 1 with (fail)
      have hB := Blk.new w 32 (rwC 3 false n f re im t)
      have hO := Lib.hid ((Only.refl NoneOf w).alloc (.cells (rwC 3 false n f re im t) 32))
      generalize w.alloc (.cells (rwC 3 false n f re im t) 32) = W at *
      obtain ⟨c0, c1, c2, c3, c4, c5, c6⟩ := blk7 hB
      go_wp2_with (go_at_call 47; first | (refine (HF _).out.mono ?_; rintro e w1 ⟨rfl, rfl⟩) | (refine (HR _).out.mono ?_; rintro e w1 ⟨rfl, rfl⟩) | (refine (HI _).out.mono ?_; rintro e w1 ⟨rfl, rfl⟩))
      go_ret
      exact ⟨rfl, hO.out⟩
    · obtain ⟨ht1, ht2⟩ := empty_yes ht
      cases z1 : isZeroB f
      · rw [show It.ok ⟨3, false, n, f, re, im, t⟩ = false by simp [It.ok, *]]
        go_enter Try.func22, Try.ntmps22
        go_upto_region 1 with (fail)
        have hB := Blk.new w 32 (rwC 3 false n f re im t)
        have hO := Lib.hid ((Only.refl NoneOf w).alloc (.cells (rwC 3 false n f re im t) 32))
        generalize w.alloc (.cells (rwC 3 false n f re im t) 32) = W at *
        obtain ⟨c0, c1, c2, c3, c4, c5, c6⟩ := blk7 hB
        go_wp2_with (go_at_call 47; first | (refine (HF _).out.mono ?_; rintro e w1 ⟨rfl, rfl⟩) | (refine (HR _).out.mono ?_; rintro e w1 ⟨rfl, rfl⟩) | (refine (HI _).out.mono ?_; rintro e w1 ⟨rfl, rfl⟩))
        go_ret
        exact ⟨rfl, hO.out⟩
      · cases z2 : isZeroB re
        · rw [show It.ok ⟨3, false, n, f, re, im, t⟩ = false by simp [It.ok, *]]
          go_enter Try.func22, Try.ntmps22
          go_upto_region 1 with (fail)
          have hB := Blk.new w 32 (rwC 3 false n f re im t)
          have hO := Lib.hid ((Only.refl NoneOf w).alloc (.cells (rwC 3 false n f re im t) 32))
          generalize w.alloc (.cells (rwC 3 false n f re im t) 32) = W at *
          obtain ⟨c0, c1, c2, c3, c4, c5, c6⟩ := blk7 hB
          go_wp2_with (go_at_call 47; first | (refine (HF _).out.mono ?_; rintro e w1 ⟨rfl, rfl⟩) | (refine (HR _).out.mono ?_; rintro e w1 ⟨rfl, rfl⟩) | (refine (HI _).out.mono ?_; rintro e w1 ⟨rfl, rfl⟩))
          go_ret
          exact ⟨rfl, hO.out⟩
        · cases z3 : isZeroB im
          · rw [show It.ok ⟨3, false, n, f, re, im, t⟩ = false by simp [It.ok, *]]
            go_enter Try.func22, Try.ntmps22
            go_upto_region 1 with (fail)
            have hB := Blk.new w 32 (rwC 3 false n f re im t)
            have hO := Lib.hid ((Only.refl NoneOf w).alloc (.cells (rwC 3 false n f re im t) 32))
            generalize w.alloc (.cells (rwC 3 false n f re im t) 32) = W at *
            obtain ⟨c0, c1, c2, c3, c4, c5, c6⟩ := blk7 hB
            go_wp2_with (go_at_call 47; first | (refine (HF _).out.mono ?_; rintro e w1 ⟨rfl, rfl⟩) | (refine (HR _).out.mono ?_; rintro e w1 ⟨rfl, rfl⟩) | (refine (HI _).out.mono ?_; rintro e w1 ⟨rfl, rfl⟩))
            go_ret
            exact ⟨rfl, hO.out⟩
          · rw [show It.ok ⟨3, false, n, f, re, im, t⟩ = true by simp [It.ok, *]]
            go_enter Try.func22, Try.ntmps22
            go_upto_region 1 with (fail)
            have hB := Blk.new w 32 (rwC 3 false n f re im t)
            have hO := Lib.hid ((Only.refl NoneOf w).alloc (.cells (rwC 3 false n f re im t) 32))
            generalize w.alloc (.cells (rwC 3 false n f re im t) 32) = W at *
            obtain ⟨c0, c1, c2, c3, c4, c5, c6⟩ := blk7 hB
            go_wp2_with (go_at_call 47; first | (refine (HF _).out.mono ?_; rintro e w1 ⟨rfl, rfl⟩) | (refine (HR _).out.mono ?_; rintro e w1 ⟨rfl, rfl⟩) | (refine (HI _).out.mono ?_; rintro e w1 ⟨rfl, rfl⟩))
            go_ret
            exact ⟨rfl, hO.out⟩
  · rw [show It.ok ⟨3, true, n, f, re, im, t⟩ = false by simp [It.ok, *]]
    go_enter Try.func22, Try.ntmps22
    go_upto_region 1 with (fail)
    have hB := Blk.new w 32 (rwC 3 true n f re im t)
    have hO := Lib.hid ((Only.refl NoneOf w).alloc (.cells (rwC 3 true n f re im t) 32))
    generalize w.alloc (.cells (rwC 3 true n f re im t) 32) = W at *
    obtain ⟨c0, c1, c2, c3, c4, c5, c6⟩ := blk7 hB
    go_wp2_with (go_at_call 47; first | (refine (HF _).out.mono ?_; rintro e w1 ⟨rfl, rfl⟩) | (refine (HR _).out.mono ?_; rintro e w1 ⟨rfl, rfl⟩) | (refine (HI _).out.mono ?_; rintro e w1 ⟨rfl, rfl⟩))
    go_ret
    exact ⟨rfl, hO.out⟩

set_option maxRecDepth 100000 in
set_option maxHeartbeats 4000000 in
theorem rcheck_4 : Calls Try.prog 22 #[.agg (rwC 4 b n f re im t)] w (Ans (.int .i64 (if It.ok ⟨4, b, n, f, re, im, t⟩ then 0 else 40)) w) := by
  have HF := fun u => Lib.hid (nought_is f hf u)
  have HR := fun u => Lib.hid (nought_is re hre u)
  have HI := fun u => Lib.hid (nought_is im him u)
  cases b
  · by_cases hn : n = 0
    · subst hn
      cases ht : emptyB t
      · obtain ⟨ht1, ht2⟩ := empty_no ht
        rw [show It.ok ⟨4, false, 0, f, re, im, t⟩ = false by simp [It.ok, *]]
        go_enter Try.func22, Try.ntmps22
        go_upto_region 1 with (fail)
        have hB := Blk.new w 32 (rwC 4 false 0 f re im t)
        have hO := Lib.hid ((Only.refl NoneOf w).alloc (.cells (rwC 4 false 0 f re im t) 32))
        generalize w.alloc (.cells (rwC 4 false 0 f re im t) 32) = W at *
        obtain ⟨c0, c1, c2, c3, c4, c5, c6⟩ := blk7 hB
        go_wp2_with (go_at_call 47; first | (refine (HF _).out.mono ?_; rintro e w1 ⟨rfl, rfl⟩) | (refine (HR _).out.mono ?_; rintro e w1 ⟨rfl, rfl⟩) | (refine (HI _).out.mono ?_; rintro e w1 ⟨rfl, rfl⟩))
        go_ret
        exact ⟨rfl, hO.out⟩
      · obtain ⟨ht1, ht2⟩ := empty_yes ht
        cases z2 : isZeroB re
        · rw [show It.ok ⟨4, false, 0, f, re, im, t⟩ = false by simp [It.ok, *]]
          go_enter Try.func22, Try.ntmps22
          go_upto_region 1 with (fail)
          have hB := Blk.new w 32 (rwC 4 false 0 f re im t)
          have hO := Lib.hid ((Only.refl NoneOf w).alloc (.cells (rwC 4 false 0 f re im t) 32))
          generalize w.alloc (.cells (rwC 4 false 0 f re im t) 32) = W at *
          obtain ⟨c0, c1, c2, c3, c4, c5, c6⟩ := blk7 hB
          go_wp2_with (go_at_call 47; first | (refine (HF _).out.mono ?_; rintro e w1 ⟨rfl, rfl⟩) | (refine (HR _).out.mono ?_; rintro e w1 ⟨rfl, rfl⟩) | (refine (HI _).out.mono ?_; rintro e w1 ⟨rfl, rfl⟩))
          go_ret
          exact ⟨rfl, hO.out⟩
        · cases z3 : isZeroB im
          · rw [show It.ok ⟨4, false, 0, f, re, im, t⟩ = false by simp [It.ok, *]]
            go_enter Try.func22, Try.ntmps22
            go_upto_region 1 with (fail)
            have hB := Blk.new w 32 (rwC 4 false 0 f re im t)
            have hO := Lib.hid ((Only.refl NoneOf w).alloc (.cells (rwC 4 false 0 f re im t) 32))
            generalize w.alloc (.cells (rwC 4 false 0 f re im t) 32) = W at *
            obtain ⟨c0, c1, c2, c3, c4, c5, c6⟩ := blk7 hB
            go_wp2_with (go_at_call 47; first | (refine (HF _).out.mono ?_; rintro e w1 ⟨rfl, rfl⟩) | (refine (HR _).out.mono ?_; rintro e w1 ⟨rfl, rfl⟩) | (refine (HI _).out.mono ?_; rintro e w1 ⟨rfl, rfl⟩))
            go_ret
            exact ⟨rfl, hO.out⟩
          · rw [show It.ok ⟨4, false, 0, f, re, im, t⟩ = true by simp [It.ok, *]]
            go_enter Try.func22, Try.ntmps22
            go_upto_region 1 with (fail)
            have hB := Blk.new w 32 (rwC 4 false 0 f re im t)
            have hO := Lib.hid ((Only.refl NoneOf w).alloc (.cells (rwC 4 false 0 f re im t) 32))
            generalize w.alloc (.cells (rwC 4 false 0 f re im t) 32) = W at *
            obtain ⟨c0, c1, c2, c3, c4, c5, c6⟩ := blk7 hB
            go_wp2_with (go_at_call 47; first | (refine (HF _).out.mono ?_; rintro e w1 ⟨rfl, rfl⟩) | (refine (HR _).out.mono ?_; rintro e w1 ⟨rfl, rfl⟩) | (refine (HI _).out.mono ?_; rintro e w1 ⟨rfl, rfl⟩))
            go_ret
            exact ⟨rfl, hO.out⟩
    · have hn1 : (n == 0) = false := by simpa using hn
      have hn2 : (n != 0) = true := by simpa using hn
      rw [show It.ok ⟨4, false, n, f, re, im, t⟩ = false by simp [It.ok, *]]
      go_enter Try.func22, Try.ntmps22
      go_upto_region 1 with (fail)
      have hB := Blk.new w 32 (rwC 4 false n f re im t)
      have hO := Lib.hid ((Only.refl NoneOf w).alloc (.cells (rwC 4 false n f re im t) 32))
      generalize w.alloc (.cells (rwC 4 false n f re im t) 32) = W at *
      obtain ⟨c0, c1, c2, c3, c4, c5, c6⟩ := blk7 hB
      go_wp2_with (go_at_call 47; first | (refine (HF _).out.mono ?_; rintro e w1 ⟨rfl, rfl⟩) | (refine (HR _).out.mono ?_; rintro e w1 ⟨rfl, rfl⟩) | (refine (HI _).out.mono ?_; rintro e w1 ⟨rfl, rfl⟩))
      go_ret
      exact ⟨rfl, hO.out⟩
  · rw [show It.ok ⟨4, true, n, f, re, im, t⟩ = false by simp [It.ok, *]]
    go_enter Try.func22, Try.ntmps22
    go_upto_region 1 with (fail)
    have hB := Blk.new w 32 (rwC 4 true n f re im t)
    have hO := Lib.hid ((Only.refl NoneOf w).alloc (.cells (rwC 4 true n f re im t) 32))
    generalize w.alloc (.cells (rwC 4 true n f re im t) 32) = W at *
    obtain ⟨c0, c1, c2, c3, c4, c5, c6⟩ := blk7 hB
    go_wp2_with (go_at_call 47; first | (refine (HF _).out.mono ?_; rintro e w1 ⟨rfl, rfl⟩) | (refine (HR _).out.mono ?_; rintro e w1 ⟨rfl, rfl⟩) | (refine (HI _).out.mono ?_; rintro e w1 ⟨rfl, rfl⟩))
    go_ret
    exact ⟨rfl, hO.out⟩

set_option maxRecDepth 100000 in
set_option maxHeartbeats 4000000 in
theorem rcheck_5 : Calls Try.prog 22 #[.agg (rwC 5 b n f re im t)] w (Ans (.int .i64 (if It.ok ⟨5, b, n, f, re, im, t⟩ then 0 else 40)) w) := by
  have HF := fun u => Lib.hid (nought_is f hf u)
  have HR := fun u => Lib.hid (nought_is re hre u)
  have HI := fun u => Lib.hid (nought_is im him u)
  cases b
  · by_cases hn : n = 0
    · subst hn
      cases ht : emptyB t
      · obtain ⟨ht1, ht2⟩ := empty_no ht
        rw [show It.ok ⟨5, false, 0, f, re, im, t⟩ = false by simp [It.ok, *]]
        go_enter Try.func22, Try.ntmps22
        go_upto_region 1 with (fail)
        have hB := Blk.new w 32 (rwC 5 false 0 f re im t)
        have hO := Lib.hid ((Only.refl NoneOf w).alloc (.cells (rwC 5 false 0 f re im t) 32))
        generalize w.alloc (.cells (rwC 5 false 0 f re im t) 32) = W at *
        obtain ⟨c0, c1, c2, c3, c4, c5, c6⟩ := blk7 hB
        go_wp2_with (go_at_call 47; first | (refine (HF _).out.mono ?_; rintro e w1 ⟨rfl, rfl⟩) | (refine (HR _).out.mono ?_; rintro e w1 ⟨rfl, rfl⟩) | (refine (HI _).out.mono ?_; rintro e w1 ⟨rfl, rfl⟩))
        go_ret
        exact ⟨rfl, hO.out⟩
      · obtain ⟨ht1, ht2⟩ := empty_yes ht
        cases z1 : isZeroB f
        · rw [show It.ok ⟨5, false, 0, f, re, im, t⟩ = false by simp [It.ok, *]]
          go_enter Try.func22, Try.ntmps22
          go_upto_region 1 with (fail)
          have hB := Blk.new w 32 (rwC 5 false 0 f re im t)
          have hO := Lib.hid ((Only.refl NoneOf w).alloc (.cells (rwC 5 false 0 f re im t) 32))
          generalize w.alloc (.cells (rwC 5 false 0 f re im t) 32) = W at *
          obtain ⟨c0, c1, c2, c3, c4, c5, c6⟩ := blk7 hB
          go_wp2_with (go_at_call 47; first | (refine (HF _).out.mono ?_; rintro e w1 ⟨rfl, rfl⟩) | (refine (HR _).out.mono ?_; rintro e w1 ⟨rfl, rfl⟩) | (refine (HI _).out.mono ?_; rintro e w1 ⟨rfl, rfl⟩))
          go_ret
          exact ⟨rfl, hO.out⟩
        · rw [show It.ok ⟨5, false, 0, f, re, im, t⟩ = true by simp [It.ok, *]]
          go_enter Try.func22, Try.ntmps22
          go_upto_region 1 with (fail)
          have hB := Blk.new w 32 (rwC 5 false 0 f re im t)
          have hO := Lib.hid ((Only.refl NoneOf w).alloc (.cells (rwC 5 false 0 f re im t) 32))
          generalize w.alloc (.cells (rwC 5 false 0 f re im t) 32) = W at *
          obtain ⟨c0, c1, c2, c3, c4, c5, c6⟩ := blk7 hB
          go_wp2_with (go_at_call 47; first | (refine (HF _).out.mono ?_; rintro e w1 ⟨rfl, rfl⟩) | (refine (HR _).out.mono ?_; rintro e w1 ⟨rfl, rfl⟩) | (refine (HI _).out.mono ?_; rintro e w1 ⟨rfl, rfl⟩))
          go_ret
          exact ⟨rfl, hO.out⟩
    · have hn1 : (n == 0) = false := by simpa using hn
      have hn2 : (n != 0) = true := by simpa using hn
      rw [show It.ok ⟨5, false, n, f, re, im, t⟩ = false by simp [It.ok, *]]
      go_enter Try.func22, Try.ntmps22
      go_upto_region 1 with (fail)
      have hB := Blk.new w 32 (rwC 5 false n f re im t)
      have hO := Lib.hid ((Only.refl NoneOf w).alloc (.cells (rwC 5 false n f re im t) 32))
      generalize w.alloc (.cells (rwC 5 false n f re im t) 32) = W at *
      obtain ⟨c0, c1, c2, c3, c4, c5, c6⟩ := blk7 hB
      go_wp2_with (go_at_call 47; first | (refine (HF _).out.mono ?_; rintro e w1 ⟨rfl, rfl⟩) | (refine (HR _).out.mono ?_; rintro e w1 ⟨rfl, rfl⟩) | (refine (HI _).out.mono ?_; rintro e w1 ⟨rfl, rfl⟩))
      go_ret
      exact ⟨rfl, hO.out⟩
  · rw [show It.ok ⟨5, true, n, f, re, im, t⟩ = false by simp [It.ok, *]]
    go_enter Try.func22, Try.ntmps22
    go_upto_region 1 with (fail)
    have hB := Blk.new w 32 (rwC 5 true n f re im t)
    have hO := Lib.hid ((Only.refl NoneOf w).alloc (.cells (rwC 5 true n f re im t) 32))
    generalize w.alloc (.cells (rwC 5 true n f re im t) 32) = W at *
    obtain ⟨c0, c1, c2, c3, c4, c5, c6⟩ := blk7 hB
    go_wp2_with (go_at_call 47; first | (refine (HF _).out.mono ?_; rintro e w1 ⟨rfl, rfl⟩) | (refine (HR _).out.mono ?_; rintro e w1 ⟨rfl, rfl⟩) | (refine (HI _).out.mono ?_; rintro e w1 ⟨rfl, rfl⟩))
    go_ret
    exact ⟨rfl, hO.out⟩

set_option maxRecDepth 100000 in
set_option maxHeartbeats 4000000 in
theorem rcheck_6 : Calls Try.prog 22 #[.agg (rwC 6 b n f re im t)] w (Ans (.int .i64 (if It.ok ⟨6, b, n, f, re, im, t⟩ then 0 else 40)) w) := by
  have HF := fun u => Lib.hid (nought_is f hf u)
  have HR := fun u => Lib.hid (nought_is re hre u)
  have HI := fun u => Lib.hid (nought_is im him u)
  cases b
  · by_cases hn : n = 0
    · subst hn
      cases z1 : isZeroB f
      · rw [show It.ok ⟨6, false, 0, f, re, im, t⟩ = false by simp [It.ok, *]]
        go_enter Try.func22, Try.ntmps22
        go_upto_region 1 with (fail)
        have hB := Blk.new w 32 (rwC 6 false 0 f re im t)
        have hO := Lib.hid ((Only.refl NoneOf w).alloc (.cells (rwC 6 false 0 f re im t) 32))
        generalize w.alloc (.cells (rwC 6 false 0 f re im t) 32) = W at *
        obtain ⟨c0, c1, c2, c3, c4, c5, c6⟩ := blk7 hB
        go_wp2_with (go_at_call 47; first | (refine (HF _).out.mono ?_; rintro e w1 ⟨rfl, rfl⟩) | (refine (HR _).out.mono ?_; rintro e w1 ⟨rfl, rfl⟩) | (refine (HI _).out.mono ?_; rintro e w1 ⟨rfl, rfl⟩))
        go_ret
        exact ⟨rfl, hO.out⟩
      · cases z2 : isZeroB re
        · rw [show It.ok ⟨6, false, 0, f, re, im, t⟩ = false by simp [It.ok, *]]
          go_enter Try.func22, Try.ntmps22
          go_upto_region 1 with (fail)
          have hB := Blk.new w 32 (rwC 6 false 0 f re im t)
          have hO := Lib.hid ((Only.refl NoneOf w).alloc (.cells (rwC 6 false 0 f re im t) 32))
          generalize w.alloc (.cells (rwC 6 false 0 f re im t) 32) = W at *
          obtain ⟨c0, c1, c2, c3, c4, c5, c6⟩ := blk7 hB
          go_wp2_with (go_at_call 47; first | (refine (HF _).out.mono ?_; rintro e w1 ⟨rfl, rfl⟩) | (refine (HR _).out.mono ?_; rintro e w1 ⟨rfl, rfl⟩) | (refine (HI _).out.mono ?_; rintro e w1 ⟨rfl, rfl⟩))
          go_ret
          exact ⟨rfl, hO.out⟩
        · cases z3 : isZeroB im
          · rw [show It.ok ⟨6, false, 0, f, re, im, t⟩ = false by simp [It.ok, *]]
            go_enter Try.func22, Try.ntmps22
            go_upto_region 1 with (fail)
            have hB := Blk.new w 32 (rwC 6 false 0 f re im t)
            have hO := Lib.hid ((Only.refl NoneOf w).alloc (.cells (rwC 6 false 0 f re im t) 32))
            generalize w.alloc (.cells (rwC 6 false 0 f re im t) 32) = W at *
            obtain ⟨c0, c1, c2, c3, c4, c5, c6⟩ := blk7 hB
            go_wp2_with (go_at_call 47; first | (refine (HF _).out.mono ?_; rintro e w1 ⟨rfl, rfl⟩) | (refine (HR _).out.mono ?_; rintro e w1 ⟨rfl, rfl⟩) | (refine (HI _).out.mono ?_; rintro e w1 ⟨rfl, rfl⟩))
            go_ret
            exact ⟨rfl, hO.out⟩
          · rw [show It.ok ⟨6, false, 0, f, re, im, t⟩ = true by simp [It.ok, *]]
            go_enter Try.func22, Try.ntmps22
            go_upto_region 1 with (fail)
            have hB := Blk.new w 32 (rwC 6 false 0 f re im t)
            have hO := Lib.hid ((Only.refl NoneOf w).alloc (.cells (rwC 6 false 0 f re im t) 32))
            generalize w.alloc (.cells (rwC 6 false 0 f re im t) 32) = W at *
            obtain ⟨c0, c1, c2, c3, c4, c5, c6⟩ := blk7 hB
            go_wp2_with (go_at_call 47; first | (refine (HF _).out.mono ?_; rintro e w1 ⟨rfl, rfl⟩) | (refine (HR _).out.mono ?_; rintro e w1 ⟨rfl, rfl⟩) | (refine (HI _).out.mono ?_; rintro e w1 ⟨rfl, rfl⟩))
            go_ret
            exact ⟨rfl, hO.out⟩
    · have hn1 : (n == 0) = false := by simpa using hn
      have hn2 : (n != 0) = true := by simpa using hn
      rw [show It.ok ⟨6, false, n, f, re, im, t⟩ = false by simp [It.ok, *]]
      go_enter Try.func22, Try.ntmps22
      go_upto_region 1 with (fail)
      have hB := Blk.new w 32 (rwC 6 false n f re im t)
      have hO := Lib.hid ((Only.refl NoneOf w).alloc (.cells (rwC 6 false n f re im t) 32))
      generalize w.alloc (.cells (rwC 6 false n f re im t) 32) = W at *
      obtain ⟨c0, c1, c2, c3, c4, c5, c6⟩ := blk7 hB
      go_wp2_with (go_at_call 47; first | (refine (HF _).out.mono ?_; rintro e w1 ⟨rfl, rfl⟩) | (refine (HR _).out.mono ?_; rintro e w1 ⟨rfl, rfl⟩) | (refine (HI _).out.mono ?_; rintro e w1 ⟨rfl, rfl⟩))
      go_ret
      exact ⟨rfl, hO.out⟩
  · rw [show It.ok ⟨6, true, n, f, re, im, t⟩ = false by simp [It.ok, *]]
    go_enter Try.func22, Try.ntmps22
    go_upto_region 1 with (fail)
    have hB := Blk.new w 32 (rwC 6 true n f re im t)
    have hO := Lib.hid ((Only.refl NoneOf w).alloc (.cells (rwC 6 true n f re im t) 32))
    generalize w.alloc (.cells (rwC 6 true n f re im t) 32) = W at *
    obtain ⟨c0, c1, c2, c3, c4, c5, c6⟩ := blk7 hB
    go_wp2_with (go_at_call 47; first | (refine (HF _).out.mono ?_; rintro e w1 ⟨rfl, rfl⟩) | (refine (HR _).out.mono ?_; rintro e w1 ⟨rfl, rfl⟩) | (refine (HI _).out.mono ?_; rintro e w1 ⟨rfl, rfl⟩))
    go_ret
    exact ⟨rfl, hO.out⟩
end

theorem rcheck_is (x : It) (hf : x.f < 18446744073709551616) (hre : x.re < 18446744073709551616) (him : x.im < 18446744073709551616) (w : World) : Calls Try.prog 22 #[.agg x.r] w (Ans (.int .i64 (if x.ok then 0 else 40)) w) := by
  obtain ⟨k, b, n, f, re, im, t⟩ := x
  by_cases h0 : 1 ≤ k
  · by_cases h1 : k ≤ 6
    · have : k = 1 ∨ k = 2 ∨ k = 3 ∨ k = 4 ∨ k = 5 ∨ k = 6 := by omega
      rcases this with rfl | rfl | rfl | rfl | rfl | rfl
      · exact rcheck_1 b n f re im t w hf hre him
      · exact rcheck_2 b n f re im t w hf hre him
      · exact rcheck_3 b n f re im t w hf hre him
      · exact rcheck_4 b n f re im t w hf hre him
      · exact rcheck_5 b n f re im t w hf hre him
      · exact rcheck_6 b n f re im t w hf hre him
    · have e : It.ok ⟨k, b, n, f, re, im, t⟩ = false := by simp [It.ok]; omega
      rw [e]
      exact rcheck_high k b n f re im t w h0 (by omega)
  · have e : It.ok ⟨k, b, n, f, re, im, t⟩ = false := by simp [It.ok]; omega
    rw [e]
    exact rcheck_low k b n f re im t w (by omega)

end Go.Proofs.Ytimoenpfnaaehaa
