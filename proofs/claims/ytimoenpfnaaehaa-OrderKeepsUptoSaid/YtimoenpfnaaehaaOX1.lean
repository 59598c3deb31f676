/-
  Layer 4: marks, and items that are the same (functions 40, 42, 64, 41).
-/
import Derived.Test.YtimoenpfnaaehaaOW6
namespace Go.Proofs.Ytimoenpfnaaehaa
open Go.RowKit

abbrev markT : ByteArray := ⟨#[109, 97, 114, 107]⟩
/-- an item that no list has -/
def mark (n : Nat) : It := ⟨1000 + (n : Int), false, 0, 0, 0, 0, markT⟩

set_option maxRecDepth 100000 in
set_option maxHeartbeats 400000 in
theorem marked_is (n : Nat) (w : World) (hn : n ≤ 1000000) : Calls Try.prog 40 #[.int .i64 n] w (Ans (.agg (mark n).c) w) := by
  have HW := Lib.hid (show wrap64 (1000 + (n : Int)) = 1000 + (n : Int) by unfold wrap64; omega)
  have B2 := Blk.new w 29 itZ
  have HO := Lib.hid (((Only.refl NoneOf w).alloc (.cells itZ 29)).row (b := w.heap.size) (.inr (Nat.le_refl _)) (mark n).c)
  go_enter Try.func40, Try.ntmps40
  go_wp2_with (refine wpList_store_row rfl 29 (.tmp 2) (.tmp 5) rfl w.heap.size (itC (1000 + (n : Int)) false 0 0 0 0 markT) rfl rfl 29 itZ B2 info29 rfl (one_itC _ _ _ _ _ _ _) ?_)
  exact bodyPost_ret (v := .agg (mark n).c) (results_cell_row rfl _ _ _ 29 _ (0, 0) _ rfl (B2.row (mark n).c) Try.underlying29 rfl info29) rfl ⟨rfl, HO.out⟩

set_option maxRecDepth 100000 in
set_option maxHeartbeats 400000 in
theorem isMark_is (n : Nat) (w : World) (hn : n ≤ 1000000) : Calls Try.prog 42 #[.agg (mark n).c, .int .i64 n] w (Ans (.bool true) w) := by
  have B2 := Blk.new w 29 (mark n).c
  obtain ⟨c0, c1, c2, c3, c4, c5⟩ := blk6 B2
  have HO := Lib.hid ((Only.refl NoneOf w).alloc (.cells (mark n).c 29))
  go_enter Try.func42, Try.ntmps42
  go_wp2_with fail
  go_ret
  exact ⟨by simp [mark], HO.out⟩

set_option maxRecDepth 100000 in
set_option maxHeartbeats 400000 in
theorem sameFloat_is (a : Nat) (w : World) : Calls Try.prog 64 #[.float .f64 a, .float .f64 a] w (Same (.bool true) w) := by
  have H1 := ord_self a
  have H2 := ord_ne_eq a a
  cases h : isNaNB a
  · rw [h] at H1 H2
    have h2 : (ord a a == some .eq) = true := by rw [H2]; simp
    clear H2
    go_enter Try.func64, Try.ntmps64
    go_wp2_with fail
    go_ret
    exact ⟨by simp, rfl⟩
  · rw [h] at H1 H2
    have h2 : (ord a a == some .eq) = false := by rw [H2]; simp
    clear H2
    go_enter Try.func64, Try.ntmps64
    go_wp2_with fail
    go_ret
    exact ⟨by simp, rfl⟩

set_option maxRecDepth 100000 in
set_option maxHeartbeats 1000000 in
theorem same_is (k : Int) (b : Bool) (n : Int) (f re im : Nat) (t : ByteArray) (w : World) : Calls Try.prog 41 #[.agg (itC k b n f re im t), .agg (itC k b n f re im t)] w (Ans (.bool true) w) := by
  have H := fun a u => Lib.hid (sameFloat_is a u)
  obtain ⟨B1, B2, O⟩ := new2 w 29 29 (itC k b n f re im t) (itC k b n f re im t)
  have HO := Lib.hid O
  obtain ⟨c0, c1, c2, c3, c4, c5⟩ := blk6 B1
  obtain ⟨d0, d1, d2, d3, d4, d5⟩ := blk6 B2
  clear O B1 B2
  go_enter Try.func41, Try.ntmps41
  go_wp2_with fail
  refine (H f _).out.mono ?_; rintro e w1 ⟨rfl, rfl⟩
  go_wp2_with fail
  refine (H re _).out.mono ?_; rintro e w1 ⟨rfl, rfl⟩
  go_wp2_with fail
  refine (H im _).out.mono ?_; rintro e w1 ⟨rfl, rfl⟩
  go_wp2_with fail
  go_ret
  exact ⟨by simp, HO.out⟩

end Go.Proofs.Ytimoenpfnaaehaa
