/-
  Layer 13's law ChainKinds walked: chains of numbers and of lists.
-/
import Derived.Test.YtkfihfipnbbfcaaCAs
import Derived.Test.YtkfihfipnbbfcaaC5i
import Derived.Test.YtkfihfipnbbfcaaC4i
import Derived.Test.YtkfihfipnbbfcaaC5b
namespace Go.Proofs.Ytkfihfipnbbfcaa
open Go.RowKit

theorem new_int (w : World) : Ci.ChIs (w.alloc (.cells #[.slice none 0 0] 87)) w.heap.size (.slice none 0 0) [] :=
  ⟨Blk.new _ _ _, ⟨rfl, .inl ⟨rfl, rfl⟩⟩, (fun l hl => by cases hl), ⟨(fun l hl => by cases hl), List.Pairwise.nil⟩, by simp⟩
theorem new_bytes (w : World) : Cb.ChIs (w.alloc (.cells #[.slice none 0 0] 91)) w.heap.size (.slice none 0 0) [] :=
  ⟨Blk.new _ _ _, ⟨rfl, .inl ⟨rfl, rfl⟩⟩, (fun l hl => by cases hl), ⟨(fun l hl => by cases hl), List.Pairwise.nil⟩, by simp⟩
theorem foot_i (p k : Nat) : Ci.Foot p (.slice none 0 0) k → k = p := fun h => by
  rcases h with h | h
  · exact h
  · simp [Value.ownBlock] at h
theorem foot_b (p k : Nat) : Cb.Foot p (.slice none 0 0) k → k = p := fun h => by
  rcases h with h | h
  · exact h
  · simp [Value.ownBlock] at h

set_option maxRecDepth 100000 in
set_option maxHeartbeats 2000000 in
theorem kinds_neg (n x : Int) (A : Option Addr) (m c : Nat) (w : World) (hn : n < 0) :
    Calls Try.prog 14 #[.int .i64 n, .int .i64 x, .slice A m c] w fun e w' => e = .returned (.bool true) ∧ Only NoneOf w w' := by
  have hI := (new_int w).alloc (.cells #[.slice none 0 0] 91)
  have hB := new_bytes (w.alloc (.cells #[.slice none 0 0] 87))
  rw [World.size_alloc] at hB
  have hO := Lib.hid (((Only.refl NoneOf w).alloc (.cells #[.slice none 0 0] 87)).alloc (.cells #[.slice none 0 0] 91))
  go_enter Try.func14, Try.ntmps14
  go_wp2_with fail
  refine (Ci.add_low _ _ _ [] n x false hI hn).mono ?_; rintro e w1 ⟨rfl, ho1⟩
  have hI1 := hI.keep ho1
  have hB1 := hB.keep ho1
  have hO1 := Lib.hid (hO.out.trans ho1)
  clear ho1 hI hB
  go_wp2_with fail
  refine (Cb.add_low _ _ _ [] n (A, m, c) true hB1 hn).mono ?_; rintro e w2 ⟨rfl, ho2⟩
  have hI2 := hI1.keep ho2
  have hB2 := hB1.keep ho2
  have hO2 := Lib.hid (hO1.out.trans ho2)
  clear ho2 hI1 hB1
  go_wp2_with fail
  refine (Ci.at_none _ _ _ [] n hI2 rfl).mono ?_; rintro e w3 ⟨rfl, ho3⟩
  have hB3 := (hB2.keep ho3).alloc (.cells #[.int .i64 0, .int .i64 0, .bool false] 94)
  have hX3 := Blk.new w3 94 #[.int .i64 0, .int .i64 0, .bool false]
  have hO3 := Lib.hid ((hO2.out.trans ho3).alloc (.cells #[.int .i64 0, .int .i64 0, .bool false] 94))
  clear ho3 hI2 hB2
  go_wp2_with fail
  refine (Cb.last_empty _ _ _ hB3).mono ?_; rintro e w4 ⟨rfl, ho4⟩
  have hX4 := (hX3.only ho4 (fun h => h)).alloc (.cells #[.int .i64 0, .slice none 0 0, .bool false] 97)
  have hO4 := Lib.hid ((hO3.out.trans ho4).alloc (.cells #[.int .i64 0, .slice none 0 0, .bool false] 97))
  have hlt := (hX3.only ho4 (fun h => h)).lt
  have x1 := (hX3.only ho4 (fun h => h)).cellv 1 rfl
  clear ho4 hB3 hX3 hX4
  go_wp2_with fail
  refine (Cs.awake_any _).mono ?_; rintro e w5 ⟨rfl, ho5⟩
  have hO5 := Lib.hid (hO4.out.trans ho5)
  go_wp2_with fail
  go_ret
  exact ⟨rfl, hO5.out⟩

set_option maxRecDepth 100000 in
set_option maxHeartbeats 2000000 in
theorem kinds_pos (n x : Int) (A : Option Addr) (m c : Nat) (S : ByteArray) (w : World) (hn : 0 ≤ n) (hcv : ∀ u, Only NoneOf w u → (convert 83 9 (.slice A m c)).run Try.prog u = .ok (.string S) u) :
    Calls Try.prog 14 #[.int .i64 n, .int .i64 x, .slice A m c] w fun e w' => e = .returned (.bool true) ∧ Only NoneOf w w' := by
  have HC := Lib.hid hcv
  clear hcv
  have hI := (new_int w).alloc (.cells #[.slice none 0 0] 91)
  have hB := new_bytes (w.alloc (.cells #[.slice none 0 0] 87))
  rw [World.size_alloc] at hB
  have hO := Lib.hid (((Only.refl NoneOf w).alloc (.cells #[.slice none 0 0] 87)).alloc (.cells #[.slice none 0 0] 91))
  go_enter Try.func14, Try.ntmps14
  go_wp2_with fail
  refine (Ci.add_ok _ _ _ [] n x false hI hn (fun a ha => by cases ha) (by simp)).mono ?_; rintro e w1 ⟨v1, rfl, hI1, ho1, hf1⟩
  have hF1 : ∀ k, Ci.Foot w.heap.size v1 k → k = w.heap.size ∨ w.heap.size + 2 ≤ k := fun k hk => by
    rcases hf1 k hk with h | h
    · exact .inl (foot_i _ _ h)
    · simp at h; exact .inr h
  have hB1 := hB.only ho1 (fun k hk hh => by have := foot_b _ _ hk; have := foot_i _ _ hh; omega)
  have hO1 := Lib.hid (hO.out.step ho1 (fun k hk hh => by have := foot_i _ _ hh; omega))
  have HF1 := Lib.hid hF1
  clear ho1 hI hB hf1 hF1
  go_wp2_with fail
  refine (Cb.add_ok _ _ _ [] n (A, m, c) true hB1 hn (fun a ha => by cases ha) (by simp)).mono ?_; rintro e w2 ⟨v2, rfl, hB2, ho2, hf2⟩
  have hI2 := hI1.only ho2 (fun k hk hh => by have := HF1.out k hk; have := foot_b _ _ hh; omega)
  have hO2 := Lib.hid (hO1.out.step ho2 (fun k hk hh => by have := foot_b _ _ hh; omega))
  clear ho2 hI1 hB1 hf2
  have hc1 : cnt ([] ++ [(⟨n, .int .i64 x, false⟩ : Lk)]) n = 0 + 1 := by simp [cnt, List.takeWhile]
  go_wp2_with fail
  refine (Ci.at_has _ _ _ _ n 0 _ hI2 hc1 rfl).mono ?_; rintro e w3 ⟨rfl, ho3⟩
  simp only [Lk.cells]
  have hI3 := (hI2.keep ho3).alloc (.cells #[.int .i64 n, .int .i64 x, .bool false] 94)
  have hB3 := (hB2.keep ho3).alloc (.cells #[.int .i64 n, .int .i64 x, .bool false] 94)
  have hX3 := Blk.new w3 94 #[.int .i64 n, .int .i64 x, .bool false]
  have hO3 := Lib.hid ((hO2.out.trans ho3).alloc (.cells #[.int .i64 n, .int .i64 x, .bool false] 94))
  clear ho3 hI2 hB2 hc1
  go_wp2_with fail
  refine (Cb.last_has _ _ _ [] _ hB3).mono ?_; rintro e w4 ⟨rfl, ho4⟩
  simp only [Lk.cells]
  have hX4 := hX3.only ho4 (fun h => h)
  have hI4 := (hI3.keep ho4).alloc (.cells #[.int .i64 n, .slice A m c, .bool true] 97)
  have hO4 := Lib.hid ((hO3.out.trans ho4).alloc (.cells #[.int .i64 n, .slice A m c, .bool true] 97))
  have hlt := hX4.lt
  have x0 := hX4.cellv 0 rfl
  have x1 := hX4.cellv 1 rfl
  have x2 := hX4.cellv 2 rfl
  have cv := HC.out _ hO4.out
  clear ho4 hB3 hX3
  go_wp2_with fail
  refine (Ci.len_has _ _ _ _ 1 hI4 rfl).mono ?_; rintro e w5 ⟨rfl, rfl⟩
  go_wp2_with fail
  refine (Cs.awake_any _).mono ?_; rintro e w6 ⟨rfl, ho6⟩
  have hO6 := Lib.hid (hO4.out.trans ho6)
  go_wp2_with fail
  go_ret
  exact ⟨rfl, hO6.out⟩

end Go.Proofs.Ytkfihfipnbbfcaa
