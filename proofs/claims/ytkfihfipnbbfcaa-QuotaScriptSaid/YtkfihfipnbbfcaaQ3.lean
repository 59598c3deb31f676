/-
  Layer 15: 'head', and the law QuotaRoom walked.
-/
import Derived.Test.YtkfihfipnbbfcaaQ2
namespace Go.Proofs.Ytkfihfipnbbfcaa
open Go.RowKit

theorem only_on {w w1 w2 : World} {b : Nat} (h : Only NoneOf w w1) (k : Only (· = b) w1 w2) (hb : w.heap.size ≤ b) : Only NoneOf w w2 :=
  h.step k fun k hk e => by subst e; omega

theorem ac100 : Ac.Ok ⟨100, 2, 0, 0, 0⟩ := by constructor <;> decide

set_option maxHeartbeats 400000 in
theorem head_any (w : World) : Calls Try.prog 15 #[] w fun e w' => e = .returned (.bool true) ∧ Only NoneOf w w' := by
  have W0 := fun u => Lib.hid (new_ok 100 2 0 0 0 u (by decide) (by decide) (by decide) (by decide))
  go_enter Try.func15, Try.ntmps15
  go_wp2_with fail
  refine (W0 _).out.mono ?_; rintro e w1 ⟨b, rfl, hb, ha1, ho1⟩
  go_wp2_with fail
  refine (begin_ok b _ _ ha1 (by constructor <;> decide) (by decide)).mono ?_; rintro e w2 ⟨rfl, ha2, ho2⟩
  go_wp2_with fail
  refine (charge_ok b _ 0 60 _ ha2 (by constructor <;> decide) (by decide) (by decide) (by decide) (by decide) (by decide)).mono ?_; rintro e w3 ⟨rfl, ha3, ho3⟩
  go_wp2_with fail
  refine (charge_much b _ 0 41 _ ha3 (by constructor <;> decide) (by decide) (by decide) (by decide) (by decide) (by decide)).mono ?_; rintro e w4 ⟨rfl, ha4, ho4⟩
  go_wp2_with fail
  refine (used_has b _ _ ha4 (by constructor <;> decide)).mono ?_; rintro e w5 ⟨rfl, n5, rfl⟩
  go_wp2_with fail
  refine (open_has b _ _ (ha4.drewN _)).mono ?_; rintro e w6 ⟨rfl, rfl⟩
  go_wp2_with fail
  go_ret
  exact ⟨rfl, (only_on (only_on (only_on ho1 ho2 hb) ho3 hb) ho4 hb).drewN _⟩

/-- How a law ends: true; nothing that was there has turned. -/
def LPost (w : World) (e : Ending) (w' : World) : Prop := e = .returned (.bool true) ∧ Only NoneOf w w'

abbrev opCells (k i q o x : Int) : Array Value := #[.int .i64 k, .int .i64 i, .int .i64 q, .int .i64 o, .int .i64 x]

set_option maxHeartbeats 400000 in
theorem room_bad (k i q o x live n : Int) (w : World) (h : ¬ Limits q o) :
    Calls Try.prog 3 #[.agg (opCells k i q o x), .int .i64 live, .int .i64 n] w (LPost w) := by
  have W0 := fun u => Lib.hid (head_any u)
  have W1 := fun u => Lib.hid (made_bad k i q o x u h); clear h
  have hB := Blk.new w 23 (opCells k i q o x)
  have HO := Lib.hid ((Only.refl NoneOf w).alloc (.cells (opCells k i q o x) 23))
  go_enter Try.func3, Try.ntmps3
  go_wp2_with fail
  refine (W0 _).out.mono ?_; rintro e w1 ⟨rfl, ho1⟩
  have hB1 := hB.only ho1 (fun h => h)
  have b0 := hB1.cellv 0 rfl
  have b1 := hB1.cellv 1 rfl
  have b2 := hB1.cellv 2 rfl
  have b3 := hB1.cellv 3 rfl
  have b4 := hB1.cellv 4 rfl
  go_wp2_with fail
  refine (W1 _).out.mono ?_; rintro e w2 ⟨rfl, ho2⟩
  go_wp2_with fail
  go_ret
  exact ⟨rfl, (HO.out.trans ho1).trans ho2⟩


set_option maxHeartbeats 400000 in
theorem room_settle_arg (k i q o x live n : Int) (w : World) (h : Limits q o) (hl : ¬ (0 ≤ live ∧ live ≤ 1048576)) :
    Calls Try.prog 3 #[.agg (opCells k i q o x), .int .i64 live, .int .i64 n] w (LPost w) := by
  have W0 := fun u => Lib.hid (head_any u)
  have W1 := fun u => Lib.hid (made_ok k i q o x u h)
  obtain ⟨q0, q1, o0, o1⟩ := h
  have ok : Ac.Ok ⟨q, o, 0, 0, 0⟩ := by constructor <;> simp <;> omega
  have W2 := fun b u hu => Lib.hid (settle_arg b _ live u hu ok hl)
  have hB := Blk.new w 23 (opCells k i q o x)
  have HO := Lib.hid ((Only.refl NoneOf w).alloc (.cells (opCells k i q o x) 23))
  have hl2 : live < 0 ∨ q < live := by omega
  clear hl
  go_enter Try.func3, Try.ntmps3
  go_wp2_with fail
  refine (W0 _).out.mono ?_; rintro e w1 ⟨rfl, ho1⟩
  have hB1 := hB.only ho1 (fun h => h)
  have b0 := hB1.cellv 0 rfl
  have b1 := hB1.cellv 1 rfl
  have b2 := hB1.cellv 2 rfl
  have b3 := hB1.cellv 3 rfl
  have b4 := hB1.cellv 4 rfl
  go_wp2_with fail
  refine (W1 _).out.mono ?_; rintro e w2 ⟨b, rfl, hb, ha2, ho2⟩
  clear b0 b1 b2 b3 b4
  go_wp2_with fail
  refine (W2 _ _ ha2).out.mono ?_; rintro e w3 ⟨rfl, ha3, ho3⟩
  have hs2 := Lib.hid ho2.size
  have b2 := ((hB1.only ho2 (fun h => h)).only ho3 (by have := hB1.lt; omega)).cellv 2 rfl
  have hw : w.heap.size ≤ w1.heap.size := (HO.out.trans ho1).size
  rcases hl2 with hl2 | hl2
  · go_wp2_with fail
    refine (used_has b _ _ ha3 ok).mono ?_; rintro e w5 ⟨rfl, n5, rfl⟩
    go_wp2_with fail
    go_ret
    exact ⟨rfl, (only_on ((HO.out.trans ho1).trans ho2) ho3 (by omega)).drewN _⟩
  · by_cases hl3 : live < 0
    · go_wp2_with fail
      refine (used_has b _ _ ha3 ok).mono ?_; rintro e w5 ⟨rfl, n5, rfl⟩
      go_wp2_with fail
      go_ret
      exact ⟨rfl, (only_on ((HO.out.trans ho1).trans ho2) ho3 (by omega)).drewN _⟩
    · go_wp2_with fail
      refine (used_has b _ _ ha3 ok).mono ?_; rintro e w5 ⟨rfl, n5, rfl⟩
      go_wp2_with fail
      go_ret
      exact ⟨rfl, (only_on ((HO.out.trans ho1).trans ho2) ho3 (by omega)).drewN _⟩

set_option maxHeartbeats 400000 in
theorem room_settle_much (k i q o x live n : Int) (w : World) (h : Limits q o) (l0 : 0 ≤ live) (l1 : live ≤ 1048576) (l2 : q < live) :
    Calls Try.prog 3 #[.agg (opCells k i q o x), .int .i64 live, .int .i64 n] w (LPost w) := by
  have W0 := fun u => Lib.hid (head_any u)
  have W1 := fun u => Lib.hid (made_ok k i q o x u h)
  obtain ⟨q0, q1, o0, o1⟩ := h
  have ok : Ac.Ok ⟨q, o, 0, 0, 0⟩ := by constructor <;> simp <;> omega
  have W2 := fun b u hu => Lib.hid (settle_much b _ live u hu ok l0 l1 (by simpa using l2))
  have hB := Blk.new w 23 (opCells k i q o x)
  have HO := Lib.hid ((Only.refl NoneOf w).alloc (.cells (opCells k i q o x) 23))
  go_enter Try.func3, Try.ntmps3
  go_wp2_with fail
  refine (W0 _).out.mono ?_; rintro e w1 ⟨rfl, ho1⟩
  have hB1 := hB.only ho1 (fun h => h)
  have b0 := hB1.cellv 0 rfl
  have b1 := hB1.cellv 1 rfl
  have b2 := hB1.cellv 2 rfl
  have b3 := hB1.cellv 3 rfl
  have b4 := hB1.cellv 4 rfl
  go_wp2_with fail
  refine (W1 _).out.mono ?_; rintro e w2 ⟨b, rfl, hb, ha2, ho2⟩
  clear b0 b1 b2 b3 b4
  have hs2 := Lib.hid ho2.size
  have hw : w.heap.size ≤ w1.heap.size := (HO.out.trans ho1).size
  go_wp2_with fail
  refine (W2 _ _ ha2).out.mono ?_; rintro e w3 ⟨rfl, ha3, ho3⟩
  have hB3 := (hB1.only ho2 (fun h => h)).only ho3 (by have := hB1.lt; omega)
  have b2 := hB3.cellv 2 rfl
  go_wp2_with fail
  refine (used_has b _ _ ha3 ok).mono ?_; rintro e w5 ⟨rfl, n5, rfl⟩
  go_wp2_with fail
  go_ret
  exact ⟨rfl, (only_on ((HO.out.trans ho1).trans ho2) ho3 (by omega)).drewN _⟩

set_option maxHeartbeats 400000 in
theorem room_n_low (k i q o x live n : Int) (w : World) (h : Limits q o) (l0 : 0 ≤ live) (l2 : live ≤ q) (nn : n < 0) :
    Calls Try.prog 3 #[.agg (opCells k i q o x), .int .i64 live, .int .i64 n] w (LPost w) := by
  have W0 := fun u => Lib.hid (head_any u)
  have W1 := fun u => Lib.hid (made_ok k i q o x u h)
  obtain ⟨q0, q1, o0, o1⟩ := h
  have ok : Ac.Ok ⟨q, o, 0, 0, 0⟩ := by constructor <;> simp <;> omega
  have W2 := fun b u hu => Lib.hid (settle_ok b _ live u hu ok l0 (by omega) (by simpa using l2))
  have ok3 : Ac.Ok ⟨q, o, live, 0, 0⟩ := by constructor <;> simp <;> omega
  have hB := Blk.new w 23 (opCells k i q o x)
  have HO := Lib.hid ((Only.refl NoneOf w).alloc (.cells (opCells k i q o x) 23))
  go_enter Try.func3, Try.ntmps3
  go_wp2_with fail
  refine (W0 _).out.mono ?_; rintro e w1 ⟨rfl, ho1⟩
  have hB1 := hB.only ho1 (fun h => h)
  have b0 := hB1.cellv 0 rfl
  have b1 := hB1.cellv 1 rfl
  have b2 := hB1.cellv 2 rfl
  have b3 := hB1.cellv 3 rfl
  have b4 := hB1.cellv 4 rfl
  go_wp2_with fail
  refine (W1 _).out.mono ?_; rintro e w2 ⟨b, rfl, hb, ha2, ho2⟩
  clear b0 b1 b2 b3 b4
  have hs2 := Lib.hid ho2.size
  have hw : w.heap.size ≤ w1.heap.size := (HO.out.trans ho1).size
  go_wp2_with fail
  refine (W2 _ _ ha2).out.mono ?_; rintro e w3 ⟨rfl, ha3, ho3⟩
  have hB3 := (hB1.only ho2 (fun h => h)).only ho3 (by have := hB1.lt; omega)
  have b2 := hB3.cellv 2 rfl
  go_wp2_with fail
  refine (used_has b _ _ ha3 ok3).mono ?_; rintro e w5 ⟨rfl, n5, rfl⟩
  go_wp2_with fail
  go_ret
  exact ⟨rfl, (only_on ((HO.out.trans ho1).trans ho2) ho3 (by omega)).drewN _⟩

set_option maxHeartbeats 400000 in
theorem room_n_high (k i q o x live n : Int) (w : World) (h : Limits q o) (l0 : 0 ≤ live) (l2 : live ≤ q) (nn : 1048576 < n) :
    Calls Try.prog 3 #[.agg (opCells k i q o x), .int .i64 live, .int .i64 n] w (LPost w) := by
  have W0 := fun u => Lib.hid (head_any u)
  have W1 := fun u => Lib.hid (made_ok k i q o x u h)
  obtain ⟨q0, q1, o0, o1⟩ := h
  have ok : Ac.Ok ⟨q, o, 0, 0, 0⟩ := by constructor <;> simp <;> omega
  have W2 := fun b u hu => Lib.hid (settle_ok b _ live u hu ok l0 (by omega) (by simpa using l2))
  have ok3 : Ac.Ok ⟨q, o, live, 0, 0⟩ := by constructor <;> simp <;> omega
  have hB := Blk.new w 23 (opCells k i q o x)
  have HO := Lib.hid ((Only.refl NoneOf w).alloc (.cells (opCells k i q o x) 23))
  go_enter Try.func3, Try.ntmps3
  go_wp2_with fail
  refine (W0 _).out.mono ?_; rintro e w1 ⟨rfl, ho1⟩
  have hB1 := hB.only ho1 (fun h => h)
  have b0 := hB1.cellv 0 rfl
  have b1 := hB1.cellv 1 rfl
  have b2 := hB1.cellv 2 rfl
  have b3 := hB1.cellv 3 rfl
  have b4 := hB1.cellv 4 rfl
  go_wp2_with fail
  refine (W1 _).out.mono ?_; rintro e w2 ⟨b, rfl, hb, ha2, ho2⟩
  clear b0 b1 b2 b3 b4
  have hs2 := Lib.hid ho2.size
  have hw : w.heap.size ≤ w1.heap.size := (HO.out.trans ho1).size
  go_wp2_with fail
  refine (W2 _ _ ha2).out.mono ?_; rintro e w3 ⟨rfl, ha3, ho3⟩
  have hB3 := (hB1.only ho2 (fun h => h)).only ho3 (by have := hB1.lt; omega)
  have b2 := hB3.cellv 2 rfl
  go_wp2_with fail
  refine (used_has b _ _ ha3 ok3).mono ?_; rintro e w5 ⟨rfl, n5, rfl⟩
  go_wp2_with fail
  go_ret
  exact ⟨rfl, (only_on ((HO.out.trans ho1).trans ho2) ho3 (by omega)).drewN _⟩

set_option maxHeartbeats 400000 in
theorem room_n_ok (k i q o x live n : Int) (w : World) (h : Limits q o) (l0 : 0 ≤ live) (l2 : live ≤ q) (nn : 0 ≤ n) (n1 : n ≤ q - live) :
    Calls Try.prog 3 #[.agg (opCells k i q o x), .int .i64 live, .int .i64 n] w (LPost w) := by
  have W0 := fun u => Lib.hid (head_any u)
  have W1 := fun u => Lib.hid (made_ok k i q o x u h)
  obtain ⟨q0, q1, o0, o1⟩ := h
  have ok : Ac.Ok ⟨q, o, 0, 0, 0⟩ := by constructor <;> simp <;> omega
  have W2 := fun b u hu => Lib.hid (settle_ok b _ live u hu ok l0 (by omega) (by simpa using l2))
  have ok3 : Ac.Ok ⟨q, o, live, 0, 0⟩ := by constructor <;> simp <;> omega
  have W3 := fun b u hu => Lib.hid (charge_ok b _ 0 n u hu ok3 (by omega) (by simp) nn (by omega) (by simp; omega))
  have ok4 : Ac.Ok ⟨q, o, live, 0 + (n - 0), 0⟩ := by constructor <;> simp <;> omega
  have hp : 0 + (n - 0) = n := by omega
  have HP := Lib.hid hp; clear hp
  have hB := Blk.new w 23 (opCells k i q o x)
  have HO := Lib.hid ((Only.refl NoneOf w).alloc (.cells (opCells k i q o x) 23))
  go_enter Try.func3, Try.ntmps3
  go_wp2_with fail
  refine (W0 _).out.mono ?_; rintro e w1 ⟨rfl, ho1⟩
  have hB1 := hB.only ho1 (fun h => h)
  have b0 := hB1.cellv 0 rfl
  have b1 := hB1.cellv 1 rfl
  have b2 := hB1.cellv 2 rfl
  have b3 := hB1.cellv 3 rfl
  have b4 := hB1.cellv 4 rfl
  go_wp2_with fail
  refine (W1 _).out.mono ?_; rintro e w2 ⟨b, rfl, hb, ha2, ho2⟩
  clear b0 b1 b2 b3 b4
  have hs2 := Lib.hid ho2.size
  have hw : w.heap.size ≤ w1.heap.size := (HO.out.trans ho1).size
  go_wp2_with fail
  refine (W2 _ _ ha2).out.mono ?_; rintro e w3 ⟨rfl, ha3, ho3⟩
  have hB3 := (hB1.only ho2 (fun h => h)).only ho3 (by have := hB1.lt; omega)
  have b2 := hB3.cellv 2 rfl
  go_wp2_with fail
  refine (used_has b _ _ ha3 ok3).mono ?_; rintro e w5 ⟨rfl, n5, rfl⟩
  go_wp2_with fail
  refine (W3 _ _ (ha3.drewN _)).out.mono ?_; rintro e w6 ⟨rfl, ha6, ho6⟩
  clear b2
  rw [HP.out] at ha6 ok4
  have hs3 := Lib.hid ho3.size
  have c2 := ((hB3.drewN n5).only ho6 (by have := hB1.lt; omega)).cellv 2 rfl
  go_wp2_with fail
  refine (used_has b _ _ ha6 ok4).mono ?_; rintro e w7 ⟨rfl, n7, rfl⟩
  go_wp2_with fail
  refine (pending_has b _ _ (ha6.drewN _)).mono ?_; rintro e w8 ⟨rfl, rfl⟩
  go_wp2_with fail
  go_ret
  exact ⟨rfl, (only_on ((only_on ((HO.out.trans ho1).trans ho2) ho3 (by omega)).drewN _) ho6 (by omega)).drewN _⟩

set_option maxHeartbeats 400000 in
theorem room_n_much (k i q o x live n : Int) (w : World) (h : Limits q o) (l0 : 0 ≤ live) (l2 : live ≤ q) (nn : 0 ≤ n) (nm : n ≤ 1048576) (n1 : q - live < n) :
    Calls Try.prog 3 #[.agg (opCells k i q o x), .int .i64 live, .int .i64 n] w (LPost w) := by
  have W0 := fun u => Lib.hid (head_any u)
  have W1 := fun u => Lib.hid (made_ok k i q o x u h)
  obtain ⟨q0, q1, o0, o1⟩ := h
  have ok : Ac.Ok ⟨q, o, 0, 0, 0⟩ := by constructor <;> simp <;> omega
  have W2 := fun b u hu => Lib.hid (settle_ok b _ live u hu ok l0 (by omega) (by simpa using l2))
  have ok3 : Ac.Ok ⟨q, o, live, 0, 0⟩ := by constructor <;> simp <;> omega
  have W3 := fun b u hu => Lib.hid (charge_much b _ 0 n u hu ok3 (by omega) (by simp) nn nm (by simp; omega))
  have hB := Blk.new w 23 (opCells k i q o x)
  have HO := Lib.hid ((Only.refl NoneOf w).alloc (.cells (opCells k i q o x) 23))
  go_enter Try.func3, Try.ntmps3
  go_wp2_with fail
  refine (W0 _).out.mono ?_; rintro e w1 ⟨rfl, ho1⟩
  have hB1 := hB.only ho1 (fun h => h)
  have b0 := hB1.cellv 0 rfl
  have b1 := hB1.cellv 1 rfl
  have b2 := hB1.cellv 2 rfl
  have b3 := hB1.cellv 3 rfl
  have b4 := hB1.cellv 4 rfl
  go_wp2_with fail
  refine (W1 _).out.mono ?_; rintro e w2 ⟨b, rfl, hb, ha2, ho2⟩
  clear b0 b1 b2 b3 b4
  have hs2 := Lib.hid ho2.size
  have hw : w.heap.size ≤ w1.heap.size := (HO.out.trans ho1).size
  go_wp2_with fail
  refine (W2 _ _ ha2).out.mono ?_; rintro e w3 ⟨rfl, ha3, ho3⟩
  have hB3 := (hB1.only ho2 (fun h => h)).only ho3 (by have := hB1.lt; omega)
  have b2 := hB3.cellv 2 rfl
  go_wp2_with fail
  refine (used_has b _ _ ha3 ok3).mono ?_; rintro e w5 ⟨rfl, n5, rfl⟩
  go_wp2_with fail
  refine (W3 _ _ (ha3.drewN _)).out.mono ?_; rintro e w6 ⟨rfl, ha6, ho6⟩
  clear b2
  have hs3 := Lib.hid ho3.size
  have c2 := ((hB3.drewN n5).only ho6 (by have := hB1.lt; omega)).cellv 2 rfl
  go_wp2_with fail
  refine (used_has b _ _ ha6 ok3).mono ?_; rintro e w7 ⟨rfl, n7, rfl⟩
  go_wp2_with fail
  refine (pending_has b _ _ (ha6.drewN _)).mono ?_; rintro e w8 ⟨rfl, rfl⟩
  go_wp2_with fail
  go_ret
  exact ⟨rfl, (only_on ((only_on ((HO.out.trans ho1).trans ho2) ho3 (by omega)).drewN _) ho6 (by omega)).drewN _⟩

theorem room_any (k i q o x live n : Int) (w : World) : Calls Try.prog 3 #[.agg (opCells k i q o x), .int .i64 live, .int .i64 n] w (LPost w) := by
  by_cases h : Limits q o
  · by_cases h1 : 0 ≤ live ∧ live ≤ 1048576
    · by_cases h2 : q < live
      · exact room_settle_much k i q o x live n w h h1.1 h1.2 h2
      · by_cases h3 : n < 0
        · exact room_n_low k i q o x live n w h h1.1 (by omega) h3
        · by_cases h4 : 1048576 < n
          · exact room_n_high k i q o x live n w h h1.1 (by omega) h4
          · by_cases h5 : n ≤ q - live
            · exact room_n_ok k i q o x live n w h h1.1 (by omega) (by omega) h5
            · exact room_n_much k i q o x live n w h h1.1 (by omega) (by omega) (by omega) (by omega)
    · exact room_settle_arg k i q o x live n w h h1
  · exact room_bad k i q o x live n w h

end Go.Proofs.Ytkfihfipnbbfcaa
