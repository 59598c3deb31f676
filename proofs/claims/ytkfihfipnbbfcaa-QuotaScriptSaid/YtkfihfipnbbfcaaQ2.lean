/-
  Layer 15's account: the contracts of its calls, second part.
-/
import Derived.Test.YtkfihfipnbbfcaaQ1
namespace Go.Proofs.Ytkfihfipnbbfcaa
open Go.RowKit

set_option maxHeartbeats 400000 in
theorem end_none (b : Nat) (s : Ac) (x : Int) (w : World) (h : AcIs w b s) (ok : s.Ok) (hn : s.opened ≤ 0) :
    Calls Try.prog 25 #[.pointer (some ⟨b, 0, none⟩), .int .i64 x] w (AcPost b 2 s w) := by
  obtain ⟨c0, c1, c2, c3, c4, f2, f3, f4⟩ := h.facts
  obtain ⟨m0, m1, o0, o1, l0, p0, u1, n0, n1⟩ := ok
  have e0 : (s.opened == 0) = true := beq_iff_eq.2 (by omega)
  go_enter Try.func25, Try.ntmps25
  go_wp2_with fail
  go_ret
  exact ⟨rfl, h, Only.refl _ _⟩

set_option maxHeartbeats 400000 in
theorem end_arg (b : Nat) (s : Ac) (x : Int) (w : World) (h : AcIs w b s) (ok : s.Ok) (hn : 0 < s.opened) (hx : ¬ (0 ≤ x ∧ x ≤ s.pending)) :
    Calls Try.prog 25 #[.pointer (some ⟨b, 0, none⟩), .int .i64 x] w (AcPost b 2 s w) := by
  obtain ⟨c0, c1, c2, c3, c4, f2, f3, f4⟩ := h.facts
  obtain ⟨m0, m1, o0, o1, l0, p0, u1, n0, n1⟩ := ok
  have e0 : (s.opened == 0) = false := beq_eq_false_iff_ne.2 (by omega)
  have W := Lib.hid (within_no _ _ w hx); clear hx
  go_enter Try.func25, Try.ntmps25
  go_wp2_with fail
  refine W.out.mono ?_; rintro e w' ⟨rfl, rfl⟩
  go_wp2_with fail
  go_ret
  exact ⟨rfl, h, Only.refl _ _⟩

set_option maxHeartbeats 400000 in
theorem end_ok (b : Nat) (s : Ac) (x : Int) (w : World) (h : AcIs w b s) (ok : s.Ok) (hn : 0 < s.opened) (hx0 : 0 ≤ x) (hx1 : x ≤ s.pending) :
    Calls Try.prog 25 #[.pointer (some ⟨b, 0, none⟩), .int .i64 x] w (AcPost b 0 { s with opened := s.opened - 1, pending := s.pending - x } w) := by
  obtain ⟨c0, c1, c2, c3, c4, f2, f3, f4⟩ := h.facts
  obtain ⟨m0, m1, o0, o1, l0, p0, u1, n0, n1⟩ := ok
  have e0 : (s.opened == 0) = false := beq_eq_false_iff_ne.2 (by omega)
  have W := Lib.hid (within_yes _ _ w hx0 hx1)
  go_enter Try.func25, Try.ntmps25
  go_wp2_with fail
  refine W.out.mono ?_; rintro e w' ⟨rfl, rfl⟩
  go_wp2_with fail
  go_ret
  exact ⟨rfl, (h.put 4 _).put 3 _, ((Only.refl (· = b) w).put (.inl rfl) _).put (.inl rfl) _⟩

set_option maxHeartbeats 400000 in
theorem settle_arg (b : Nat) (s : Ac) (x : Int) (w : World) (h : AcIs w b s) (ok : s.Ok) (hx : ¬ (0 ≤ x ∧ x ≤ 1048576)) :
    Calls Try.prog 17 #[.pointer (some ⟨b, 0, none⟩), .int .i64 x] w (AcPost b 2 s w) := by
  obtain ⟨c0, c1, c2, c3, c4, f2, f3, f4⟩ := h.facts
  obtain ⟨m0, m1, o0, o1, l0, p0, u1, n0, n1⟩ := ok
  have W := Lib.hid (within_no _ _ w hx); clear hx
  go_enter Try.func17, Try.ntmps17
  go_wp2_with fail
  refine W.out.mono ?_; rintro e w' ⟨rfl, rfl⟩
  go_wp2_with fail
  go_ret
  exact ⟨rfl, h, Only.refl _ _⟩

set_option maxHeartbeats 400000 in
theorem settle_much (b : Nat) (s : Ac) (x : Int) (w : World) (h : AcIs w b s) (ok : s.Ok) (hx0 : 0 ≤ x) (hx1 : x ≤ 1048576) (hm : s.most < x + s.pending) :
    Calls Try.prog 17 #[.pointer (some ⟨b, 0, none⟩), .int .i64 x] w (AcPost b 150 s w) := by
  obtain ⟨c0, c1, c2, c3, c4, f2, f3, f4⟩ := h.facts
  obtain ⟨m0, m1, o0, o1, l0, p0, u1, n0, n1⟩ := ok
  have W := Lib.hid (within_yes _ _ w hx0 hx1)
  go_enter Try.func17, Try.ntmps17
  go_wp2_with fail
  refine W.out.mono ?_; rintro e w' ⟨rfl, rfl⟩
  go_wp2_with fail
  go_quiet (fail)
  go_wp2_with fail
  go_ret
  exact ⟨rfl, h.drewN _, (Only.refl _ _).drewN _⟩

set_option maxHeartbeats 400000 in
theorem settle_ok (b : Nat) (s : Ac) (x : Int) (w : World) (h : AcIs w b s) (ok : s.Ok) (hx0 : 0 ≤ x) (hx1 : x ≤ 1048576) (hm : x + s.pending ≤ s.most) :
    Calls Try.prog 17 #[.pointer (some ⟨b, 0, none⟩), .int .i64 x] w (AcPost b 0 { s with live := x } w) := by
  obtain ⟨c0, c1, c2, c3, c4, f2, f3, f4⟩ := h.facts
  obtain ⟨m0, m1, o0, o1, l0, p0, u1, n0, n1⟩ := ok
  have W := Lib.hid (within_yes _ _ w hx0 hx1)
  go_enter Try.func17, Try.ntmps17
  go_wp2_with fail
  refine W.out.mono ?_; rintro e w' ⟨rfl, rfl⟩
  go_wp2_with fail
  go_quiet (fail)
  go_wp2_with fail
  go_ret
  exact ⟨rfl, (h.drewN _).put 2 _, ((Only.refl (· = b) w).drewN _).put (.inl rfl) _⟩

set_option maxHeartbeats 400000 in
theorem pending_has (b : Nat) (s : Ac) (w : World) (h : AcIs w b s) :
    Calls Try.prog 20 #[.pointer (some ⟨b, 0, none⟩)] w fun e w' => e = .returned (.int .i64 s.pending) ∧ w = w' := by
  obtain ⟨c0, c1, c2, c3, c4, f2, f3, f4⟩ := h.facts
  go_enter Try.func20, Try.ntmps20
  go_wp2_with fail
  go_ret
  exact ⟨rfl, rfl⟩

set_option maxHeartbeats 400000 in
theorem open_has (b : Nat) (s : Ac) (w : World) (h : AcIs w b s) :
    Calls Try.prog 29 #[.pointer (some ⟨b, 0, none⟩)] w fun e w' => e = .returned (.int .i64 s.opened) ∧ w = w' := by
  obtain ⟨c0, c1, c2, c3, c4, f2, f3, f4⟩ := h.facts
  go_enter Try.func29, Try.ntmps29
  go_wp2_with fail
  go_ret
  exact ⟨rfl, rfl⟩

def NewPost (q o : Int) (w : World) (e : Ending) (w' : World) : Prop :=
  ∃ b, e = .returned (.tuple #[.pointer (some ⟨b, 0, none⟩), .int .i64 0]) ∧ w.heap.size ≤ b ∧ AcIs w' b ⟨q, o, 0, 0, 0⟩ ∧ Only NoneOf w w'

def NewBad (w : World) (e : Ending) (w' : World) : Prop :=
  e = .returned (.tuple #[.pointer none, .int .i64 2]) ∧ Only NoneOf w w'

set_option maxHeartbeats 400000 in
theorem new_ok (q o x y z : Int) (w : World) (h0 : 0 ≤ q) (h1 : q ≤ 1048576) (h2 : 0 ≤ o) (h3 : o ≤ 32) :
    Calls Try.prog 48 #[.agg #[.int .i64 q, .int .i64 o, .int .i64 x, .int .i64 y, .int .i64 z]] w (NewPost q o w) := by
  have W := fun u => Lib.hid (within_yes _ _ u h0 h1)
  have W2 := fun u => Lib.hid (within_yes _ _ u h2 h3)
  go_enter Try.func48, Try.ntmps48
  go_wp2_with fail
  refine (W _).out.mono ?_; rintro e w' ⟨rfl, rfl⟩
  go_wp2_with fail
  refine (W2 _).out.mono ?_; rintro e w' ⟨rfl, rfl⟩
  go_wp2_with fail
  go_ret2
  exact ⟨_, rfl, by simp, Blk.new' _ _ _ (by simp), ((Only.refl NoneOf w).alloc _).alloc _⟩

set_option maxHeartbeats 400000 in
theorem new_bad1 (q o x y z : Int) (w : World) (h : ¬ (0 ≤ q ∧ q ≤ 1048576)) :
    Calls Try.prog 48 #[.agg #[.int .i64 q, .int .i64 o, .int .i64 x, .int .i64 y, .int .i64 z]] w (NewBad w) := by
  have W := fun u => Lib.hid (within_no _ _ u h); clear h
  go_enter Try.func48, Try.ntmps48
  go_wp2_with fail
  refine (W _).out.mono ?_; rintro e w' ⟨rfl, rfl⟩
  go_wp2_with fail
  go_ret2
  exact ⟨rfl, (Only.refl NoneOf w).alloc _⟩

set_option maxHeartbeats 400000 in
theorem new_bad2 (q o x y z : Int) (w : World) (h0 : 0 ≤ q) (h1 : q ≤ 1048576) (h : ¬ (0 ≤ o ∧ o ≤ 32)) :
    Calls Try.prog 48 #[.agg #[.int .i64 q, .int .i64 o, .int .i64 x, .int .i64 y, .int .i64 z]] w (NewBad w) := by
  have W := fun u => Lib.hid (within_yes _ _ u h0 h1)
  have W2 := fun u => Lib.hid (within_no _ _ u h); clear h
  go_enter Try.func48, Try.ntmps48
  go_wp2_with fail
  refine (W _).out.mono ?_; rintro e w' ⟨rfl, rfl⟩
  go_wp2_with fail
  refine (W2 _).out.mono ?_; rintro e w' ⟨rfl, rfl⟩
  go_wp2_with fail
  go_ret2
  exact ⟨rfl, (Only.refl NoneOf w).alloc _⟩

def Limits (q o : Int) : Prop := 0 ≤ q ∧ q ≤ 1048576 ∧ 0 ≤ o ∧ o ≤ 32

theorem new_bad (q o x y z : Int) (w : World) (h : ¬ Limits q o) :
    Calls Try.prog 48 #[.agg #[.int .i64 q, .int .i64 o, .int .i64 x, .int .i64 y, .int .i64 z]] w (NewBad w) := by
  by_cases h1 : 0 ≤ q ∧ q ≤ 1048576
  · exact new_bad2 q o x y z w h1.1 h1.2 fun h2 => h ⟨h1.1, h1.2, h2.1, h2.2⟩
  · exact new_bad1 q o x y z w h1

theorem only_past {w w' : World} {o : Obj} (h : Only NoneOf (w.alloc o) w') : Only NoneOf w w' := ((Only.refl NoneOf w).alloc o).trans h

set_option maxHeartbeats 400000 in
theorem made_bad (k i q o x : Int) (w : World) (h : ¬ Limits q o) :
    Calls Try.prog 16 #[.agg #[.int .i64 k, .int .i64 i, .int .i64 q, .int .i64 o, .int .i64 x]] w (NewBad w) := by
  have W := fun u => Lib.hid (new_bad q o x x x u h); clear h
  go_enter Try.func16, Try.ntmps16
  go_wp2_with fail
  refine (W _).out.mono ?_; rintro e w' ⟨rfl, ho⟩
  go_wp2_with fail
  go_ret2
  exact ⟨rfl, only_past ho⟩

set_option maxHeartbeats 400000 in
theorem made_ok (k i q o x : Int) (w : World) (h : Limits q o) :
    Calls Try.prog 16 #[.agg #[.int .i64 k, .int .i64 i, .int .i64 q, .int .i64 o, .int .i64 x]] w (NewPost q o w) := by
  have W := fun u => Lib.hid (new_ok q o x x x u h.1 h.2.1 h.2.2.1 h.2.2.2); clear h
  go_enter Try.func16, Try.ntmps16
  go_wp2_with fail
  refine (W _).out.mono ?_; rintro e w' ⟨b, rfl, hb, ha, ho⟩
  go_wp2_with fail
  go_ret2
  exact ⟨b, rfl, by simp at hb; omega, ha, only_past ho⟩

end Go.Proofs.Ytkfihfipnbbfcaa
