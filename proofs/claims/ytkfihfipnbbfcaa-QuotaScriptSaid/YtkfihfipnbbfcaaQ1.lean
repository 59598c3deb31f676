/-
  Layer 15's account: the contracts of its calls.
-/
import Derived.Test.YtkfihfipnbbfcaaHeap
import Derived.WalkKit
import Derived.WalkSpells
import Derived.WalkLawsBesides
import Derived.Deep.QuietTactic
import Derived.BigQuiet
import Derived.Lib.Hide
namespace Go.Proofs.Ytkfihfipnbbfcaa
open Go.RowKit

theorem within_any (n m : Int) (w : World) : Calls Try.prog 49 #[.int .i64 n, .int .i64 m] w fun e w' => e = .returned (.bool (decide (0 ≤ n ∧ n ≤ m))) ∧ w = w' := by
  by_cases h : 0 ≤ n
  · by_cases h2 : n ≤ m
    · go_enter Try.func49, Try.ntmps49
      go_wp2
      go_ret
      exact ⟨by simp [h, h2], rfl⟩
    · go_enter Try.func49, Try.ntmps49
      go_wp2
      go_ret
      exact ⟨by simp [h2], rfl⟩
  · go_enter Try.func49, Try.ntmps49
    go_wp2
    go_ret
    exact ⟨by simp; omega, rfl⟩

/-- An account's fields. -/
structure Ac where
  most : Int
  mostOpen : Int
  live : Int
  pending : Int
  opened : Int

def Ac.cells (s : Ac) : Array Value := #[.int .i64 s.most, .int .i64 s.mostOpen, .int .i64 s.live, .int .i64 s.pending, .int .i64 s.opened]

/-- What every account keeps. -/
structure Ac.Ok (s : Ac) : Prop where
  m0 : 0 ≤ s.most
  m1 : s.most ≤ 1048576
  o0 : 0 ≤ s.mostOpen
  o1 : s.mostOpen ≤ 32
  l0 : 0 ≤ s.live
  p0 : 0 ≤ s.pending
  u1 : s.live + s.pending ≤ s.most
  n0 : 0 ≤ s.opened
  n1 : s.opened ≤ s.mostOpen

def AcIs (w : World) (b : Nat) (s : Ac) : Prop := Blk w b 108 s.cells

/-- How a call on an account ends: an int; the account's block alone has turned. -/
def AcPost (b : Nat) (c : Int) (s' : Ac) (w : World) (e : Ending) (w' : World) : Prop :=
  e = .returned (.int .i64 c) ∧ AcIs w' b s' ∧ Only (· = b) w w'

theorem AcIs.facts {w : World} {b : Nat} {s : Ac} (h : AcIs w b s) :
    w.cell? ⟨b, 0, none⟩ = some (.int .i64 s.most) ∧ w.cell? ⟨b, 1, none⟩ = some (.int .i64 s.mostOpen) ∧ w.cell? ⟨b, 2, none⟩ = some (.int .i64 s.live) ∧
    w.cell? ⟨b, 3, none⟩ = some (.int .i64 s.pending) ∧ w.cell? ⟨b, 4, none⟩ = some (.int .i64 s.opened) ∧
    w.frozen? ⟨b, 2, none⟩ = false ∧ w.frozen? ⟨b, 3, none⟩ = false ∧ w.frozen? ⟨b, 4, none⟩ = false :=
  ⟨h.cellv 0 rfl, h.cellv 1 rfl, h.cellv 2 rfl, h.cellv 3 rfl, h.cellv 4 rfl, h.free 2, h.free 3, h.free 4⟩

set_option maxHeartbeats 400000 in
theorem used_has (b : Nat) (s : Ac) (w : World) (h : AcIs w b s) (ok : s.Ok) :
    Calls Try.prog 18 #[.pointer (some ⟨b, 0, none⟩)] w fun e w' => e = .returned (.int .i64 (s.live + s.pending)) ∧ ∃ n, w' = w.drewN n := by
  obtain ⟨c0, c1, c2, c3, c4, f2, f3, f4⟩ := h.facts
  obtain ⟨m0, m1, o0, o1, l0, p0, u1, n0, n1⟩ := ok
  go_enter Try.func18, Try.ntmps18
  go_wp2
  go_quiet (fail)
  go_wp2
  go_ret
  exact ⟨rfl, _, rfl⟩

set_option maxHeartbeats 400000 in
theorem begin_full (b : Nat) (s : Ac) (w : World) (h : AcIs w b s) (ok : s.Ok) (hn : s.mostOpen ≤ s.opened) :
    Calls Try.prog 22 #[.pointer (some ⟨b, 0, none⟩)] w (AcPost b 151 s w) := by
  obtain ⟨c0, c1, c2, c3, c4, f2, f3, f4⟩ := h.facts
  obtain ⟨m0, m1, o0, o1, l0, p0, u1, n0, n1⟩ := ok
  go_enter Try.func22, Try.ntmps22
  go_wp2
  go_quiet (fail)
  go_wp2
  go_ret
  exact ⟨rfl, h.drewN _, (Only.refl _ _).drewN _⟩

set_option maxHeartbeats 400000 in
theorem begin_ok (b : Nat) (s : Ac) (w : World) (h : AcIs w b s) (ok : s.Ok) (hn : s.opened < s.mostOpen) :
    Calls Try.prog 22 #[.pointer (some ⟨b, 0, none⟩)] w (AcPost b 0 { s with opened := s.opened + 1 } w) := by
  obtain ⟨c0, c1, c2, c3, c4, f2, f3, f4⟩ := h.facts
  obtain ⟨m0, m1, o0, o1, l0, p0, u1, n0, n1⟩ := ok
  go_enter Try.func22, Try.ntmps22
  go_wp2
  go_quiet (fail)
  go_wp2
  go_ret
  exact ⟨rfl, (h.drewN _).put 4 _, ((Only.refl (· = b) w).drewN _).put (.inl rfl) _⟩


theorem within_yes (n m : Int) (w : World) (h0 : 0 ≤ n) (h1 : n ≤ m) : Calls Try.prog 49 #[.int .i64 n, .int .i64 m] w fun e w' => e = .returned (.bool true) ∧ w = w' :=
  (within_any n m w).mono fun _ _ ⟨he, hw⟩ => ⟨by rw [he, decide_eq_true ⟨h0, h1⟩], hw⟩
theorem within_no (n m : Int) (w : World) (h : ¬ (0 ≤ n ∧ n ≤ m)) : Calls Try.prog 49 #[.int .i64 n, .int .i64 m] w fun e w' => e = .returned (.bool false) ∧ w = w' :=
  (within_any n m w).mono fun _ _ ⟨he, hw⟩ => ⟨by rw [he, decide_eq_false h], hw⟩

set_option maxHeartbeats 400000 in
theorem charge_arg1 (b : Nat) (s : Ac) (old now : Int) (w : World) (h : AcIs w b s) (ok : s.Ok) (hn : ¬ (0 ≤ old ∧ old ≤ s.pending)) :
    Calls Try.prog 19 #[.pointer (some ⟨b, 0, none⟩), .int .i64 old, .int .i64 now] w (AcPost b 2 s w) := by
  obtain ⟨c0, c1, c2, c3, c4, f2, f3, f4⟩ := h.facts
  obtain ⟨m0, m1, o0, o1, l0, p0, u1, n0, n1⟩ := ok
  have W := Lib.hid (within_no _ _ w hn); clear hn
  go_enter Try.func19, Try.ntmps19
  go_wp2_with (go_at_call 49; refine W.out.mono ?_; rintro e w' ⟨rfl, rfl⟩)
  go_ret
  exact ⟨rfl, h, Only.refl _ _⟩

set_option maxHeartbeats 400000 in
theorem charge_arg2 (b : Nat) (s : Ac) (old now : Int) (w : World) (h : AcIs w b s) (ok : s.Ok) (hy0 : 0 ≤ old) (hy1 : old ≤ s.pending) (hn : ¬ (0 ≤ now ∧ now ≤ 1048576)) :
    Calls Try.prog 19 #[.pointer (some ⟨b, 0, none⟩), .int .i64 old, .int .i64 now] w (AcPost b 2 s w) := by
  obtain ⟨c0, c1, c2, c3, c4, f2, f3, f4⟩ := h.facts
  obtain ⟨m0, m1, o0, o1, l0, p0, u1, n0, n1⟩ := ok
  have W := Lib.hid (within_yes _ _ w hy0 hy1)
  have W2 := Lib.hid (within_no _ _ w hn); clear hn
  go_enter Try.func19, Try.ntmps19
  go_wp2_with fail
  refine W.out.mono ?_; rintro e w' ⟨rfl, rfl⟩
  go_wp2_with fail
  refine W2.out.mono ?_; rintro e w' ⟨rfl, rfl⟩
  go_wp2_with fail
  go_ret
  exact ⟨rfl, h, Only.refl _ _⟩

set_option maxHeartbeats 400000 in
theorem charge_much (b : Nat) (s : Ac) (old now : Int) (w : World) (h : AcIs w b s) (ok : s.Ok) (hy0 : 0 ≤ old) (hy1 : old ≤ s.pending) (hz0 : 0 ≤ now) (hz1 : now ≤ 1048576)
    (hm : s.most < s.live + s.pending - old + now) :
    Calls Try.prog 19 #[.pointer (some ⟨b, 0, none⟩), .int .i64 old, .int .i64 now] w (AcPost b 150 s w) := by
  obtain ⟨c0, c1, c2, c3, c4, f2, f3, f4⟩ := h.facts
  have U := fun u hu => Lib.hid (used_has b s u hu ok)
  obtain ⟨m0, m1, o0, o1, l0, p0, u1, n0, n1⟩ := ok
  have W := Lib.hid (within_yes _ _ w hy0 hy1)
  have W2 := Lib.hid (within_yes _ _ w hz0 hz1)
  go_enter Try.func19, Try.ntmps19
  go_wp2_with fail
  refine W.out.mono ?_; rintro e w' ⟨rfl, rfl⟩
  go_wp2_with fail
  refine W2.out.mono ?_; rintro e w' ⟨rfl, rfl⟩
  go_wp2_with fail
  go_quiet ((go_at_call 18; exact Calls.quiet_of (U _ (h.drewN _)).out))
  go_wp2_with fail
  go_ret
  exact ⟨rfl, h.drewN _, (Only.refl _ _).drewN _⟩

set_option maxHeartbeats 400000 in
theorem charge_ok (b : Nat) (s : Ac) (old now : Int) (w : World) (h : AcIs w b s) (ok : s.Ok) (hy0 : 0 ≤ old) (hy1 : old ≤ s.pending) (hz0 : 0 ≤ now) (hz1 : now ≤ 1048576)
    (hm : s.live + s.pending - old + now ≤ s.most) :
    Calls Try.prog 19 #[.pointer (some ⟨b, 0, none⟩), .int .i64 old, .int .i64 now] w (AcPost b 0 { s with pending := s.pending + (now - old) } w) := by
  obtain ⟨c0, c1, c2, c3, c4, f2, f3, f4⟩ := h.facts
  have U := fun u hu => Lib.hid (used_has b s u hu ok)
  obtain ⟨m0, m1, o0, o1, l0, p0, u1, n0, n1⟩ := ok
  have W := Lib.hid (within_yes _ _ w hy0 hy1)
  have W2 := Lib.hid (within_yes _ _ w hz0 hz1)
  go_enter Try.func19, Try.ntmps19
  go_wp2_with fail
  refine W.out.mono ?_; rintro e w' ⟨rfl, rfl⟩
  go_wp2_with fail
  refine W2.out.mono ?_; rintro e w' ⟨rfl, rfl⟩
  go_wp2_with fail
  go_quiet ((go_at_call 18; exact Calls.quiet_of (U _ (h.drewN _)).out))
  go_wp2_with fail
  go_ret
  exact ⟨rfl, (h.drewN _).put 3 _, ((Only.refl (· = b) w).drewN _).put (.inl rfl) _⟩

end Go.Proofs.Ytkfihfipnbbfcaa
