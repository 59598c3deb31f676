/-
  Layer 15's calls as functions on an account's numbers; 'one' of the law's file.
-/
import Derived.Test.YtkfihfipnbbfcaaQ3
namespace Go.Proofs.Ytkfihfipnbbfcaa
open Go.RowKit

def Ac.doBegin (s : Ac) : Ac × Int := if s.mostOpen ≤ s.opened then (s, 151) else ({ s with opened := s.opened + 1 }, 0)
def Ac.doCharge (s : Ac) (old now : Int) : Ac × Int :=
  if ¬ (0 ≤ old ∧ old ≤ s.pending) then (s, 2) else if ¬ (0 ≤ now ∧ now ≤ 1048576) then (s, 2) else
  if s.most < s.live + s.pending - old + now then (s, 150) else ({ s with pending := s.pending + (now - old) }, 0)
def Ac.doEnd (s : Ac) (x : Int) : Ac × Int :=
  if s.opened ≤ 0 then (s, 2) else if ¬ (0 ≤ x ∧ x ≤ s.pending) then (s, 2) else ({ s with opened := s.opened - 1, pending := s.pending - x }, 0)
def Ac.doSettle (s : Ac) (x : Int) : Ac × Int :=
  if ¬ (0 ≤ x ∧ x ≤ 1048576) then (s, 2) else if s.most < x + s.pending then (s, 150) else ({ s with live := x }, 0)

/-- What each of them keeps. -/
structure Ac.Kept (s : Ac) (r : Ac × Int) : Prop where
  ok : r.1.Ok
  most : r.1.most = s.most
  mostOpen : r.1.mostOpen = s.mostOpen
  same : r.2 ≠ 0 → r.1 = s

theorem Ac.Ok.doBegin {s : Ac} (ok : s.Ok) : s.Kept s.doBegin := by
  obtain ⟨m0, m1, o0, o1, l0, p0, u1, n0, n1⟩ := ok
  unfold Ac.doBegin
  split
  · exact ⟨⟨m0, m1, o0, o1, l0, p0, u1, n0, n1⟩, rfl, rfl, fun _ => rfl⟩
  · exact ⟨by constructor <;> simp <;> omega, rfl, rfl, fun h => absurd rfl h⟩
theorem Ac.Ok.doCharge {s : Ac} (ok : s.Ok) (old now : Int) : s.Kept (s.doCharge old now) := by
  obtain ⟨m0, m1, o0, o1, l0, p0, u1, n0, n1⟩ := ok
  unfold Ac.doCharge
  split
  · exact ⟨⟨m0, m1, o0, o1, l0, p0, u1, n0, n1⟩, rfl, rfl, fun _ => rfl⟩
  · split
    · exact ⟨⟨m0, m1, o0, o1, l0, p0, u1, n0, n1⟩, rfl, rfl, fun _ => rfl⟩
    · split
      · exact ⟨⟨m0, m1, o0, o1, l0, p0, u1, n0, n1⟩, rfl, rfl, fun _ => rfl⟩
      · exact ⟨by constructor <;> simp <;> omega, rfl, rfl, fun h => absurd rfl h⟩
theorem Ac.Ok.doEnd {s : Ac} (ok : s.Ok) (x : Int) : s.Kept (s.doEnd x) := by
  obtain ⟨m0, m1, o0, o1, l0, p0, u1, n0, n1⟩ := ok
  unfold Ac.doEnd
  split
  · exact ⟨⟨m0, m1, o0, o1, l0, p0, u1, n0, n1⟩, rfl, rfl, fun _ => rfl⟩
  · split
    · exact ⟨⟨m0, m1, o0, o1, l0, p0, u1, n0, n1⟩, rfl, rfl, fun _ => rfl⟩
    · exact ⟨by constructor <;> simp <;> omega, rfl, rfl, fun h => absurd rfl h⟩
theorem Ac.Ok.doSettle {s : Ac} (ok : s.Ok) (x : Int) : s.Kept (s.doSettle x) := by
  obtain ⟨m0, m1, o0, o1, l0, p0, u1, n0, n1⟩ := ok
  unfold Ac.doSettle
  split
  · exact ⟨⟨m0, m1, o0, o1, l0, p0, u1, n0, n1⟩, rfl, rfl, fun _ => rfl⟩
  · split
    · exact ⟨⟨m0, m1, o0, o1, l0, p0, u1, n0, n1⟩, rfl, rfl, fun _ => rfl⟩
    · exact ⟨by constructor <;> simp <;> omega, rfl, rfl, fun h => absurd rfl h⟩

theorem begin_is (b : Nat) (s : Ac) (w : World) (h : AcIs w b s) (ok : s.Ok) : Calls Try.prog 22 #[.pointer (some ⟨b, 0, none⟩)] w (AcPost b s.doBegin.2 s.doBegin.1 w) := by
  by_cases h1 : s.mostOpen ≤ s.opened
  · simp only [Ac.doBegin, if_pos h1]; exact begin_full b s w h ok h1
  · simp only [Ac.doBegin, if_neg h1]; exact begin_ok b s w h ok (by omega)
theorem charge_is (b : Nat) (s : Ac) (old now : Int) (w : World) (h : AcIs w b s) (ok : s.Ok) :
    Calls Try.prog 19 #[.pointer (some ⟨b, 0, none⟩), .int .i64 old, .int .i64 now] w (AcPost b (s.doCharge old now).2 (s.doCharge old now).1 w) := by
  by_cases h1 : 0 ≤ old ∧ old ≤ s.pending
  · by_cases h2 : 0 ≤ now ∧ now ≤ 1048576
    · by_cases h3 : s.most < s.live + s.pending - old + now
      · simp only [Ac.doCharge, if_neg (not_not_intro h1), if_neg (not_not_intro h2), if_pos h3]; exact charge_much b s old now w h ok h1.1 h1.2 h2.1 h2.2 h3
      · simp only [Ac.doCharge, if_neg (not_not_intro h1), if_neg (not_not_intro h2), if_neg h3]; exact charge_ok b s old now w h ok h1.1 h1.2 h2.1 h2.2 (by omega)
    · simp only [Ac.doCharge, if_neg (not_not_intro h1), if_pos h2]; exact charge_arg2 b s old now w h ok h1.1 h1.2 h2
  · simp only [Ac.doCharge, if_pos h1]; exact charge_arg1 b s old now w h ok h1
theorem end_is (b : Nat) (s : Ac) (x : Int) (w : World) (h : AcIs w b s) (ok : s.Ok) :
    Calls Try.prog 25 #[.pointer (some ⟨b, 0, none⟩), .int .i64 x] w (AcPost b (s.doEnd x).2 (s.doEnd x).1 w) := by
  by_cases h1 : s.opened ≤ 0
  · simp only [Ac.doEnd, if_pos h1]; exact end_none b s x w h ok h1
  · by_cases h2 : 0 ≤ x ∧ x ≤ s.pending
    · simp only [Ac.doEnd, if_neg h1, if_neg (not_not_intro h2)]; exact end_ok b s x w h ok (by omega) h2.1 h2.2
    · simp only [Ac.doEnd, if_neg h1, if_pos h2]; exact end_arg b s x w h ok (by omega) h2
theorem settle_is (b : Nat) (s : Ac) (x : Int) (w : World) (h : AcIs w b s) (ok : s.Ok) :
    Calls Try.prog 17 #[.pointer (some ⟨b, 0, none⟩), .int .i64 x] w (AcPost b (s.doSettle x).2 (s.doSettle x).1 w) := by
  by_cases h1 : 0 ≤ x ∧ x ≤ 1048576
  · by_cases h2 : s.most < x + s.pending
    · simp only [Ac.doSettle, if_neg (not_not_intro h1), if_pos h2]; exact settle_much b s x w h ok h1.1 h1.2 h2
    · simp only [Ac.doSettle, if_neg (not_not_intro h1), if_neg h2]; exact settle_ok b s x w h ok h1.1 h1.2 (by omega)
  · simp only [Ac.doSettle, if_pos h1]; exact settle_arg b s x w h ok h1

/-- How 'one' ends. -/
def OnePost (b : Nat) (s : Ac) (w : World) (e : Ending) (w' : World) : Prop :=
  ∃ r : Ac × Int, e = .returned (.bool (r.2 == 0)) ∧ s.Kept r ∧ AcIs w' b r.1 ∧ Only (· = b) w w'

theorem only_past1 {b : Nat} {w w' : World} {o : Obj} (h : Only (· = b) (w.alloc o) w') : Only (· = b) w w' := ((Only.refl (· = b) w).alloc o).trans h

set_option maxHeartbeats 1000000 in
theorem one_any (b : Nat) (s : Ac) (k i x y z : Int) (w : World) (h : AcIs w b s) (ok : s.Ok) :
    Calls Try.prog 31 #[.pointer (some ⟨b, 0, none⟩), .agg (opCells k i x y z)] w (OnePost b s w) := by
  have ha := h.alloc (.cells (opCells k i x y z) 23)
  by_cases k1 : k = 1
  · subst k1
    have W := Lib.hid (begin_is b s _ ha ok)
    have K := Lib.hid ok.doBegin
    go_enter Try.func31, Try.ntmps31
    go_wp2_with fail
    refine W.out.mono ?_; rintro e w1 ⟨rfl, ha1, ho1⟩
    go_wp2_with fail
    go_ret
    exact ⟨_, rfl, K.out, ha1, only_past1 ho1⟩
  by_cases k2 : k = 2
  · subst k2
    have W := Lib.hid (charge_is b s x y _ ha ok)
    have K := Lib.hid (ok.doCharge x y)
    clear k1
    go_enter Try.func31, Try.ntmps31
    go_wp2_with fail
    refine W.out.mono ?_; rintro e w1 ⟨rfl, ha1, ho1⟩
    go_wp2_with fail
    go_ret
    exact ⟨_, rfl, K.out, ha1, only_past1 ho1⟩
  by_cases k3 : k = 3
  · subst k3
    have W := Lib.hid (end_is b s x _ ha ok)
    have K := Lib.hid (ok.doEnd x)
    clear k1 k2
    go_enter Try.func31, Try.ntmps31
    go_wp2_with fail
    refine W.out.mono ?_; rintro e w1 ⟨rfl, ha1, ho1⟩
    go_wp2_with fail
    go_ret
    exact ⟨_, rfl, K.out, ha1, only_past1 ho1⟩
  by_cases k4 : k = 4
  · subst k4
    have W := Lib.hid (settle_is b s x _ ha ok)
    have K := Lib.hid (ok.doSettle x)
    clear k1 k2 k3
    go_enter Try.func31, Try.ntmps31
    go_wp2_with fail
    refine W.out.mono ?_; rintro e w1 ⟨rfl, ha1, ho1⟩
    go_wp2_with fail
    go_ret
    exact ⟨_, rfl, K.out, ha1, only_past1 ho1⟩
  · go_enter Try.func31, Try.ntmps31
    go_wp2_with fail
    go_ret
    exact ⟨(s, 1), rfl, ⟨ok, rfl, rfl, fun _ => rfl⟩, ha, only_past1 (Only.refl _ _)⟩

end Go.Proofs.Ytkfihfipnbbfcaa
