/-
  Layer 15's reference (cloisterref15): its calls as functions on an account's numbers.
-/
import Derived.Test.YtkfihfipnbbfcaaQ4
namespace Go.Proofs.Ytkfihfipnbbfcaa
open Go.RowKit

/-- The document's account. -/
abbrev docAc (there : Bool) (s : Ac) : Array Value := #[.bool there, .int .i64 s.most, .int .i64 s.mostOpen, .int .i64 s.live, .int .i64 s.pending, .int .i64 s.opened]

/-- How the document's call ends. -/
def RefPost (there : Bool) (s : Ac) (c : Int) (w : World) (e : Ending) (w' : World) : Prop := e = .returned (.tuple #[.agg (docAc there s), .int .i64 c]) ∧ Only NoneOf w w'

def Ac.zero : Ac := ⟨0, 0, 0, 0, 0⟩

set_option maxHeartbeats 400000 in
theorem rbegin_no (s : Ac) (w : World) : Calls Try.prog 23 #[.agg (docAc false s)] w (RefPost false s 1 w) := by
  go_enter Try.func23, Try.ntmps23
  go_wp2_with fail
  exact bodyPost_ret (v := .tuple #[.agg (docAc false s), .int .i64 1]) (by simp [results, Try.results23, go_sem]) rfl
    ⟨rfl, by repeat (first | exact Only.refl _ _ | refine Only.drew ?_ | refine Only.drewN ?_ _ | refine Only.alloc ?_ _ | refine Only.put ?_ (.inr (by simp)) _)⟩

set_option maxHeartbeats 400000 in
theorem rbegin_full (s : Ac) (hn : s.mostOpen = s.opened) (w : World) : Calls Try.prog 23 #[.agg (docAc true s)] w (RefPost true s 151 w) := by
  obtain ⟨q, o, l, p, n⟩ := s
  simp only at hn
  subst hn
  go_enter Try.func23, Try.ntmps23
  go_wp2_with fail
  exact bodyPost_ret (v := .tuple #[.agg (docAc true ⟨q, o, l, p, o⟩), .int .i64 151]) (by simp [results, Try.results23, go_sem]) rfl
    ⟨rfl, by repeat (first | exact Only.refl _ _ | refine Only.drew ?_ | refine Only.drewN ?_ _ | refine Only.alloc ?_ _ | refine Only.put ?_ (.inr (by simp)) _)⟩

set_option maxHeartbeats 400000 in
theorem rbegin_ok (s : Ac) (ok : s.Ok) (hn : s.opened < s.mostOpen) (w : World) : Calls Try.prog 23 #[.agg (docAc true s)] w (RefPost true { s with opened := s.opened + 1 } 0 w) := by
  obtain ⟨m0, m1, o0, o1, l0, p0, u1, n0, n1⟩ := ok
  have h0 : (s.opened == s.mostOpen) = false := beq_eq_false_iff_ne.2 (by omega)
  go_enter Try.func23, Try.ntmps23
  go_wp2_with fail
  exact bodyPost_ret (v := .tuple #[.agg (docAc true { s with opened := s.opened + 1 }), .int .i64 0]) (by simp [results, Try.results23, go_sem]) rfl
    ⟨rfl, by repeat (first | exact Only.refl _ _ | refine Only.drew ?_ | refine Only.drewN ?_ _ | refine Only.alloc ?_ _ | refine Only.put ?_ (.inr (by simp)) _)⟩

set_option maxHeartbeats 400000 in
theorem rcharge_no (s : Ac) (old now : Int) (w : World) : Calls Try.prog 24 #[.agg (docAc false s), .int .i64 old, .int .i64 now] w (RefPost false s 1 w) := by
  go_enter Try.func24, Try.ntmps24
  go_wp2_with fail
  exact bodyPost_ret (v := .tuple #[.agg (docAc false s), .int .i64 1]) (by simp [results, Try.results24, go_sem]) rfl
    ⟨rfl, by repeat (first | exact Only.refl _ _ | refine Only.drew ?_ | refine Only.drewN ?_ _ | refine Only.alloc ?_ _ | refine Only.put ?_ (.inr (by simp)) _)⟩

set_option maxHeartbeats 400000 in
theorem rcharge_arg1 (s : Ac) (old now : Int) (h : old < 0) (w : World) : Calls Try.prog 24 #[.agg (docAc true s), .int .i64 old, .int .i64 now] w (RefPost true s 2 w) := by
  go_enter Try.func24, Try.ntmps24
  go_wp2_with fail
  exact bodyPost_ret (v := .tuple #[.agg (docAc true s), .int .i64 2]) (by simp [results, Try.results24, go_sem]) rfl
    ⟨rfl, by repeat (first | exact Only.refl _ _ | refine Only.drew ?_ | refine Only.drewN ?_ _ | refine Only.alloc ?_ _ | refine Only.put ?_ (.inr (by simp)) _)⟩

set_option maxHeartbeats 400000 in
theorem rcharge_arg2 (s : Ac) (old now : Int) (h0 : 0 ≤ old) (h : now < 0) (w : World) : Calls Try.prog 24 #[.agg (docAc true s), .int .i64 old, .int .i64 now] w (RefPost true s 2 w) := by
  go_enter Try.func24, Try.ntmps24
  go_wp2_with fail
  exact bodyPost_ret (v := .tuple #[.agg (docAc true s), .int .i64 2]) (by simp [results, Try.results24, go_sem]) rfl
    ⟨rfl, by repeat (first | exact Only.refl _ _ | refine Only.drew ?_ | refine Only.drewN ?_ _ | refine Only.alloc ?_ _ | refine Only.put ?_ (.inr (by simp)) _)⟩

set_option maxHeartbeats 400000 in
theorem rcharge_arg3 (s : Ac) (old now : Int) (h0 : 0 ≤ old) (h1 : 0 ≤ now) (h : 1048576 < now) (w : World) : Calls Try.prog 24 #[.agg (docAc true s), .int .i64 old, .int .i64 now] w (RefPost true s 2 w) := by
  go_enter Try.func24, Try.ntmps24
  go_wp2_with fail
  exact bodyPost_ret (v := .tuple #[.agg (docAc true s), .int .i64 2]) (by simp [results, Try.results24, go_sem]) rfl
    ⟨rfl, by repeat (first | exact Only.refl _ _ | refine Only.drew ?_ | refine Only.drewN ?_ _ | refine Only.alloc ?_ _ | refine Only.put ?_ (.inr (by simp)) _)⟩

set_option maxHeartbeats 400000 in
theorem rcharge_arg4 (s : Ac) (old now : Int) (h0 : 0 ≤ old) (h1 : 0 ≤ now) (h2 : now ≤ 1048576) (h : s.pending < old) (w : World) : Calls Try.prog 24 #[.agg (docAc true s), .int .i64 old, .int .i64 now] w (RefPost true s 2 w) := by
  go_enter Try.func24, Try.ntmps24
  go_wp2_with fail
  exact bodyPost_ret (v := .tuple #[.agg (docAc true s), .int .i64 2]) (by simp [results, Try.results24, go_sem]) rfl
    ⟨rfl, by repeat (first | exact Only.refl _ _ | refine Only.drew ?_ | refine Only.drewN ?_ _ | refine Only.alloc ?_ _ | refine Only.put ?_ (.inr (by simp)) _)⟩

set_option maxHeartbeats 400000 in
theorem rcharge_much (s : Ac) (old now : Int) (ok : s.Ok) (h0 : 0 ≤ old) (h1 : 0 ≤ now) (h2 : now ≤ 1048576) (h3 : old ≤ s.pending) (h : s.most < s.live + s.pending - old + now) (w : World) : Calls Try.prog 24 #[.agg (docAc true s), .int .i64 old, .int .i64 now] w (RefPost true s 150 w) := by
  obtain ⟨m0, m1, o0, o1, l0, p0, u1, n0, n1⟩ := ok
  go_enter Try.func24, Try.ntmps24
  go_wp2_with fail
  exact bodyPost_ret (v := .tuple #[.agg (docAc true s), .int .i64 150]) (by simp [results, Try.results24, go_sem]) rfl
    ⟨rfl, by repeat (first | exact Only.refl _ _ | refine Only.drew ?_ | refine Only.drewN ?_ _ | refine Only.alloc ?_ _ | refine Only.put ?_ (.inr (by simp)) _)⟩

set_option maxHeartbeats 400000 in
theorem rcharge_ok (s : Ac) (old now : Int) (ok : s.Ok) (h0 : 0 ≤ old) (h1 : 0 ≤ now) (h2 : now ≤ 1048576) (h3 : old ≤ s.pending) (h : s.live + s.pending - old + now ≤ s.most) (w : World) : Calls Try.prog 24 #[.agg (docAc true s), .int .i64 old, .int .i64 now] w (RefPost true { s with pending := s.pending - old + now } 0 w) := by
  obtain ⟨m0, m1, o0, o1, l0, p0, u1, n0, n1⟩ := ok
  go_enter Try.func24, Try.ntmps24
  go_wp2_with fail
  exact bodyPost_ret (v := .tuple #[.agg (docAc true { s with pending := s.pending - old + now }), .int .i64 0]) (by simp [results, Try.results24, go_sem]) rfl
    ⟨rfl, by repeat (first | exact Only.refl _ _ | refine Only.drew ?_ | refine Only.drewN ?_ _ | refine Only.alloc ?_ _ | refine Only.put ?_ (.inr (by simp)) _)⟩

set_option maxHeartbeats 400000 in
theorem rend_no (s : Ac) (x : Int) (w : World) : Calls Try.prog 26 #[.agg (docAc false s), .int .i64 x] w (RefPost false s 1 w) := by
  go_enter Try.func26, Try.ntmps26
  go_wp2_with fail
  exact bodyPost_ret (v := .tuple #[.agg (docAc false s), .int .i64 1]) (by simp [results, Try.results26, go_sem]) rfl
    ⟨rfl, by repeat (first | exact Only.refl _ _ | refine Only.drew ?_ | refine Only.drewN ?_ _ | refine Only.alloc ?_ _ | refine Only.put ?_ (.inr (by simp)) _)⟩

set_option maxHeartbeats 400000 in
theorem rend_none (s : Ac) (x : Int) (h : s.opened = 0) (w : World) : Calls Try.prog 26 #[.agg (docAc true s), .int .i64 x] w (RefPost true s 2 w) := by
  obtain ⟨q, o, l, p, n⟩ := s
  simp only at h
  subst h
  go_enter Try.func26, Try.ntmps26
  go_wp2_with fail
  exact bodyPost_ret (v := .tuple #[.agg (docAc true ⟨q, o, l, p, 0⟩), .int .i64 2]) (by simp [results, Try.results26, go_sem]) rfl
    ⟨rfl, by repeat (first | exact Only.refl _ _ | refine Only.drew ?_ | refine Only.drewN ?_ _ | refine Only.alloc ?_ _ | refine Only.put ?_ (.inr (by simp)) _)⟩

set_option maxHeartbeats 400000 in
theorem rend_arg1 (s : Ac) (x : Int) (h0 : 0 < s.opened) (h : x < 0) (w : World) : Calls Try.prog 26 #[.agg (docAc true s), .int .i64 x] w (RefPost true s 2 w) := by
  have e0 : (s.opened == 0) = false := beq_eq_false_iff_ne.2 (by omega)
  go_enter Try.func26, Try.ntmps26
  go_wp2_with fail
  exact bodyPost_ret (v := .tuple #[.agg (docAc true s), .int .i64 2]) (by simp [results, Try.results26, go_sem]) rfl
    ⟨rfl, by repeat (first | exact Only.refl _ _ | refine Only.drew ?_ | refine Only.drewN ?_ _ | refine Only.alloc ?_ _ | refine Only.put ?_ (.inr (by simp)) _)⟩

set_option maxHeartbeats 400000 in
theorem rend_arg2 (s : Ac) (x : Int) (h0 : 0 < s.opened) (h1 : 0 ≤ x) (h : s.pending < x) (w : World) : Calls Try.prog 26 #[.agg (docAc true s), .int .i64 x] w (RefPost true s 2 w) := by
  have e0 : (s.opened == 0) = false := beq_eq_false_iff_ne.2 (by omega)
  go_enter Try.func26, Try.ntmps26
  go_wp2_with fail
  exact bodyPost_ret (v := .tuple #[.agg (docAc true s), .int .i64 2]) (by simp [results, Try.results26, go_sem]) rfl
    ⟨rfl, by repeat (first | exact Only.refl _ _ | refine Only.drew ?_ | refine Only.drewN ?_ _ | refine Only.alloc ?_ _ | refine Only.put ?_ (.inr (by simp)) _)⟩

set_option maxHeartbeats 400000 in
theorem rend_ok (s : Ac) (x : Int) (ok : s.Ok) (h0 : 0 < s.opened) (h1 : 0 ≤ x) (h : x ≤ s.pending) (w : World) : Calls Try.prog 26 #[.agg (docAc true s), .int .i64 x] w (RefPost true { s with opened := s.opened - 1, pending := s.pending - x } 0 w) := by
  obtain ⟨m0, m1, o0, o1, l0, p0, u1, n0, n1⟩ := ok
  have e0 : (s.opened == 0) = false := beq_eq_false_iff_ne.2 (by omega)
  go_enter Try.func26, Try.ntmps26
  go_wp2_with fail
  exact bodyPost_ret (v := .tuple #[.agg (docAc true { s with opened := s.opened - 1, pending := s.pending - x }), .int .i64 0]) (by simp [results, Try.results26, go_sem]) rfl
    ⟨rfl, by repeat (first | exact Only.refl _ _ | refine Only.drew ?_ | refine Only.drewN ?_ _ | refine Only.alloc ?_ _ | refine Only.put ?_ (.inr (by simp)) _)⟩

set_option maxHeartbeats 400000 in
theorem rsettle_no (s : Ac) (x : Int) (w : World) : Calls Try.prog 27 #[.agg (docAc false s), .int .i64 x] w (RefPost false s 1 w) := by
  go_enter Try.func27, Try.ntmps27
  go_wp2_with fail
  exact bodyPost_ret (v := .tuple #[.agg (docAc false s), .int .i64 1]) (by simp [results, Try.results27, go_sem]) rfl
    ⟨rfl, by repeat (first | exact Only.refl _ _ | refine Only.drew ?_ | refine Only.drewN ?_ _ | refine Only.alloc ?_ _ | refine Only.put ?_ (.inr (by simp)) _)⟩

set_option maxHeartbeats 400000 in
theorem rsettle_arg1 (s : Ac) (x : Int) (h : x < 0) (w : World) : Calls Try.prog 27 #[.agg (docAc true s), .int .i64 x] w (RefPost true s 2 w) := by
  go_enter Try.func27, Try.ntmps27
  go_wp2_with fail
  exact bodyPost_ret (v := .tuple #[.agg (docAc true s), .int .i64 2]) (by simp [results, Try.results27, go_sem]) rfl
    ⟨rfl, by repeat (first | exact Only.refl _ _ | refine Only.drew ?_ | refine Only.drewN ?_ _ | refine Only.alloc ?_ _ | refine Only.put ?_ (.inr (by simp)) _)⟩

set_option maxHeartbeats 400000 in
theorem rsettle_arg2 (s : Ac) (x : Int) (h0 : 0 ≤ x) (h : 1048576 < x) (w : World) : Calls Try.prog 27 #[.agg (docAc true s), .int .i64 x] w (RefPost true s 2 w) := by
  go_enter Try.func27, Try.ntmps27
  go_wp2_with fail
  exact bodyPost_ret (v := .tuple #[.agg (docAc true s), .int .i64 2]) (by simp [results, Try.results27, go_sem]) rfl
    ⟨rfl, by repeat (first | exact Only.refl _ _ | refine Only.drew ?_ | refine Only.drewN ?_ _ | refine Only.alloc ?_ _ | refine Only.put ?_ (.inr (by simp)) _)⟩

set_option maxHeartbeats 400000 in
theorem rsettle_much (s : Ac) (x : Int) (ok : s.Ok) (h0 : 0 ≤ x) (h1 : x ≤ 1048576) (h : s.most < x + s.pending) (w : World) : Calls Try.prog 27 #[.agg (docAc true s), .int .i64 x] w (RefPost true s 150 w) := by
  obtain ⟨m0, m1, o0, o1, l0, p0, u1, n0, n1⟩ := ok
  go_enter Try.func27, Try.ntmps27
  go_wp2_with fail
  exact bodyPost_ret (v := .tuple #[.agg (docAc true s), .int .i64 150]) (by simp [results, Try.results27, go_sem]) rfl
    ⟨rfl, by repeat (first | exact Only.refl _ _ | refine Only.drew ?_ | refine Only.drewN ?_ _ | refine Only.alloc ?_ _ | refine Only.put ?_ (.inr (by simp)) _)⟩

set_option maxHeartbeats 400000 in
theorem rsettle_ok (s : Ac) (x : Int) (ok : s.Ok) (h0 : 0 ≤ x) (h1 : x ≤ 1048576) (h : x + s.pending ≤ s.most) (w : World) : Calls Try.prog 27 #[.agg (docAc true s), .int .i64 x] w (RefPost true { s with live := x } 0 w) := by
  obtain ⟨m0, m1, o0, o1, l0, p0, u1, n0, n1⟩ := ok
  go_enter Try.func27, Try.ntmps27
  go_wp2_with fail
  exact bodyPost_ret (v := .tuple #[.agg (docAc true { s with live := x }), .int .i64 0]) (by simp [results, Try.results27, go_sem]) rfl
    ⟨rfl, by repeat (first | exact Only.refl _ _ | refine Only.drew ?_ | refine Only.drewN ?_ _ | refine Only.alloc ?_ _ | refine Only.put ?_ (.inr (by simp)) _)⟩

end Go.Proofs.Ytkfihfipnbbfcaa
