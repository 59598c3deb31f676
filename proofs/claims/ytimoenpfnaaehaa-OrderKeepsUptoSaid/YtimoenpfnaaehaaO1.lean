/-
  Layer 4: numbers put in order; bits turned.
-/
import Derived.Test.YtimoenpfnaaehaaOF
import Derived.WalkKit
import Derived.WalkSpells
import Derived.WalkLawsBesides
import Derived.Deep.QuietTactic
import Derived.BigQuiet
import Derived.Lib.Hide
import Derived.Laws.Cover3
import Derived.Outline
namespace Go.Proofs.Ytimoenpfnaaehaa
open Go.RowKit

theorem ext45 (a : Int) (w : World) : (callFunc 45 #[.int .u64 a]).run Try.prog w = .ok (.value (.float .f64 a.toNat)) w := by kernel_rfl
theorem ext36 (a : Nat) (w : World) : (callFunc 36 #[.float .f64 a]).run Try.prog w = .ok (.value (.int .u64 a)) w := by kernel_rfl

/-- A call that only computes. -/
def Same (v : Value) (w : World) (e : Ending) (w' : World) : Prop := e = .returned v ∧ w = w'
theorem same_ret {v v' : Value} {w : World} (h : v' = v) : Same v w (.returned v') w := ⟨by rw [h], rfl⟩

abbrev T64 : Nat := 18446744073709551616
abbrev T63 : Nat := 9223372036854775808

theorem nan_is (a : Nat) (h : a < 18446744073709551616) (w : World) : Calls Try.prog 65 #[.int .u64 a] w (Same (.bool (isNaNB a)) w) := by
  have H := Lib.hid (show decide (9218868437227405312 < bits .andNot .u64 (a : Int) 9223372036854775808) = isNaNB a by
    rw [top_andNot a h]; unfold isNaNB; rw [Bool.eq_iff_iff]; simp only [decide_eq_true_eq]; omega)
  go_enter Try.func65, Try.ntmps65
  go_wp2_with fail
  go_ret
  exact same_ret (congrArg Value.bool H.out)
theorem nought_is (a : Nat) (h : a < 18446744073709551616) (w : World) : Calls Try.prog 47 #[.int .u64 a] w (Same (.bool (isZeroB a)) w) := by
  have H := Lib.hid (show (bits .andNot .u64 (a : Int) 9223372036854775808 == 0) = isZeroB a by
    rw [top_andNot a h]; unfold isZeroB; rw [Bool.eq_iff_iff]; simp only [beq_iff_eq, decide_eq_true_eq]; omega)
  go_enter Try.func47, Try.ntmps47
  go_wp2_with fail
  go_ret
  exact same_ret (congrArg Value.bool H.out)

/-- The bits of the clean number. -/
def cln (a : Nat) : Nat := if isNaNB a then 9221120237041090561 else if isZeroB a then 0 else a

theorem clean_is (a : Nat) (w : World) : Calls Try.prog 44 #[.float .f64 a] w (Same (.float .f64 (cln a)) w) := by
  have H1 := Lib.hid (ord_self a)
  have H2 := Lib.hid (ord_zero a)
  have e1 := ext45
  go_enter Try.func44, Try.ntmps44
  cases h : isNaNB a
  · have q1 : (FloatKind.f64.format.order a a != some Ordering.eq) = false := H1.out.trans h
    cases h0 : isZeroB a
    · have q2 : (FloatKind.f64.format.order a 0 == some Ordering.eq) = false := H2.out.trans h0
      have HC := Lib.hid (show cln a = a by simp [cln, h, h0])
      clear h h0
      go_wp2_with fail
      go_ret
      exact same_ret (by rw [HC.out]; rfl)
    · have q2 : (FloatKind.f64.format.order a 0 == some Ordering.eq) = true := H2.out.trans h0
      have HC := Lib.hid (show cln a = 0 by simp [cln, h, h0])
      clear h h0
      go_wp2_with fail
      go_ret
      exact same_ret (by rw [HC.out]; rfl)
  · have q1 : (FloatKind.f64.format.order a a != some Ordering.eq) = true := H1.out.trans h
    have HC := Lib.hid (show cln a = 9221120237041090561 by simp [cln, h])
    clear h
    go_wp2_with fail
    go_ret
    exact same_ret (by rw [HC.out]; rfl)

theorem cleanBits_is (a : Nat) (ha : a < 18446744073709551616) (w : World) : Calls Try.prog 46 #[.int .u64 a] w (Same (.int .u64 (cln a)) w) := by
  have L1 := fun u => Lib.hid (nan_is a ha u)
  have L2 := fun u => Lib.hid (nought_is a ha u)
  go_enter Try.func46, Try.ntmps46
  go_wp2_with fail
  refine (L1 _).out.mono ?_; rintro e w1 ⟨rfl, rfl⟩
  cases h : isNaNB a
  · go_wp2_with fail
    refine (L2 _).out.mono ?_; rintro e w1 ⟨rfl, rfl⟩
    cases h0 : isZeroB a
    · have HC := Lib.hid (show cln a = a by simp [cln, h, h0])
      clear h h0
      go_wp2_with fail
      go_ret
      exact same_ret (by rw [HC.out]; rfl)
    · have HC := Lib.hid (show cln a = 0 by simp [cln, h, h0])
      clear h h0
      go_wp2_with fail
      go_ret
      exact same_ret (by rw [HC.out]; rfl)
  · have HC := Lib.hid (show cln a = 9221120237041090561 by simp [cln, h])
    clear h
    go_wp2_with fail
    go_ret
    exact same_ret (by rw [HC.out]; rfl)

/-- Two numbers in order. -/
def cmpI (a b : Int) : Int := if a < b then -1 else if b < a then 1 else 0

theorem isNaNI (a : Int) (w : World) : Calls Try.prog 66 #[.int .i64 a] w (Same (.bool false) w) := by
  go_enter Try.func66, Try.ntmps66
  go_wp2_with fail
  go_ret
  exact same_ret (by simp)
theorem isNaN64 (a : Int) (w : World) : Calls Try.prog 67 #[.int .i64 a] w (Same (.bool false) w) := by
  go_enter Try.func67, Try.ntmps67
  go_wp2_with fail
  go_ret
  exact same_ret (by simp)
theorem isNaNF (a : Nat) (w : World) : Calls Try.prog 76 #[.float .f64 a] w (Same (.bool (isNaNB a)) w) := by
  have H := Lib.hid (ord_self a)
  go_enter Try.func76, Try.ntmps76
  go_wp2_with fail
  go_ret
  exact same_ret (congrArg Value.bool H.out)

theorem cmp_int (a b : Int) (w : World) : Calls Try.prog 48 #[.int .i64 a, .int .i64 b] w (Same (.int .i64 (cmpI a b)) w) := by
  rcases Int.lt_trichotomy a b with h | h | h
  · have HC := Lib.hid (show cmpI a b = -1 by unfold cmpI; rw [if_pos h])
    go_enter Try.func48, Try.ntmps48
    go_wp2_with fail
    refine (isNaNI a _).mono ?_; rintro e w1 ⟨rfl, rfl⟩
    go_wp2_with fail
    refine (isNaNI b _).mono ?_; rintro e w1 ⟨rfl, rfl⟩
    go_wp2_with fail
    go_ret
    exact same_ret (by rw [HC.out]; rfl)
  · subst h
    have HC := Lib.hid (show cmpI a a = 0 by unfold cmpI; rw [if_neg (by omega), if_neg (by omega)])
    go_enter Try.func48, Try.ntmps48
    go_wp2_with fail
    refine (isNaNI a _).mono ?_; rintro e w1 ⟨rfl, rfl⟩
    go_wp2_with fail
    refine (isNaNI a _).mono ?_; rintro e w1 ⟨rfl, rfl⟩
    go_wp2_with fail
    go_ret
    exact same_ret (by rw [HC.out]; rfl)
  · have HC := Lib.hid (show cmpI a b = 1 by unfold cmpI; rw [if_neg (by omega), if_pos h])
    have h2 : ¬ a < b := by omega
    go_enter Try.func48, Try.ntmps48
    go_wp2_with fail
    refine (isNaNI a _).mono ?_; rintro e w1 ⟨rfl, rfl⟩
    go_wp2_with fail
    refine (isNaNI b _).mono ?_; rintro e w1 ⟨rfl, rfl⟩
    go_wp2_with fail
    go_ret
    exact same_ret (by rw [HC.out]; rfl)
theorem cmp_64 (a b : Int) (w : World) : Calls Try.prog 50 #[.int .i64 a, .int .i64 b] w (Same (.int .i64 (cmpI a b)) w) := by
  rcases Int.lt_trichotomy a b with h | h | h
  · have HC := Lib.hid (show cmpI a b = -1 by unfold cmpI; rw [if_pos h])
    go_enter Try.func50, Try.ntmps50
    go_wp2_with fail
    refine (isNaN64 a _).mono ?_; rintro e w1 ⟨rfl, rfl⟩
    go_wp2_with fail
    refine (isNaN64 b _).mono ?_; rintro e w1 ⟨rfl, rfl⟩
    go_wp2_with fail
    go_ret
    exact same_ret (by rw [HC.out]; rfl)
  · subst h
    have HC := Lib.hid (show cmpI a a = 0 by unfold cmpI; rw [if_neg (by omega), if_neg (by omega)])
    go_enter Try.func50, Try.ntmps50
    go_wp2_with fail
    refine (isNaN64 a _).mono ?_; rintro e w1 ⟨rfl, rfl⟩
    go_wp2_with fail
    refine (isNaN64 a _).mono ?_; rintro e w1 ⟨rfl, rfl⟩
    go_wp2_with fail
    go_ret
    exact same_ret (by rw [HC.out]; rfl)
  · have HC := Lib.hid (show cmpI a b = 1 by unfold cmpI; rw [if_neg (by omega), if_pos h])
    have h2 : ¬ a < b := by omega
    go_enter Try.func50, Try.ntmps50
    go_wp2_with fail
    refine (isNaN64 a _).mono ?_; rintro e w1 ⟨rfl, rfl⟩
    go_wp2_with fail
    refine (isNaN64 b _).mono ?_; rintro e w1 ⟨rfl, rfl⟩
    go_wp2_with fail
    go_ret
    exact same_ret (by rw [HC.out]; rfl)
theorem ints_is (a b : Int) (w : World) : Calls Try.prog 54 #[.int .i64 a, .int .i64 b] w (Same (.int .i64 (cmpI a b)) w) := by
  rcases Int.lt_trichotomy a b with h | h | h
  · have HC := Lib.hid (show cmpI a b = -1 by unfold cmpI; rw [if_pos h])
    go_enter Try.func54, Try.ntmps54
    go_wp2_with fail
    go_ret
    exact same_ret (by rw [HC.out]; rfl)
  · subst h
    have HC := Lib.hid (show cmpI a a = 0 by unfold cmpI; rw [if_neg (by omega), if_neg (by omega)])
    go_enter Try.func54, Try.ntmps54
    go_wp2_with fail
    go_ret
    exact same_ret (by rw [HC.out]; rfl)
  · have HC := Lib.hid (show cmpI a b = 1 by unfold cmpI; rw [if_neg (by omega), if_pos h])
    have h2 : ¬ a < b := by omega
    go_enter Try.func54, Try.ntmps54
    go_wp2_with fail
    go_ret
    exact same_ret (by rw [HC.out]; rfl)

/-- Two floating-point numbers in order: what is none stands above all. -/
def cmpF (a b : Nat) : Int := if isNaNB a then (if isNaNB b then 0 else 1) else if isNaNB b then -1 else cmpI (keyF a) (keyF b)

theorem cmp_float (a b : Nat) (ha : isNaNB a = false) (hb : isNaNB b = false) (w : World) : Calls Try.prog 68 #[.float .f64 a, .float .f64 b] w (Same (.int .i64 (cmpI (keyF a) (keyF b))) w) := by
  have HA := Lib.hid ha
  have HB := Lib.hid hb
  have L1 := fun u => Lib.hid (ha ▸ isNaNF a u)
  have L2 := fun u => Lib.hid (hb ▸ isNaNF b u)
  have O1 := Lib.hid (ord_lt a b)
  have O2 := Lib.hid (ord_gt a b)
  clear ha hb
  have q1 : ∀ x : Bool, decide (keyF a < keyF b) = x → (FloatKind.f64.format.order a b == some Ordering.lt) = x := by
    intro x hx; refine O1.out.trans ?_; rw [HA.out, HB.out, hx]; simp
  have q2 : ∀ x : Bool, decide (keyF b < keyF a) = x → (FloatKind.f64.format.order a b == some Ordering.gt) = x := by
    intro x hx; refine O2.out.trans ?_; rw [HA.out, HB.out, hx]; simp
  rcases Int.lt_trichotomy (keyF a) (keyF b) with h | h | h
  · have HC := Lib.hid (show cmpI (keyF a) (keyF b) = -1 by unfold cmpI; rw [if_pos h])
    have r1 := q1 true (by simpa using h)
    clear q1 q2 h
    go_enter Try.func68, Try.ntmps68
    go_wp2_with fail
    refine (L1 _).out.mono ?_; rintro e w1 ⟨rfl, rfl⟩
    go_wp2_with fail
    refine (L2 _).out.mono ?_; rintro e w1 ⟨rfl, rfl⟩
    go_wp2_with fail
    go_ret
    exact same_ret (by rw [HC.out]; rfl)
  · have HC := Lib.hid (show cmpI (keyF a) (keyF b) = 0 by unfold cmpI; rw [if_neg (by omega), if_neg (by omega)])
    have r1 := q1 false (by simp; omega)
    have r2 := q2 false (by simp; omega)
    clear q1 q2 h
    go_enter Try.func68, Try.ntmps68
    go_wp2_with fail
    refine (L1 _).out.mono ?_; rintro e w1 ⟨rfl, rfl⟩
    go_wp2_with fail
    refine (L2 _).out.mono ?_; rintro e w1 ⟨rfl, rfl⟩
    go_wp2_with fail
    go_ret
    exact same_ret (by rw [HC.out]; rfl)
  · have HC := Lib.hid (show cmpI (keyF a) (keyF b) = 1 by unfold cmpI; rw [if_neg (by omega), if_pos h])
    have r1 := q1 false (by simp; omega)
    have r2 := q2 true (by simpa using h)
    clear q1 q2 h
    go_enter Try.func68, Try.ntmps68
    go_wp2_with fail
    refine (L1 _).out.mono ?_; rintro e w1 ⟨rfl, rfl⟩
    go_wp2_with fail
    refine (L2 _).out.mono ?_; rintro e w1 ⟨rfl, rfl⟩
    go_wp2_with fail
    go_ret
    exact same_ret (by rw [HC.out]; rfl)

theorem floats_is (a b : Nat) (w : World) : Calls Try.prog 51 #[.float .f64 a, .float .f64 b] w (Same (.int .i64 (cmpF a b)) w) := by
  have H1 := Lib.hid (ord_self a)
  have H2 := Lib.hid (ord_self b)
  cases h : isNaNB a <;> cases h0 : isNaNB b
  · have q1 : (FloatKind.f64.format.order a a != some Ordering.eq) = false := H1.out.trans h
    have q2 : (FloatKind.f64.format.order b b != some Ordering.eq) = false := H2.out.trans h0
    have HC := Lib.hid (show cmpF a b = cmpI (keyF a) (keyF b) by simp [cmpF, h, h0])
    have L := fun u => Lib.hid (cmp_float a b h h0 u)
    clear h h0
    go_enter Try.func51, Try.ntmps51
    go_wp2_with fail
    refine (L _).out.mono ?_; rintro e w1 ⟨rfl, rfl⟩
    go_wp2_with fail
    go_ret
    exact same_ret (by rw [HC.out]; rfl)
  · have q1 : (FloatKind.f64.format.order a a != some Ordering.eq) = false := H1.out.trans h
    have q2 : (FloatKind.f64.format.order b b != some Ordering.eq) = true := H2.out.trans h0
    have HC := Lib.hid (show cmpF a b = -1 by simp [cmpF, h, h0])
    clear h h0
    go_enter Try.func51, Try.ntmps51
    go_wp2_with fail
    go_ret
    exact same_ret (by rw [HC.out]; rfl)
  · have q1 : (FloatKind.f64.format.order a a != some Ordering.eq) = true := H1.out.trans h
    have q2 : (FloatKind.f64.format.order b b != some Ordering.eq) = false := H2.out.trans h0
    have HC := Lib.hid (show cmpF a b = 1 by simp [cmpF, h, h0])
    clear h h0
    go_enter Try.func51, Try.ntmps51
    go_wp2_with fail
    go_ret
    exact same_ret (by rw [HC.out]; rfl)
  · have q1 : (FloatKind.f64.format.order a a != some Ordering.eq) = true := H1.out.trans h
    have q2 : (FloatKind.f64.format.order b b != some Ordering.eq) = true := H2.out.trans h0
    have HC := Lib.hid (show cmpF a b = 0 by simp [cmpF, h, h0])
    clear h h0
    go_enter Try.func51, Try.ntmps51
    go_wp2_with fail
    go_ret
    exact same_ret (by rw [HC.out]; rfl)

end Go.Proofs.Ytimoenpfnaaehaa
