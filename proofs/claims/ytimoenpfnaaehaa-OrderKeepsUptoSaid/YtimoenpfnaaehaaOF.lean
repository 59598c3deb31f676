/-
  Floating-point numbers by their bits: how two stand to each other. No program here.
-/
import Derived.Test.YtimoenpfnaaehaaHeap
import Derived.Laws.Cover2
import Derived.Laws.BitsAllLaws
namespace Go.Proofs.Ytimoenpfnaaehaa
open Go.RowKit
open Ieee (Datum Format)

abbrev ord (a b : Nat) : Option Ordering := FloatKind.f64.format.order a b

/-- A rung's magnitude, in units of the least place. -/
def mag (r : Nat) : Nat := if r < 4503599627370496 then r else (4503599627370496 + r % 4503599627370496) * 2 ^ (r / 4503599627370496 - 1)

theorem mag_lt {r s : Nat} (h : r < s) : mag r < mag s := by
  unfold mag
  split
  · split
    · exact h
    · rename_i h1 h2
      have : 1 ≤ 2 ^ (s / 4503599627370496 - 1) := Nat.one_le_two_pow
      have h3 : (4503599627370496 + s % 4503599627370496) * 1 ≤ (4503599627370496 + s % 4503599627370496) * 2 ^ (s / 4503599627370496 - 1) := Nat.mul_le_mul_left _ this
      omega
  · rename_i h1
    rw [if_neg (by omega)]
    by_cases he : r / 4503599627370496 = s / 4503599627370496
    · rw [he]
      refine Nat.mul_lt_mul_of_pos_right ?_ (Nat.two_pow_pos _)
      omega
    · have h4 : r / 4503599627370496 ≤ s / 4503599627370496 := Nat.div_le_div_right (by omega)
      have h5 : 2 ^ (r / 4503599627370496) ≤ 2 ^ (s / 4503599627370496 - 1) := Nat.pow_le_pow_right (by omega) (by omega)
      have h6 : 2 ^ (r / 4503599627370496) = 2 * 2 ^ (r / 4503599627370496 - 1) := by
        rw [show r / 4503599627370496 = (r / 4503599627370496 - 1) + 1 from by omega, Nat.pow_succ]
        simp; omega
      have h7 : (4503599627370496 + r % 4503599627370496) * 2 ^ (r / 4503599627370496 - 1) < (2 * 4503599627370496) * 2 ^ (r / 4503599627370496 - 1) :=
        Nat.mul_lt_mul_of_pos_right (by omega) (Nat.two_pow_pos _)
      have h8 : 4503599627370496 * 2 ^ (s / 4503599627370496 - 1) ≤ (4503599627370496 + s % 4503599627370496) * 2 ^ (s / 4503599627370496 - 1) := Nat.mul_le_mul_right _ (by omega)
      have h9 : 4503599627370496 * 2 ^ (r / 4503599627370496) ≤ 4503599627370496 * 2 ^ (s / 4503599627370496 - 1) := Nat.mul_le_mul_left _ h5
      rw [h6] at h9
      rw [Nat.mul_assoc] at h7
      omega

/-- Where a number stands: by its sign and its rung. -/
def keyF (a : Nat) : Int := if a / 9223372036854775808 % 2 = 1 then -((a % 9223372036854775808 : Nat) : Int) else ((a % 9223372036854775808 : Nat) : Int)
def isNaNB (a : Nat) : Bool := decide (9218868437227405312 < a % 9223372036854775808)
def isZeroB (a : Nat) : Bool := decide (a % 9223372036854775808 = 0)

theorem cmp_lt {a b : Int} (h : a < b) : compare a b = .lt := by show compareOfLessAndEq a b = _; unfold compareOfLessAndEq; rw [if_pos h]
theorem cmp_eq (a : Int) : compare a a = .eq := by show compareOfLessAndEq a a = _; unfold compareOfLessAndEq; rw [if_neg (by omega), if_pos rfl]
theorem cmp_gt {a b : Int} (h : b < a) : compare a b = .gt := by show compareOfLessAndEq a b = _; unfold compareOfLessAndEq; rw [if_neg (by omega), if_neg (by omega)]

/-- A sign's and a magnitude's number. -/
def sg (n : Bool) (m : Nat) : Int := if n then -(m : Int) else m

theorem sg_compare {n n' : Bool} {f : Nat → Nat} (hf : ∀ r s, r < s → f r < f s) (h0 : f 0 = 0) (r s : Nat) : compare (sg n (f r)) (sg n' (f s)) = compare (sg n r) (sg n' s) := by
  have p : ∀ r, 0 < r → 0 < f r := fun r h => by have := hf 0 r h; omega
  have t : ∀ a b c d : Int, (a < b ↔ c < d) → (a = b ↔ c = d) → compare a b = compare c d := by
    intro a b c d h1 h2
    rcases Int.lt_trichotomy c d with h | h | h
    · rw [cmp_lt h, cmp_lt (h1.2 h)]
    · rw [h2.2 h, h, cmp_eq, cmp_eq]
    · have h3 : b < a := by have := mt h1.1 (by omega); have := mt h2.1 (by omega); omega
      rw [cmp_gt h, cmp_gt h3]
  have q : (f r < f s ↔ r < s) ∧ (f r = f s ↔ r = s) := by
    rcases Nat.lt_trichotomy r s with h | h | h
    · have := hf _ _ h; constructor <;> constructor <;> intro <;> omega
    · subst h; simp
    · have := hf _ _ h; constructor <;> constructor <;> intro <;> omega
  have pr := p r
  have ps := p s
  have zr : r = 0 → f r = 0 := fun h => by rw [h, h0]
  have zs : s = 0 → f s = 0 := fun h => by rw [h, h0]
  obtain ⟨q1, q2⟩ := q
  refine t _ _ _ _ ?_ ?_
  all_goals
    unfold sg
    cases n <;> cases n' <;> simp <;> omega

theorem read_eq (a : Nat) : FloatKind.f64.format.read a =
    if a % 9223372036854775808 < 4503599627370496 then .number (a / 9223372036854775808 % 2 == 1) (a % 9223372036854775808) (-1074)
    else if a % 9223372036854775808 < 9218868437227405312 then .number (a / 9223372036854775808 % 2 == 1) (4503599627370496 + a % 9223372036854775808 % 4503599627370496) (-1074 + (a % 9223372036854775808 / 4503599627370496 - 1 : Nat))
    else if a % 9223372036854775808 = 9218868437227405312 then .infinity (a / 9223372036854775808 % 2 == 1)
    else .nan (a / 9223372036854775808 % 2 == 1) (a % 9223372036854775808 - 9218868437227405312) := by
  rfl

theorem shl (m k : Nat) : m <<< k = m * 2 ^ k := Nat.shiftLeft_eq m k

theorem signed_eq (n : Bool) (m u : Nat) : Ieee.signed n m u = sg n (m * 2 ^ u) := by
  unfold Ieee.signed sg
  rw [shl]

theorem keyF_eq (a : Nat) : keyF a = sg (a / 9223372036854775808 % 2 == 1) (a % 9223372036854775808) := by
  unfold keyF sg
  by_cases h : a / 9223372036854775808 % 2 = 1 <;> simp [h]

/-- A finite rung's digits and place. -/
def digs (r : Nat) : Nat := if r < 4503599627370496 then r else 4503599627370496 + r % 4503599627370496
def plc (r : Nat) : Nat := if r < 4503599627370496 then 0 else r / 4503599627370496 - 1
theorem mag_eq (r : Nat) : mag r = digs r * 2 ^ plc r := by
  unfold mag digs plc
  split
  · simp
  · rfl

theorem read_fin (a : Nat) (h : a % 9223372036854775808 < 9218868437227405312) : FloatKind.f64.format.read a = .number (a / 9223372036854775808 % 2 == 1) (digs (a % 9223372036854775808)) (-1074 + (plc (a % 9223372036854775808) : Nat)) := by
  rw [read_eq]
  unfold digs plc
  split
  · simp
  · rfl
theorem read_inf (a : Nat) (h : a % 9223372036854775808 = 9218868437227405312) : FloatKind.f64.format.read a = .infinity (a / 9223372036854775808 % 2 == 1) := by
  rw [read_eq, if_neg (by omega), if_neg (by omega), if_pos h]
theorem read_nan (a : Nat) (h : 9218868437227405312 < a % 9223372036854775808) : FloatKind.f64.format.read a = .nan (a / 9223372036854775808 % 2 == 1) (a % 9223372036854775808 - 9218868437227405312) := by
  rw [read_eq, if_neg (by omega), if_neg (by omega), if_neg (by omega)]

theorem compare_mul (a b : Int) (k : Nat) (hk : 0 < k) : compare (a * k) (b * k) = compare a b := by
  have hk' : (0 : Int) < k := by omega
  rcases Int.lt_trichotomy a b with h | h | h
  · rw [cmp_lt h, cmp_lt (Int.mul_lt_mul_of_pos_right h hk')]
  · rw [h, cmp_eq, cmp_eq]
  · rw [cmp_gt h, cmp_gt (Int.mul_lt_mul_of_pos_right h hk')]
theorem sg_mul (n : Bool) (m k : Nat) : sg n m * (k : Int) = sg n (m * k) := by
  unfold sg
  cases n <;> simp [Int.neg_mul]

theorem num_order (s t : Bool) (r q : Nat) : (Datum.number s (digs r) (-1074 + (plc r : Nat))).order (.number t (digs q) (-1074 + (plc q : Nat))) = some (compare (sg s r) (sg t q)) := by
  show some (compare (Ieee.signed s (digs r) _) (Ieee.signed t (digs q) _)) = _
  rw [signed_eq, signed_eq]
  have h1 : (-1074 + (plc r : Nat) - min (-1074 + ((plc r : Nat) : Int)) (-1074 + (plc q : Nat))).toNat = plc r - min (plc r) (plc q) := by omega
  have h2 : (-1074 + (plc q : Nat) - min (-1074 + ((plc r : Nat) : Int)) (-1074 + (plc q : Nat))).toNat = plc q - min (plc r) (plc q) := by omega
  rw [h1, h2, ← compare_mul _ _ (2 ^ min (plc r) (plc q)) (Nat.two_pow_pos _), sg_mul, sg_mul, Nat.mul_assoc, Nat.mul_assoc, ← Nat.pow_add, ← Nat.pow_add,
    Nat.sub_add_cancel (Nat.min_le_left _ _), Nat.sub_add_cancel (Nat.min_le_right _ _), ← mag_eq, ← mag_eq]
  congr 1
  exact sg_compare (f := mag) (fun _ _ => mag_lt) rfl r q

/-- How two numbers stand to each other. -/
theorem ord_eq (a b : Nat) : ord a b = if (isNaNB a || isNaNB b) = true then none else some (compare (keyF a) (keyF b)) := by
  show (FloatKind.f64.format.read a).order (FloatKind.f64.format.read b) = _
  rw [keyF_eq, keyF_eq]
  unfold isNaNB
  have k1 : ∀ s q, 9218868437227405312 > q → compare (sg s 9218868437227405312) (sg true q) = (if s then .lt else .gt) ∧ compare (sg s 9218868437227405312) (sg false q) = (if s then .lt else .gt) ∧
      compare (sg true q) (sg s 9218868437227405312) = (if s then .gt else .lt) ∧ compare (sg false q) (sg s 9218868437227405312) = (if s then .gt else .lt) := by
    intro s q hq
    cases s <;> unfold sg <;> simp only [if_true, Bool.false_eq_true, if_false] <;>
      refine ⟨?_, ?_, ?_, ?_⟩ <;> first | exact cmp_lt (by omega) | exact cmp_gt (by omega)
  by_cases na : 9218868437227405312 < a % 9223372036854775808
  · rw [read_nan a na, if_pos (by simp [na])]; rfl
  by_cases nb : 9218868437227405312 < b % 9223372036854775808
  · rw [read_nan b nb, if_pos (by simp [nb])]
    cases FloatKind.f64.format.read a <;> rfl
  rw [if_neg (by simp; omega)]
  by_cases ia : a % 9223372036854775808 = 9218868437227405312
  · rw [read_inf a ia]
    by_cases ib : b % 9223372036854775808 = 9218868437227405312
    · rw [read_inf b ib, ia, ib]
      show some (compare (Bool.toNat _) (Bool.toNat _)) = _
      cases (a / 9223372036854775808 % 2 == 1) <;> cases (b / 9223372036854775808 % 2 == 1) <;> rfl
    · rw [read_fin b (by omega), ia]
      have := k1 (a / 9223372036854775808 % 2 == 1) (b % 9223372036854775808) (by omega)
      cases hb : (b / 9223372036854775808 % 2 == 1)
      · rw [this.2.1]; rfl
      · rw [this.1]; rfl
  · rw [read_fin a (by omega)]
    by_cases ib : b % 9223372036854775808 = 9218868437227405312
    · rw [read_inf b ib, ib]
      have := k1 (b / 9223372036854775808 % 2 == 1) (a % 9223372036854775808) (by omega)
      cases ha : (a / 9223372036854775808 % 2 == 1)
      · rw [this.2.2.2]; rfl
      · rw [this.2.2.1]; rfl
    · rw [read_fin b (by omega)]
      exact num_order _ _ _ _

theorem ord_ne_eq (a b : Nat) : (ord a b == some .eq) = (!isNaNB a && !isNaNB b && decide (keyF a = keyF b)) := by
  rw [ord_eq]
  cases ha : isNaNB a <;> cases hb : isNaNB b <;> simp
  rcases Int.lt_trichotomy (keyF a) (keyF b) with h | h | h
  · rw [cmp_lt h]; simp; omega
  · rw [h, cmp_eq]; simp
  · rw [cmp_gt h]; simp; omega
theorem ord_lt (a b : Nat) : (ord a b == some .lt) = (!isNaNB a && !isNaNB b && decide (keyF a < keyF b)) := by
  rw [ord_eq]
  cases ha : isNaNB a <;> cases hb : isNaNB b <;> simp
  rcases Int.lt_trichotomy (keyF a) (keyF b) with h | h | h
  · rw [cmp_lt h]; simp; omega
  · rw [h, cmp_eq]; simp
  · rw [cmp_gt h]; simp; omega
theorem ord_gt (a b : Nat) : (ord a b == some .gt) = (!isNaNB a && !isNaNB b && decide (keyF b < keyF a)) := by
  rw [ord_eq]
  cases ha : isNaNB a <;> cases hb : isNaNB b <;> simp
  rcases Int.lt_trichotomy (keyF a) (keyF b) with h | h | h
  · rw [cmp_lt h]; simp; omega
  · rw [h, cmp_eq]; simp
  · rw [cmp_gt h]; simp; omega
theorem ord_self (a : Nat) : (ord a a != some .eq) = isNaNB a := by
  rw [bne, ord_ne_eq]
  cases isNaNB a <;> simp
theorem ord_zero (a : Nat) : (ord a 0 == some .eq) = isZeroB a := by
  rw [ord_ne_eq]
  have h0 : isNaNB 0 = false := by decide
  have k0 : keyF 0 = 0 := by decide
  rw [h0, k0]
  unfold isNaNB isZeroB keyF
  by_cases h : a % 9223372036854775808 = 0
  · have : ¬ 9218868437227405312 < a % 9223372036854775808 := by omega
    simp [h]
  · by_cases hn : a / 9223372036854775808 % 2 = 1 <;> simp [h, hn] <;> omega

/-- The highest bit of eight bytes. -/
theorem top_and (a : Nat) (h : a < 18446744073709551616) : bits .and .u64 (a : Int) 9223372036854775808 = if a < 9223372036854775808 then 0 else 9223372036854775808 := by
  have e := u64_and_nat a 9223372036854775808 h (by omega)
  have k := nat_bit 63 a
  rw [show (2 : Nat) ^ 63 = 9223372036854775808 from rfl] at k
  refine e.trans ?_
  rw [k]
  split
  · rw [Nat.div_eq_of_lt (by omega)]; rfl
  · rw [show a / 9223372036854775808 = 1 by omega]; rfl
theorem and_low (a : Nat) : a &&& 9223372036854775807 = a % 9223372036854775808 := Nat.and_two_pow_sub_one_eq_mod a 63
theorem top_andNot (a : Nat) (h : a < 18446744073709551616) : bits .andNot .u64 (a : Int) 9223372036854775808 = ((a % 9223372036854775808 : Nat) : Int) := by
  have e := u64_andNot_nat a 9223372036854775808 h (by omega)
  refine e.trans ?_
  rw [show 18446744073709551615 - 9223372036854775808 = 9223372036854775807 from rfl, and_low]
theorem top_or (a : Nat) (h : a < 9223372036854775808) : bits .or .u64 (a : Int) 9223372036854775808 = ((a + 9223372036854775808 : Nat) : Int) := by
  have e := u64_or_nat a 9223372036854775808 (by omega) (by omega)
  refine e.trans ?_
  rw [Nat.or_comm, nat_join 63 9223372036854775808 a (by decide) (by omega), Nat.add_comm]
theorem nat_xor_top (a : Nat) (h : a < 18446744073709551616) : a ^^^ 9223372036854775808 = if a < 9223372036854775808 then a + 9223372036854775808 else a - 9223372036854775808 := by
  apply Nat.eq_of_testBit_eq
  intro i
  have h63 : (9223372036854775808 : Nat) = 2 ^ 63 := rfl
  rw [Nat.testBit_xor]
  split
  · rename_i hl
    rw [show a + 9223372036854775808 = 9223372036854775808 ||| a from (nat_join 63 9223372036854775808 a (by decide) (by omega)).symm ▸ Nat.add_comm _ _, Nat.testBit_or, h63, Nat.testBit_two_pow]
    by_cases hi : 63 = i
    · subst hi; rw [Nat.testBit_lt_two_pow (by omega)]; simp
    · simp [hi]
  · rename_i hl
    obtain ⟨c, rfl⟩ : ∃ c, a = 9223372036854775808 + c := ⟨a - 9223372036854775808, by omega⟩
    rw [Nat.add_sub_cancel_left, ← nat_join 63 9223372036854775808 c (by decide) (by omega), Nat.testBit_or, h63, Nat.testBit_two_pow]
    by_cases hi : 63 = i
    · subst hi; rw [Nat.testBit_lt_two_pow (x := c) (by omega)]; simp
    · simp [hi]
theorem top_xor (a : Nat) (h : a < 18446744073709551616) : bits .xor .u64 (a : Int) 9223372036854775808 = ((if a < 9223372036854775808 then a + 9223372036854775808 else a - 9223372036854775808 : Nat) : Int) := by
  have e := u64_xor_nat a 9223372036854775808 h (by omega)
  refine e.trans ?_
  rw [nat_xor_top a h]
theorem all_xor (a : Nat) (h : a < 18446744073709551616) : bits .xor .u64 IntKind.u64.max (a : Int) = ((18446744073709551615 - a : Nat) : Int) := by
  have e := u64_xor_nat 18446744073709551615 a (by omega) h
  refine Eq.trans (b := bits .xor .u64 ((18446744073709551615 : Nat) : Int) (a : Int)) rfl (e.trans ?_)
  congr 1
  apply Nat.eq_of_testBit_eq
  intro i
  have := Nat.testBit_two_pow_sub_succ (x := a) (n := 64) (by omega) i
  rw [show (2 : Nat) ^ 64 - (a + 1) = 18446744073709551615 - a by omega] at this
  rw [Nat.testBit_xor, this, show (18446744073709551615 : Nat) = 2 ^ 64 - 1 from rfl, Nat.testBit_two_pow_sub_one]
  by_cases hi : i < 64
  · simp [hi]
  · simp only [hi, decide_false, Bool.false_bne, Bool.false_and]
    exact Nat.testBit_lt_two_pow (Nat.lt_of_lt_of_le (show a < 2 ^ 64 by omega) (Nat.pow_le_pow_right (by omega) (by omega)))
end Go.Proofs.Ytimoenpfnaaehaa
