/-
  Layer 4, plain: the texts of lists stand as the lists do.
-/
import Derived.Test.YtimoenpfnaaehaaOT1
import Derived.Test.YtimoenpfnaaehaaOV2
namespace Go.Proofs.Ytimoenpfnaaehaa
open Lib (compareBytes)

theorem orI_assoc (a b c : Int) : orI (orI a b) c = orI a (orI b c) := by
  have := orI_spec a b; have := orI_spec (orI a b) c; have := orI_spec b c; have := orI_spec a (orI b c); omega
theorem orI_zero (a : Int) : orI 0 a = a := by have := orI_spec 0 a; omega
theorem orI_same (a : Int) : orI a 0 = a := by have := orI_spec a 0; omega

theorem bytes_zero : ∀ x y : List UInt8, compareBytes x y = 0 → x = y
  | [], [], _ => rfl
  | [], _ :: _, h => by simp [compareBytes] at h
  | _ :: _, [], h => by simp [compareBytes] at h
  | a :: xs, b :: ys, h => by
    rw [bytes_cons] at h
    have h1 := orI_spec (cmpI a.toNat b.toNat) (compareBytes xs ys)
    have h2 := cmpI_spec a.toNat b.toNat
    rw [bytes_zero xs ys (by omega), UInt8.toNat_inj.1 (show a.toNat = b.toNat by omega)]
theorem bytes_self : ∀ x : List UInt8, compareBytes x x = 0
  | [] => rfl
  | a :: xs => by
    rw [bytes_cons, bytes_self xs]
    have h1 := orI_spec (cmpI a.toNat a.toNat) 0
    have h2 := cmpI_spec a.toNat a.toNat
    omega

theorem less_is : ∀ x y : List UInt8, Op.bytesLess x y = decide (compareBytes x y = -1)
  | [], [] => by decide
  | [], _ :: _ => by simp [Op.bytesLess, compareBytes]
  | _ :: _, [] => by simp [Op.bytesLess, compareBytes]
  | a :: xs, b :: ys => by
    have h := less_is xs ys
    rw [bytes_cons]
    have h1 := orI_spec (cmpI a.toNat b.toNat) (compareBytes xs ys)
    have h2 := cmpI_spec a.toNat b.toNat
    unfold Op.bytesLess
    rw [h]
    rw [Bool.eq_iff_iff]
    simp only [Bool.or_eq_true, Bool.and_eq_true, decide_eq_true_eq, beq_iff_eq, UInt8.lt_iff_toNat_lt, ← UInt8.toNat_inj]
    omega

theorem ofNat_lt {n : Nat} : (UInt8.ofNat n).toNat = n % 256 := by simp

theorem last_cmp (u v : Nat) (a b : List UInt8) : ∀ q, compareBytes (lastB u q ++ a) (lastB v q ++ b) = orI (cmpI ((u % 256 ^ q : Nat) : Int) ((v % 256 ^ q : Nat) : Int)) (compareBytes a b)
  | 0 => by
    simp only [lastB, List.nil_append, Nat.pow_zero, Nat.mod_one]
    exact (orI_zero _).symm
  | q + 1 => by
    show compareBytes (UInt8.ofNat (u / 256 ^ q) :: (lastB u q ++ a)) (UInt8.ofNat (v / 256 ^ q) :: (lastB v q ++ b)) = _
    rw [bytes_cons, last_cmp u v a b q, ← orI_assoc]
    congr 1
    rw [ofNat_lt, ofNat_lt]
    have hu : u % 256 ^ (q + 1) = (u / 256 ^ q % 256) * 256 ^ q + u % 256 ^ q := by
      rw [Nat.pow_succ, Nat.mod_mul, Nat.mul_comm, Nat.add_comm]
    have hv : v % 256 ^ (q + 1) = (v / 256 ^ q % 256) * 256 ^ q + v % 256 ^ q := by
      rw [Nat.pow_succ, Nat.mod_mul, Nat.mul_comm, Nat.add_comm]
    have pu : u % 256 ^ q < 256 ^ q := Nat.mod_lt _ (Nat.pow_pos (by omega))
    have pv : v % 256 ^ q < 256 ^ q := Nat.mod_lt _ (Nat.pow_pos (by omega))
    rw [hu, hv]
    generalize u / 256 ^ q % 256 = x
    generalize v / 256 ^ q % 256 = y
    generalize u % 256 ^ q = r at *
    generalize v % 256 ^ q = s at *
    generalize 256 ^ q = m at *
    have h1 := cmpI_spec (x : Int) y
    have h2 := cmpI_spec (r : Int) s
    have h3 := cmpI_spec ((x * m + r : Nat) : Int) ((y * m + s : Nat) : Int)
    have h4 := orI_spec (cmpI (x : Int) y) (cmpI (r : Int) s)
    rcases Nat.lt_trichotomy x y with e | e | e
    · have : (x + 1) * m ≤ y * m := Nat.mul_le_mul_right m e
      rw [Nat.add_mul, Nat.one_mul] at this
      omega
    · subst e
      omega
    · have : (y + 1) * m ≤ x * m := Nat.mul_le_mul_right m e
      rw [Nat.add_mul, Nat.one_mul] at this
      omega

theorem put8_cmp {u v : Nat} (hu : u < 18446744073709551616) (hv : v < 18446744073709551616) (a b : List UInt8) : compareBytes (put8 u ++ a) (put8 v ++ b) = orI (cmpI (u : Int) v) (compareBytes a b) := by
  have h := last_cmp u v a b 8
  rw [Nat.mod_eq_of_lt (show u < 256 ^ 8 by omega), Nat.mod_eq_of_lt (show v < 256 ^ 8 by omega)] at h
  exact h

/-- a clean number's turned bits by its key -/
theorem turn_key {a : Nat} (h : a < 18446744073709551616) : ((turnB (cln a) : Nat) : Int) = if kF a = 9223372036854775809 then 18444492273895866369 else if 0 ≤ kF a then 9223372036854775808 + kF a else 9223372036854775807 + kF a := by
  unfold kF cln turnB isNaNB isZeroB keyF
  by_cases h1 : 9218868437227405312 < a % 9223372036854775808
  · simp [h1]
  · simp only [h1, decide_false, Bool.false_eq_true, if_false]
    by_cases h2 : a % 9223372036854775808 = 0
    · simp only [h2, decide_true, if_true]
      split <;> simp_all
    · simp only [h2, decide_false, Bool.false_eq_true, if_false]
      split <;> split <;> (split <;> try split) <;> omega
theorem turn_lt {a : Nat} (h : a < 18446744073709551616) : turnB (cln a) < 18446744073709551616 := by
  have := cln_lt h
  unfold turnB
  split <;> omega
theorem kF_in {a : Nat} : kF a = 9223372036854775809 ∨ (-9223372036854775808 < kF a ∧ kF a ≤ 9218868437227405312) := by
  unfold kF isNaNB keyF
  by_cases h1 : 9218868437227405312 < a % 9223372036854775808
  · simp [h1]
  · simp only [h1, decide_false, Bool.false_eq_true, if_false]
    split <;> omega
theorem turn_cmp {a b : Nat} (ha : a < 18446744073709551616) (hb : b < 18446744073709551616) : cmpI ((turnB (cln a) : Nat) : Int) (turnB (cln b) : Nat) = cmpF a b := by
  rw [cmpF_key, turn_key ha, turn_key hb]
  have h1 := @kF_in a
  have h2 := @kF_in b
  have h3 := cmpI_spec (kF a) (kF b)
  generalize kF a = x at *
  generalize kF b = y at *
  have h4 := cmpI_spec (if x = 9223372036854775809 then (18444492273895866369 : Int) else if 0 ≤ x then 9223372036854775808 + x else 9223372036854775807 + x) (if y = 9223372036854775809 then (18444492273895866369 : Int) else if 0 ≤ y then 9223372036854775808 + y else 9223372036854775807 + y)
  repeat' split at h4
  all_goals repeat' split
  all_goals first | omega | contradiction

theorem esc_cons (c : UInt8) (l : List UInt8) : escT (c :: l) = (if c = 0 then [0, 255] else [c]) ++ escT l := by simp [escT]
theorem pos_of {c : UInt8} (h : c ≠ 0) : 0 < c.toNat := by
  have : c.toNat ≠ 0 := fun e => h (UInt8.toNat_inj.1 (by rw [e]; rfl))
  omega
theorem esc_cmp (a b : List UInt8) : ∀ s t : List UInt8, compareBytes (escT s ++ 0 :: 1 :: a) (escT t ++ 0 :: 1 :: b) = orI (compareBytes s t) (compareBytes a b)
  | [], [] => by
    show compareBytes (0 :: 1 :: a) (0 :: 1 :: b) = _
    rw [bytes_cons, bytes_cons, show cmpI ((0 : UInt8).toNat : Int) (0 : UInt8).toNat = 0 by decide, show cmpI ((1 : UInt8).toNat : Int) (1 : UInt8).toNat = 0 by decide, orI_zero, orI_zero]
    exact (orI_zero _).symm
  | [], c :: t => by
    show compareBytes (0 :: 1 :: a) _ = orI (-1) _
    rw [esc_cons]
    by_cases h : c = 0
    · subst h
      show compareBytes (0 :: 1 :: a) (0 :: 255 :: _) = _
      rw [bytes_cons, bytes_cons, show cmpI ((0 : UInt8).toNat : Int) (0 : UInt8).toNat = 0 by decide, show cmpI ((1 : UInt8).toNat : Int) (255 : UInt8).toNat = -1 by decide, orI_zero]
      have := orI_spec (-1) (compareBytes a b); have := fun z => orI_spec (-1) z
      unfold orI; simp
    · rw [if_neg h]
      show compareBytes (0 :: 1 :: a) (c :: _) = _
      rw [bytes_cons]
      have := pos_of h
      have h2 := cmpI_spec ((0 : UInt8).toNat : Int) c.toNat
      rw [show cmpI ((0 : UInt8).toNat : Int) c.toNat = -1 by have : (0 : UInt8).toNat = 0 := rfl; omega]
      unfold orI; simp
  | c :: t, [] => by
    show compareBytes _ (0 :: 1 :: b) = orI 1 _
    rw [esc_cons]
    by_cases h : c = 0
    · subst h
      show compareBytes (0 :: 255 :: _) (0 :: 1 :: b) = _
      rw [bytes_cons, bytes_cons, show cmpI ((0 : UInt8).toNat : Int) (0 : UInt8).toNat = 0 by decide, show cmpI ((255 : UInt8).toNat : Int) (1 : UInt8).toNat = 1 by decide, orI_zero]
      unfold orI; simp
    · rw [if_neg h]
      show compareBytes (c :: _) (0 :: 1 :: b) = _
      rw [bytes_cons]
      have := pos_of h
      have h2 := cmpI_spec (c.toNat : Int) (0 : UInt8).toNat
      rw [show cmpI (c.toNat : Int) (0 : UInt8).toNat = 1 by have : (0 : UInt8).toNat = 0 := rfl; omega]
      unfold orI; simp
  | c :: s, d :: t => by
    have ih := esc_cmp a b s t
    rw [esc_cons, esc_cons, bytes_cons, orI_assoc, ← ih]
    have h2 := cmpI_spec (c.toNat : Int) d.toNat
    by_cases hc : c = 0 <;> by_cases hd : d = 0
    · subst hc; subst hd
      show compareBytes (0 :: 255 :: (escT s ++ _)) (0 :: 255 :: (escT t ++ _)) = _
      rw [bytes_cons, bytes_cons, show cmpI ((0 : UInt8).toNat : Int) (0 : UInt8).toNat = 0 by decide, show cmpI ((255 : UInt8).toNat : Int) (255 : UInt8).toNat = 0 by decide, orI_zero, orI_zero]
    · subst hc
      rw [if_neg hd]
      show compareBytes (0 :: 255 :: (escT s ++ _)) (d :: (escT t ++ _)) = _
      have := pos_of hd
      rw [bytes_cons]
      have h3 := orI_spec (cmpI ((0 : UInt8).toNat : Int) d.toNat) (compareBytes (255 :: (escT s ++ 0 :: 1 :: a)) (escT t ++ 0 :: 1 :: b))
      have h4 := orI_spec (cmpI ((0 : UInt8).toNat : Int) d.toNat) (compareBytes (escT s ++ 0 :: 1 :: a) (escT t ++ 0 :: 1 :: b))
      have : (0 : UInt8).toNat = 0 := rfl
      omega
    · subst hd
      rw [if_neg hc]
      show compareBytes (c :: (escT s ++ _)) (0 :: 255 :: (escT t ++ _)) = _
      have := pos_of hc
      rw [bytes_cons]
      have h3 := orI_spec (cmpI (c.toNat : Int) (0 : UInt8).toNat) (compareBytes (escT s ++ 0 :: 1 :: a) (255 :: (escT t ++ 0 :: 1 :: b)))
      have h4 := orI_spec (cmpI (c.toNat : Int) (0 : UInt8).toNat) (compareBytes (escT s ++ 0 :: 1 :: a) (escT t ++ 0 :: 1 :: b))
      have : (0 : UInt8).toNat = 0 := rfl
      omega
    · rw [if_neg hc, if_neg hd]
      show compareBytes (c :: (escT s ++ _)) (d :: (escT t ++ _)) = _
      rw [bytes_cons]

/-- an item that may be in a list, all it holds within bounds -/
structure It.Fine (x : It) : Prop where
  ok : x.ok = true
  n0 : -9223372036854775808 ≤ x.n
  n1 : x.n ≤ 9223372036854775807
  f : x.f < 18446744073709551616
  re : x.re < 18446744073709551616
  im : x.im < 18446744073709551616

theorem It.Fine.k {x : It} (h : x.Fine) : 1 ≤ x.k ∧ x.k ≤ 6 := by
  have := h.ok
  unfold It.ok at this
  simp only [Bool.and_eq_true, decide_eq_true_eq] at this
  omega

def It.body (x : It) : List UInt8 :=
  if x.k = 2 then [if x.b then 1 else 0] else if x.k = 3 then put8 (x.n + 9223372036854775808).toNat
    else if x.k = 4 then put8 (turnB (cln x.f)) else if x.k = 5 then put8 (turnB (cln x.re)) ++ put8 (turnB (cln x.im)) else if x.k = 6 then escT x.t.data.toList ++ [0, 1] else []
theorem clean_body {x : It} (h : x.ok = true) : x.clean.bytes = UInt8.ofNat x.k.toNat :: x.body := by
  obtain ⟨k, b, n, f, re, im, t⟩ := x
  unfold It.clean
  rw [if_pos h]
  unfold It.bytes It.body It.only
  simp only
  congr 1
  by_cases h2 : k = 2
  · simp [h2]
  by_cases h3 : k = 3
  · simp [h3]
  by_cases h4 : k = 4
  · simp [h4]
  by_cases h5 : k = 5
  · simp [h5]
  by_cases h6 : k = 6
  · simp [h6]
  simp [h2, h3, h4, h5, h6]

theorem body_cmp {x y : It} (hx : x.Fine) (hy : y.Fine) (hk : x.k = y.k) (a b : List UInt8) : compareBytes (x.body ++ a) (y.body ++ b) = orI (It.kindCmp x.k x y) (compareBytes a b) := by
  have k1 := hx.k
  have k2 := hy.k
  unfold It.body It.kindCmp
  rw [← hk]
  by_cases h2 : x.k = 2
  · rw [if_pos h2, if_pos h2, if_pos h2]
    show compareBytes (_ :: a) (_ :: b) = _
    rw [bytes_cons]
    congr 1
    cases x.b <;> cases y.b <;> decide
  by_cases h3 : x.k = 3
  · simp only [if_neg h2, if_pos h3]
    have := hx.n0; have := hx.n1; have := hy.n0; have := hy.n1
    rw [put8_cmp (by omega) (by omega)]
    congr 1
    have h1 := cmpI_spec x.n y.n
    have h2 := cmpI_spec ((x.n + 9223372036854775808).toNat : Int) (y.n + 9223372036854775808).toNat
    omega
  by_cases h4 : x.k = 4
  · simp only [if_neg h2, if_neg h3, if_pos h4]
    rw [put8_cmp (turn_lt hx.f) (turn_lt hy.f), turn_cmp hx.f hy.f]
  by_cases h5 : x.k = 5
  · simp only [if_neg h2, if_neg h3, if_neg h4, if_pos h5]
    rw [List.append_assoc, List.append_assoc, put8_cmp (turn_lt hx.re) (turn_lt hy.re), turn_cmp hx.re hy.re, put8_cmp (turn_lt hx.im) (turn_lt hy.im), turn_cmp hx.im hy.im, orI_assoc]
  by_cases h6 : x.k = 6
  · simp only [if_neg h2, if_neg h3, if_neg h4, if_neg h5, if_pos h6]
    rw [List.append_assoc, List.append_assoc]
    exact esc_cmp a b _ _
  · simp only [if_neg h2, if_neg h3, if_neg h4, if_neg h5, if_neg h6]
    exact (orI_zero _).symm

theorem item_cmp {x y : It} (hx : x.Fine) (hy : y.Fine) (a b : List UInt8) : compareBytes (x.clean.bytes ++ a) (y.clean.bytes ++ b) = orI (x.cmp y) (compareBytes a b) := by
  have k1 := hx.k
  have k2 := hy.k
  rw [clean_body hx.ok, clean_body hy.ok, List.cons_append, List.cons_append, bytes_cons, ofNat_lt, ofNat_lt, cmp_ok hx.ok hy.ok, orI_assoc, show ((x.k.toNat % 256 : Nat) : Int) = x.k by omega, show ((y.k.toNat % 256 : Nat) : Int) = y.k by omega]
  by_cases hk : x.k = y.k
  · rw [body_cmp hx hy hk]
  · have h1 := cmpI_spec x.k y.k
    have h2 := orI_spec (cmpI x.k y.k) (compareBytes (x.body ++ a) (y.body ++ b))
    have h3 := orI_spec (cmpI x.k y.k) (orI (It.kindCmp x.k x y) (compareBytes a b))
    omega
theorem item_same {x y : It} (hx : x.Fine) (hy : y.Fine) (h : x.cmp y = 0) : x.clean.bytes = y.clean.bytes := by
  have := item_cmp hx hy [] []
  rw [List.append_nil, List.append_nil, h, orI_zero] at this
  exact bytes_zero _ _ this
theorem item_apart {x y : It} (hx : x.Fine) (hy : y.Fine) (h : x.cmp y ≠ 0) (a b : List UInt8) : x.clean.bytes ++ a ≠ y.clean.bytes ++ b := fun e => by
  have h1 := item_cmp hx hy a b
  rw [e, bytes_self] at h1
  have := orI_spec (x.cmp y) (compareBytes a b)
  omega

theorem bytesOf_cons (x : It) (xs : List It) : bytesOf (x :: xs) = x.clean.bytes ++ bytesOf xs := by simp [bytesOf]

/-- THE ORDER: of the texts that of the lists. -/
theorem all_cmp : ∀ {xs ys : List It}, (∀ x ∈ xs, x.Fine) → (∀ y ∈ ys, y.Fine) → compareBytes (bytesOf xs) (bytesOf ys) = cmpAll xs ys
  | [], [], _, _ => by decide
  | [], y :: ys, _, hy => by
    have := hy y (by simp)
    rw [bytesOf_cons, clean_body this.ok]
    show (-1 : Int) = cmpI 0 _
    have := cmpI_spec 0 ((y :: ys).length : Int)
    simp only [List.length_cons] at this ⊢
    omega
  | x :: xs, [], hx, _ => by
    have := hx x (by simp)
    rw [bytesOf_cons, clean_body this.ok]
    show (1 : Int) = cmpI _ 0
    have := cmpI_spec ((x :: xs).length : Int) 0
    simp only [List.length_cons] at this ⊢
    omega
  | x :: xs, y :: ys, hx, hy => by
    rw [bytesOf_cons, bytesOf_cons, item_cmp (hx x (by simp)) (hy y (by simp)), all_cmp (fun z hz => hx z (by simp [hz])) (fun z hz => hy z (by simp [hz]))]
    show _ = if x.cmp y = 0 then cmpAll xs ys else x.cmp y
    have := orI_spec (x.cmp y) (cmpAll xs ys)
    split <;> omega

/-- the second list's items begin the first's -/
def firstB : List It → List It → Bool
  | _, [] => true
  | [], _ :: _ => false
  | x :: xs, y :: ys => decide (x.cmp y = 0) && firstB xs ys

/-- BEGINNINGS: of the texts those of the lists. -/
theorem all_first : ∀ {xs ys : List It}, (∀ x ∈ xs, x.Fine) → (∀ y ∈ ys, y.Fine) → (bytesOf ys).isPrefixOf (bytesOf xs) = firstB xs ys
  | [], [], _, _ => by decide
  | _ :: _, [], _, _ => by simp [bytesOf, firstB]
  | [], y :: ys, _, hy => by
    have := hy y (by simp)
    rw [bytesOf_cons, clean_body this.ok]
    rfl
  | x :: xs, y :: ys, hx, hy => by
    have fx := hx x (by simp)
    have fy := hy y (by simp)
    have ih := all_first (xs := xs) (ys := ys) (fun z hz => hx z (by simp [hz])) (fun z hz => hy z (by simp [hz]))
    rw [bytesOf_cons, bytesOf_cons]
    unfold firstB
    rw [← ih]
    by_cases h : x.cmp y = 0
    · rw [item_same fx fy h]
      simp only [h, decide_true, Bool.true_and]
      rw [Bool.eq_iff_iff, List.isPrefixOf_iff_prefix, List.isPrefixOf_iff_prefix, List.prefix_append_right_inj]
    · simp only [h, decide_false, Bool.false_and]
      rw [Bool.eq_false_iff]
      intro hp
      obtain ⟨z, hz⟩ := List.isPrefixOf_iff_prefix.1 hp
      rw [List.append_assoc] at hz
      exact item_apart fx fy h _ _ hz.symm

end Go.Proofs.Ytimoenpfnaaehaa
