/-
  Layer 4, plain: there and back.
-/
import Derived.Test.YtimoenpfnaaehaaOK2
import Derived.Test.YtimoenpfnaaehaaOE
namespace Go.Proofs.Ytimoenpfnaaehaa

theorem untext_esc : ∀ t r : List UInt8, untextL (escT t ++ 0 :: 1 :: r) = some (t, r)
  | [], r => rfl
  | c :: t, r => by
    have ih := untext_esc t r
    rw [esc_cons]
    by_cases h : c = 0
    · subst h
      show (untextL (escT t ++ 0 :: 1 :: r)).map (fun (t, r) => (0 :: t, r)) = _
      rw [ih]
      rfl
    · rw [if_neg h]
      show untextL (c :: (escT t ++ 0 :: 1 :: r)) = _
      rw [untextL_cons h, ih]
      rfl

theorem numB_foldl (l : List UInt8) : ∀ n : Nat, l.foldl (fun n c => n * 256 + c.toNat) n = n * 256 ^ l.length + numB l := by
  induction l with
  | nil => intro n; simp [numB]
  | cons c l ih =>
    intro n
    have h1 := ih (n * 256 + c.toNat)
    have h2 := ih (0 * 256 + c.toNat)
    unfold numB
    simp only [List.foldl_cons, List.length_cons] at h1 h2 ⊢
    rw [h1, h2, Nat.pow_succ]
    have e : (n * 256 + c.toNat) * 256 ^ l.length = n * (256 ^ l.length * 256) + c.toNat * 256 ^ l.length := by
      rw [Nat.add_mul, Nat.mul_assoc, Nat.mul_comm 256]
    rw [e]
    simp only [Nat.zero_mul, Nat.zero_add]
    omega
theorem numB_last (u : Nat) : ∀ q : Nat, numB (lastB u q) = u % 256 ^ q
  | 0 => by simp [lastB, numB, Nat.mod_one]
  | q + 1 => by
    have ih := numB_last u q
    show numB (UInt8.ofNat (u / 256 ^ q) :: lastB u q) = _
    unfold numB
    rw [List.foldl_cons, numB_foldl, lastB_len, ih, ofNat_lt]
    rw [Nat.pow_succ, Nat.mod_mul]
    rw [Nat.mul_comm (256 ^ q)]
    simp only [Nat.zero_mul, Nat.zero_add]
    omega
theorem numB_put8 {u : Nat} (h : u < 18446744073709551616) : numB (put8 u) = u := by
  rw [numB_last, Nat.mod_eq_of_lt (by omega)]
theorem take_put8 (u : Nat) (r : List UInt8) : (put8 u ++ r).take 8 = put8 u ∧ (put8 u ++ r).drop 8 = r ∧ 8 ≤ (put8 u ++ r).length := by
  have h : (put8 u).length = 8 := lastB_len u 8
  refine ⟨?_, ?_, ?_⟩
  · rw [List.take_append_of_le_length (by omega), List.take_of_length_le (by omega)]
  · rw [List.drop_append_of_le_length (by omega), List.drop_of_length_le (by omega)]; rfl
  · rw [List.length_append, h]; omega
theorem unturn_turn {f : Nat} (h : f < 18446744073709551616) : unturn (turnB f) = f := by
  unfold unturn turnB
  split <;> split <;> omega
theorem turnB_lt {f : Nat} (h : f < 18446744073709551616) : turnB f < 18446744073709551616 := by
  unfold turnB
  split <;> omega
theorem cln_cln (f : Nat) : cln (cln f) = cln f := by
  by_cases h1 : isNaNB f = true
  · rw [show cln f = 9221120237041090561 by unfold cln; rw [if_pos h1]]
    decide
  · by_cases h2 : isZeroB f = true
    · rw [show cln f = 0 by unfold cln; rw [if_neg h1, if_pos h2]]
      decide
    · have h3 : cln f = f := by unfold cln; rw [if_neg h1, if_neg h2]
      rw [h3, h3]
theorem cln_zero' : cln 0 = 0 := by decide

/-- a clean item by its kind -/
def It.pure (x : It) : It := ⟨x.k, if x.k = 2 then x.b else false, if x.k = 3 then x.n else 0, if x.k = 4 then cln x.f else 0, if x.k = 5 then cln x.re else 0, if x.k = 5 then cln x.im else 0, if x.k = 6 then x.t else E0⟩
theorem clean_pure {x : It} (h : x.ok = true) : x.clean = x.pure := by
  obtain ⟨k, b, n, f, re, im, t⟩ := x
  unfold It.clean
  rw [if_pos h]
  unfold It.pure It.only
  simp only [It.mk.injEq, true_and]
  refine ⟨?_, ?_, ?_, trivial⟩ <;> split <;> first | rfl | exact cln_zero'

theorem unitem_back {x : It} (hx : x.Fine) (r : List UInt8) : unitem (UInt8.ofNat x.k.toNat) (x.body ++ r) = some (x.clean, r) := by
  have hk := hx.k
  rw [clean_pure hx.ok]
  have : x.k = 1 ∨ x.k = 2 ∨ x.k = 3 ∨ x.k = 4 ∨ x.k = 5 ∨ x.k = 6 := by omega
  rcases this with h | h | h | h | h | h
  · unfold It.body It.pure
    simp only [h]
    rfl
  · unfold It.body It.pure
    simp only [h]
    cases x.b <;> rfl
  · unfold It.body It.pure
    simp only [h]
    have h1 := take_put8 (x.n + 9223372036854775808).toNat r
    have := hx.n0; have := hx.n1
    show unitem 3 (put8 (x.n + 9223372036854775808).toNat ++ r) = _
    rw [unitem_3, if_neg (by omega), h1.1, h1.2.1, numB_put8 (by omega)]
    rw [show (((x.n + 9223372036854775808).toNat : Nat) : Int) - 9223372036854775808 = x.n by omega]
    rfl
  · unfold It.body It.pure
    simp only [h]
    have h1 := take_put8 (turnB (cln x.f)) r
    show unitem 4 (put8 (turnB (cln x.f)) ++ r) = _
    rw [unitem_4, if_neg (by omega), h1.1, h1.2.1, numB_put8 (turn_lt hx.f), unturn_turn (cln_lt hx.f)]
    rfl
  · unfold It.body It.pure
    simp only [h]
    have h1 := take_put8 (turnB (cln x.re)) (put8 (turnB (cln x.im)) ++ r)
    have h2 := take_put8 (turnB (cln x.im)) r
    show unitem 5 (put8 (turnB (cln x.re)) ++ put8 (turnB (cln x.im)) ++ r) = _
    rw [List.append_assoc]
    have hl : ¬ (put8 (turnB (cln x.re)) ++ (put8 (turnB (cln x.im)) ++ r)).length < 16 := by
      have : (put8 (turnB (cln x.re))).length = 8 := lastB_len (turnB (cln x.re)) 8
      have := h2.2.2
      rw [List.length_append]
      omega
    have hd : (put8 (turnB (cln x.re)) ++ (put8 (turnB (cln x.im)) ++ r)).drop 16 = r := by
      rw [show (16 : Nat) = 8 + 8 from rfl, ← List.drop_drop, h1.2.1, h2.2.1]
    rw [unitem_5, if_neg (by omega), if_neg hl, h1.1, h1.2.1, h2.1, hd, numB_put8 (turn_lt hx.re), unturn_turn (cln_lt hx.re), numB_put8 (turn_lt hx.im), unturn_turn (cln_lt hx.im)]
    rfl
  · unfold It.body It.pure
    simp only [h]
    show unitem 6 (escT x.t.data.toList ++ [0, 1] ++ r) = _
    rw [unitem_6, List.append_assoc]
    show (untextL (escT x.t.data.toList ++ 0 :: 1 :: r)).map _ = _
    rw [untext_esc]
    rfl

theorem pure_ok {x : It} (h : x.ok = true) : x.pure.ok = true := by
  have hk : 1 ≤ x.k ∧ x.k ≤ 6 := by
    unfold It.ok at h
    simp only [Bool.and_eq_true, decide_eq_true_eq] at h
    omega
  obtain ⟨k, b, n, f, re, im, t⟩ := x
  simp only at hk
  have : k = 1 ∨ k = 2 ∨ k = 3 ∨ k = 4 ∨ k = 5 ∨ k = 6 := by omega
  rcases this with rfl | rfl | rfl | rfl | rfl | rfl <;> simp [It.pure, It.ok, isZeroB, emptyB]
theorem pure_pure (x : It) : x.pure.pure = x.pure := by
  obtain ⟨k, b, n, f, re, im, t⟩ := x
  unfold It.pure
  simp only [It.mk.injEq, true_and]
  refine ⟨?_, ?_, ?_, ?_, ?_, ?_⟩ <;> split <;> first | rfl | exact cln_cln _
theorem clean_clean {x : It} (h : x.ok = true) : x.clean.ok = true ∧ x.clean.clean = x.clean := by
  have h1 := pure_ok h
  rw [clean_pure h, clean_pure h1, pure_pure]
  exact ⟨h1, rfl⟩

theorem unall_back : ∀ {xs : List It} {n : Nat}, (∀ x ∈ xs, x.Fine) → (bytesOf xs).length ≤ n → unall n (bytesOf xs) = some (xs.map It.clean)
  | [], n, _, _ => by cases n <;> rfl
  | x :: xs, n, hx, hn => by
    have fx := hx x (by simp)
    have ih := fun m => unall_back (xs := xs) (n := m) (fun z hz => hx z (by simp [hz]))
    rw [bytesOf_cons, clean_body fx.ok] at hn ⊢
    simp only [List.cons_append, List.length_cons, List.length_append] at hn ⊢
    obtain ⟨m, rfl⟩ : ∃ m, n = m + 1 := ⟨n - 1, by omega⟩
    unfold unall
    rw [unitem_back fx]
    simp only
    rw [ih m (by omega)]
    simp only [Option.map_some, List.map_cons]
    rw [(clean_clean fx.ok).2]

theorem dec_enc {xs : List It} (hx : Small xs) {r : ByteArray} (h : encL xs = (r, 0)) : decL r = some (xs.map It.clean) ∧ r.size ≤ 1073741824 := by
  rcases enc_ok h with ⟨_, h1, h2, rfl⟩ | h0 | h0
  rotate_left
  · simp at h0
  · simp at h0
  have hf := hx.fine h2
  have hs : (⟨(bytesOf xs).toArray⟩ : ByteArray).size = (bytesOf xs).length := size_mk _
  refine ⟨?_, ?_⟩
  · unfold decL
    rw [hs]
    show (match unall (bytesOf xs).length (bytesOf xs) with | none => none | some ys => if (encL ys).2 = 0 ∧ (encL ys).1 = (⟨(bytesOf xs).toArray⟩ : ByteArray) then some ys else none) = _
    rw [unall_back hf (Nat.le_refl _)]
    have hb : bytesOf (xs.map It.clean) = bytesOf xs := by
      unfold bytesOf
      rw [List.flatMap_map]
      simp only [List.flatMap]
      congr 1
      exact List.map_congr_left fun x hx => by rw [(clean_clean (hf x hx).ok).2]
    have ho : (xs.map It.clean).all It.ok = true := by
      rw [List.all_map]
      exact List.all_eq_true.2 fun x hx => (clean_clean (hf x hx).ok).1
    have he : encL (xs.map It.clean) = (⟨(bytesOf xs).toArray⟩, 0) := by
      unfold encL
      rw [if_neg (by simp; omega), if_pos ho, hb]
    simp only [he, and_self, if_true]
  · rw [hs]
    have hb : ∀ {zs : List It}, (∀ z ∈ zs, z.Fine ∧ z.t.size ≤ 1048576) → (bytesOf zs).length ≤ zs.length * 2097200 := by
      intro zs
      induction zs with
      | nil => intro _; simp [bytesOf]
      | cons z zs ih =>
        intro hz
        have h3 := ih (fun y hy => hz y (by simp [hy]))
        obtain ⟨fz, tz⟩ := hz z (by simp)
        have h4 := escT_len z.t.data.toList
        have h5 : z.t.data.toList.length = z.t.size := by simp
        have h6 : z.body.length ≤ 2097199 := by
          unfold It.body
          repeat (split <;> try simp [lastB_len])
          omega
        rw [bytesOf_cons, clean_body fz.ok]
        simp only [List.length_append, List.length_cons]
        omega
    have := hb (zs := xs) (fun z hz => ⟨hf z hz, hx.t z hz⟩)
    omega

theorem dec_some {s : ByteArray} {xs : List It} (h : decL s = some xs) : encL xs = (s, 0) := by
  unfold decL at h
  split at h
  · cases h
  · split at h
    · rename_i h1
      cases h
      exact Prod.ext h1.2 h1.1
    · cases h

end Go.Proofs.Ytimoenpfnaaehaa
