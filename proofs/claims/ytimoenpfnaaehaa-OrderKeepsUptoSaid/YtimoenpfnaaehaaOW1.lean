/-
  Layer 4, plain: what the reference's Decode answers is what the program's does.
-/
import Derived.Test.YtimoenpfnaaehaaON1
namespace Go.Proofs.Ytimoenpfnaaehaa

theorem esc_untext : ∀ {l t r : List UInt8}, untextL l = some (t, r) → l = escT t ++ 0 :: 1 :: r
  | [], t, r, h => by simp [untextL] at h
  | [c], t, r, h => by
    unfold untextL at h
    split at h
    · simp [untextL] at h
    · simp at h
  | c :: d :: l, t, r, h => by
    unfold untextL at h
    split at h
    · rename_i hc
      obtain ⟨⟨t', r'⟩, h1, h2⟩ := Option.map_eq_some_iff.1 h
      simp only [Prod.mk.injEq] at h2
      obtain ⟨rfl, rfl⟩ := h2
      rw [esc_untext h1, esc_cons, if_neg hc]
      rfl
    · rename_i hc
      have hc' : c = 0 := by simpa using hc
      subst hc'
      simp only at h
      split at h
      · rename_i hd
        simp only [Option.some.injEq, Prod.mk.injEq] at h
        obtain ⟨rfl, rfl⟩ := h
        rw [hd]
        rfl
      · split at h
        · rename_i hd
          obtain ⟨⟨t', r'⟩, h1, h2⟩ := Option.map_eq_some_iff.1 h
          simp only [Prod.mk.injEq] at h2
          obtain ⟨rfl, rfl⟩ := h2
          rw [hd, esc_untext h1]
          rfl
        · cases h

theorem last_mod (u m q : Nat) : lastB (u % 256 ^ (q + m)) q = lastB u q := by
  induction q generalizing m with
  | zero => rfl
  | succ q ih =>
    show UInt8.ofNat _ :: lastB _ q = UInt8.ofNat _ :: lastB _ q
    have h1 : lastB (u % 256 ^ (q + 1 + m)) q = lastB u q := by
      rw [show q + 1 + m = q + (1 + m) by omega]
      exact ih (1 + m)
    rw [h1]
    congr 1
    apply UInt8.toNat_inj.1
    rw [ofNat_lt, ofNat_lt]
    rw [show 256 ^ (q + 1 + m) = 256 ^ q * 256 ^ (1 + m) by rw [← Nat.pow_add]; congr 1; omega, Nat.mod_mul_right_div_self, Nat.add_comm 1 m, Nat.pow_succ, Nat.mod_mul_left_mod]

theorem put_num : ∀ l : List UInt8, lastB (numB l) l.length = l
  | [] => rfl
  | c :: l => by
    have ih := put_num l
    have hn : numB (c :: l) = c.toNat * 256 ^ l.length + numB l := by
      unfold numB
      rw [List.foldl_cons, numB_foldl]
      simp only [Nat.zero_mul, Nat.zero_add]
      rfl
    have hlt := numB_lt l
    show UInt8.ofNat (numB (c :: l) / 256 ^ l.length) :: lastB (numB (c :: l)) l.length = c :: l
    rw [hn]
    have h1 : (c.toNat * 256 ^ l.length + numB l) / 256 ^ l.length = c.toNat := by
      rw [Nat.mul_comm, Nat.mul_add_div (Nat.pow_pos (by omega)), Nat.div_eq_of_lt hlt, Nat.add_zero]
    have h2 : lastB (c.toNat * 256 ^ l.length + numB l) l.length = lastB (numB l) l.length := by
      rw [← last_mod (c.toNat * 256 ^ l.length + numB l) 0 l.length, ← last_mod (numB l) 0 l.length, Nat.add_zero, Nat.mul_add_mod_self_right]
    rw [h1, h2, ih]
    simp
theorem put8_num {l : List UInt8} (h : 8 ≤ l.length) : put8 (numB (l.take 8)) = l.take 8 := by
  have := put_num (l.take 8)
  rwa [List.length_take, Nat.min_eq_left h] at this
theorem turn_unturn {u : Nat} (h : u < 18446744073709551616) : turnB (unturn u) = u := by
  unfold unturn turnB
  split <;> split <;> omega

/-- what the reference takes of it -/
def rone (c : UInt8) (l : List UInt8) : Option (It × List UInt8) :=
  match unitem c l with
  | none => none
  | some (x, r) => if cln x.f = x.f ∧ cln x.re = x.re ∧ cln x.im = x.im then some (x, r) else none
def rall : Nat → List UInt8 → Option (List It)
  | _, [] => some []
  | 0, _ :: _ => none
  | n + 1, c :: l => match rone c l with
    | none => none
    | some (x, r) => (rall n r).map (x :: ·)
def refL (s : ByteArray) : Option (List It) := match rall s.size s.data.toList with
  | none => none
  | some xs => if 64 < xs.length then none else some xs

theorem unitem_cases {c : UInt8} {l : List UInt8} {x : It} {r : List UInt8} (h : unitem c l = some (x, r)) :
    (c = 1 ∧ x = ⟨1, false, 0, 0, 0, 0, E0⟩ ∧ l = r) ∨ (∃ d, c = 2 ∧ d.toNat ≤ 1 ∧ x = ⟨2, d == 1, 0, 0, 0, 0, E0⟩ ∧ l = d :: r) ∨
    (c = 3 ∧ 8 ≤ l.length ∧ x = ⟨3, false, (numB (l.take 8) : Int) - 9223372036854775808, 0, 0, 0, E0⟩ ∧ r = l.drop 8) ∨
    (c = 4 ∧ 8 ≤ l.length ∧ x = ⟨4, false, 0, unturn (numB (l.take 8)), 0, 0, E0⟩ ∧ r = l.drop 8) ∨
    (c = 5 ∧ 16 ≤ l.length ∧ x = ⟨5, false, 0, 0, unturn (numB (l.take 8)), unturn (numB ((l.drop 8).take 8)), E0⟩ ∧ r = l.drop 16) ∨
    (∃ t, c = 6 ∧ untextL l = some (t, r) ∧ x = ⟨6, false, 0, 0, 0, 0, ⟨t.toArray⟩⟩) := by
  unfold unitem at h
  by_cases h1 : c = 1
  · rw [if_pos h1] at h
    cases h
    exact .inl ⟨h1, rfl, rfl⟩
  rw [if_neg h1] at h
  by_cases h2 : c = 2
  · rw [if_pos h2] at h
    cases l with
    | nil => cases h
    | cons d l' =>
      simp only at h
      split at h
      · rename_i hd
        cases h
        exact .inr (.inl ⟨d, h2, hd, rfl, rfl⟩)
      · cases h
  rw [if_neg h2] at h
  by_cases h3 : c = 3
  · rw [if_pos h3] at h
    split at h
    · cases h
    · cases h
      exact .inr (.inr (.inl ⟨h3, by omega, rfl, rfl⟩))
  rw [if_neg h3] at h
  by_cases h4 : c = 4
  · rw [if_pos h4] at h
    split at h
    · cases h
    · cases h
      exact .inr (.inr (.inr (.inl ⟨h4, by omega, rfl, rfl⟩)))
  rw [if_neg h4] at h
  by_cases h5 : c = 5
  · rw [if_pos h5] at h
    split at h
    · cases h
    · split at h
      · cases h
      · cases h
        exact .inr (.inr (.inr (.inr (.inl ⟨h5, by omega, rfl, rfl⟩))))
  rw [if_neg h5] at h
  by_cases h6 : c = 6
  · rw [if_pos h6] at h
    obtain ⟨⟨t', r'⟩, h1, h2⟩ := Option.map_eq_some_iff.1 h
    simp only [Prod.mk.injEq] at h2
    obtain ⟨rfl, rfl⟩ := h2
    exact .inr (.inr (.inr (.inr (.inr ⟨t', h6, h1, rfl⟩))))
  · rw [if_neg h6] at h
    cases h

theorem num8 (l : List UInt8) : numB (l.take 8) < 18446744073709551616 := num8_lt l

/-- what unitem takes is what the item's bytes are -/
theorem unitem_bytes {c : UInt8} {l : List UInt8} {x : It} {r : List UInt8} (h : unitem c l = some (x, r)) : c :: l = x.bytes ++ r ∧ x.ok = true ∧ x.f < 18446744073709551616 ∧ x.re < 18446744073709551616 ∧ x.im < 18446744073709551616 := by
  have hu : ∀ {u : Nat}, u < 18446744073709551616 → unturn u < 18446744073709551616 := fun h => unturn_lt h
  rcases unitem_cases h with ⟨rfl, rfl, rfl⟩ | ⟨d, rfl, hd, rfl, rfl⟩ | ⟨rfl, hl, rfl, rfl⟩ | ⟨rfl, hl, rfl, rfl⟩ | ⟨rfl, hl, rfl, rfl⟩ | ⟨t, rfl, ht, rfl⟩
  · exact ⟨rfl, by simp [It.ok, isZeroB, emptyB], by decide, by decide, by decide⟩
  · refine ⟨?_, by simp [It.ok, isZeroB, emptyB], by simp, by simp, by simp⟩
    have : d = 0 ∨ d = 1 := by
      have : d.toNat = 0 ∨ d.toNat = 1 := by omega
      rcases this with h | h
      · exact .inl (UInt8.toNat_inj.1 h)
      · exact .inr (UInt8.toNat_inj.1 h)
    rcases this with rfl | rfl <;> rfl
  · refine ⟨?_, by simp [It.ok, isZeroB, emptyB], by simp, by simp, by simp⟩
    have e : ((numB (l.take 8) : Int) - 9223372036854775808 + 9223372036854775808).toNat = numB (l.take 8) := by omega
    show 3 :: l = (3 :: put8 ((numB (l.take 8) : Int) - 9223372036854775808 + 9223372036854775808).toNat) ++ l.drop 8
    rw [e, put8_num hl, List.cons_append, List.take_append_drop]
  · refine ⟨?_, by simp [It.ok, isZeroB, emptyB], hu (num8 l), by simp, by simp⟩
    show 4 :: l = (4 :: put8 (turnB (unturn (numB (l.take 8))))) ++ l.drop 8
    rw [turn_unturn (num8 l), put8_num hl, List.cons_append, List.take_append_drop]
  · refine ⟨?_, by simp [It.ok, isZeroB, emptyB], by simp, hu (num8 l), hu (num8 _)⟩
    show 5 :: l = (5 :: (put8 (turnB (unturn (numB (l.take 8)))) ++ put8 (turnB (unturn (numB ((l.drop 8).take 8)))))) ++ l.drop 16
    rw [turn_unturn (num8 l), turn_unturn (num8 _), put8_num (by omega), put8_num (by rw [List.length_drop]; omega), List.cons_append, List.append_assoc, show (16 : Nat) = 8 + 8 from rfl, ← List.drop_drop, List.take_append_drop, List.take_append_drop]
  · refine ⟨?_, by simp [It.ok, isZeroB], by simp, by simp, by simp⟩
    show 6 :: l = (6 :: (escT t ++ [0, 1])) ++ r
    rw [esc_untext ht]
    simp

def It.canon (x : It) : Prop := cln x.f = x.f ∧ cln x.re = x.re ∧ cln x.im = x.im
theorem canon_clean {x : It} (ho : x.ok = true) (h : x.canon) : x.clean = x := by
  have hc := clean_pure ho
  obtain ⟨k, b, n, f, re, im, t⟩ := x
  obtain ⟨h1, h2, h3⟩ := h
  simp only at h1 h2 h3
  rw [hc]
  unfold It.ok at ho
  unfold It.pure
  simp only [Bool.and_eq_true, Bool.or_eq_true, beq_iff_eq, Bool.not_eq_true', decide_eq_true_eq] at ho
  obtain ⟨⟨⟨⟨⟨⟨_, _⟩, ob⟩, on⟩, ot⟩, of⟩, oc⟩ := ho
  simp only [It.mk.injEq, true_and]
  refine ⟨?_, ?_, ?_, ?_, ?_, ?_⟩
  · split
    · rfl
    · rename_i hk; rcases ob with h | h
      · exact absurd h hk
      · exact h.symm
  · split
    · rfl
    · rename_i hk; rcases on with h | h
      · exact absurd h hk
      · exact h.symm
  · split
    · exact h1
    · rename_i hk; rcases of with h | h
      · exact absurd h hk
      · have hn : isNaNB f = false := by unfold isZeroB at h; unfold isNaNB; simp only [decide_eq_true_eq] at h; rw [h]; rfl
        rw [← h1]; unfold cln; rw [hn, h]; rfl
  · split
    · exact h2
    · rename_i hk; rcases oc with h | h
      · exact absurd h hk
      · have hn : isNaNB re = false := by have h := h.1; unfold isZeroB at h; unfold isNaNB; simp only [decide_eq_true_eq] at h; rw [h]; rfl
        rw [← h2]; unfold cln; rw [hn, h.1]; rfl
  · split
    · exact h3
    · rename_i hk; rcases oc with h | h
      · exact absurd h hk
      · have hn : isNaNB im = false := by have h := h.2; unfold isZeroB at h; unfold isNaNB; simp only [decide_eq_true_eq] at h; rw [h]; rfl
        rw [← h3]; unfold cln; rw [hn, h.2]; rfl
  · split
    · rfl
    · rename_i hk; rcases ot with h | h
      · exact absurd h hk
      · unfold emptyB at h
        rw [ByteArray.toList_eq, ByteArray.toList_eq] at h
        apply ByteArray.ext
        apply Array.ext'
        exact (eq_of_beq h).symm

theorem canon_of_bytes {c : UInt8} {l : List UInt8} {x : It} {r r' : List UInt8} (h : unitem c l = some (x, r)) (e : x.bytes ++ r = x.clean.bytes ++ r') : x.canon ∧ r = r' := by
  obtain ⟨_, ho, hf, hre, him⟩ := unitem_bytes h
  have h0 : cln 0 = 0 := cln_zero'
  have hE : ∀ {a b : Nat}, a < 18446744073709551616 → b < 18446744073709551616 → put8 (turnB a) = put8 (turnB b) → a = b := fun {a b} ha hb h => by
    have h1 := congrArg numB h
    rw [numB_put8 (turnB_lt ha), numB_put8 (turnB_lt hb)] at h1
    have h2 := congrArg unturn h1
    rwa [unturn_turn ha, unturn_turn hb] at h2
  have hs : ∀ {a b : Nat} {u v : List UInt8}, put8 a ++ u = put8 b ++ v → put8 a = put8 b ∧ u = v := fun {a b u v} h =>
    List.append_inj h (by rw [lastB_len, lastB_len])
  rcases unitem_cases h with ⟨rfl, rfl, rfl⟩ | ⟨d, rfl, hd, rfl, rfl⟩ | ⟨rfl, hl, rfl, rfl⟩ | ⟨rfl, hl, rfl, rfl⟩ | ⟨rfl, hl, rfl, rfl⟩ | ⟨t, rfl, ht, rfl⟩
  · have hc : It.canon ⟨1, false, 0, 0, 0, 0, E0⟩ := ⟨h0, h0, h0⟩
    rw [canon_clean ho hc] at e
    exact ⟨hc, List.append_cancel_left e⟩
  · have hc : It.canon ⟨2, d == 1, 0, 0, 0, 0, E0⟩ := ⟨h0, h0, h0⟩
    rw [canon_clean ho hc] at e
    exact ⟨hc, List.append_cancel_left e⟩
  · have hc : It.canon ⟨3, false, (numB (l.take 8) : Int) - 9223372036854775808, 0, 0, 0, E0⟩ := ⟨h0, h0, h0⟩
    rw [canon_clean ho hc] at e
    exact ⟨hc, List.append_cancel_left e⟩
  · generalize unturn (numB (l.take 8)) = f at *
    rw [clean_pure ho] at e
    have e' : (4 : UInt8) :: (put8 (turnB f) ++ l.drop 8) = 4 :: (put8 (turnB (cln f)) ++ r') := e
    obtain ⟨h1, h2⟩ := hs (List.cons.inj e').2
    have h3 := hE hf (cln_lt hf) h1
    exact ⟨⟨h3.symm, h0, h0⟩, h2⟩
  · generalize unturn (numB (l.take 8)) = f at *
    generalize unturn (numB ((l.drop 8).take 8)) = f' at *
    rw [clean_pure ho] at e
    have e' : (5 : UInt8) :: (put8 (turnB f) ++ put8 (turnB f') ++ l.drop 16) = 5 :: (put8 (turnB (cln f)) ++ put8 (turnB (cln f')) ++ r') := e
    rw [List.append_assoc, List.append_assoc] at e'
    obtain ⟨h1, h2⟩ := hs (List.cons.inj e').2
    obtain ⟨h3, h4⟩ := hs h2
    exact ⟨⟨h0, (hE hre (cln_lt hre) h1).symm, (hE him (cln_lt him) h3).symm⟩, h4⟩
  · have hc : It.canon ⟨6, false, 0, 0, 0, 0, ⟨t.toArray⟩⟩ := ⟨h0, h0, h0⟩
    rw [canon_clean ho hc] at e
    exact ⟨hc, List.append_cancel_left e⟩

theorem rall_to : ∀ {n : Nat} {l : List UInt8} {xs : List It}, rall n l = some xs → unall n l = some xs ∧ bytesOf xs = l ∧ xs.all It.ok = true
  | n, [], xs, h => by
    cases n <;> (simp only [rall, Option.some.injEq] at h; subst h; exact ⟨rfl, rfl, rfl⟩)
  | 0, c :: l, xs, h => by simp [rall] at h
  | n + 1, c :: l, xs, h => by
    unfold rall rone at h
    cases hu : unitem c l with
    | none => rw [hu] at h; simp at h
    | some p =>
      obtain ⟨x, r⟩ := p
      rw [hu] at h
      simp only at h
      split at h
      · cases h
      · rename_i x' r' he
        split at he
        · rename_i hc
          cases he
          obtain ⟨ys, hy, rfl⟩ := Option.map_eq_some_iff.1 h
          obtain ⟨i1, i2, i3⟩ := rall_to hy
          obtain ⟨b1, b2, _⟩ := unitem_bytes hu
          have hcl := canon_clean b2 hc
          refine ⟨?_, ?_, by simp [b2, i3]⟩
          · unfold unall
            rw [hu]
            simp only [i1, Option.map_some, hcl]
          · rw [bytesOf_cons, hcl, i2, b1]
        · cases he

theorem rall_from : ∀ {n : Nat} {l : List UInt8} {xs : List It}, unall n l = some xs → bytesOf xs = l → rall n l = some xs
  | n, [], xs, h, _ => by
    cases n <;> exact h
  | 0, c :: l, xs, h, _ => by simp [unall] at h
  | n + 1, c :: l, xs, h, hb => by
    unfold unall at h
    cases hu : unitem c l with
    | none => rw [hu] at h; simp at h
    | some p =>
      obtain ⟨x, r⟩ := p
      rw [hu] at h
      simp only at h
      obtain ⟨ys, hy, rfl⟩ := Option.map_eq_some_iff.1 h
      obtain ⟨b1, b2, _⟩ := unitem_bytes hu
      rw [bytesOf_cons, (clean_clean b2).2, b1] at hb
      obtain ⟨hc, rfl⟩ := canon_of_bytes hu hb.symm
      have ih := rall_from hy rfl
      unfold rall rone
      rw [hu]
      simp only
      rw [if_pos (show cln x.f = x.f ∧ cln x.re = x.re ∧ cln x.im = x.im from hc)]
      simp only
      rw [ih, canon_clean b2 hc]
      rfl

/-- BOTH ANSWER ALIKE. -/
theorem ref_dec (s : ByteArray) : refL s = decL s := by
  have hs : (⟨s.data.toList.toArray⟩ : ByteArray) = s := by cases s; simp
  unfold refL decL
  cases hr : rall s.size s.data.toList with
  | some xs =>
    obtain ⟨h1, h2, h3⟩ := rall_to hr
    rw [h1]
    simp only
    by_cases hl : 64 < xs.length
    · rw [if_pos hl, if_neg]
      rintro ⟨h4, _⟩
      unfold encL at h4
      rw [if_pos hl] at h4
      simp at h4
    · rw [if_neg hl]
      have he : encL xs = (s, 0) := by
        unfold encL
        rw [if_neg hl, if_pos h3, h2, hs]
      rw [he]
      simp
  | none =>
    cases hu : unall s.size s.data.toList with
    | none => rfl
    | some xs =>
      simp only
      rw [if_neg]
      rintro ⟨h4, h5⟩
      rcases enc_ok (Prod.ext rfl h4 : encL xs = ((encL xs).1, 0)) with ⟨_, _, _, h6⟩ | h | h
      · rw [h5] at h6
        have h7 : bytesOf xs = s.data.toList := by rw [h6]
        rw [rall_from hu h7] at hr
        cases hr
      · simp at h
      · simp at h

end Go.Proofs.Ytimoenpfnaaehaa
