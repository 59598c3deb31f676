/-
  Layer 4: the order of items is total.
-/
import Derived.Test.YtimoenpfnaaehaaOS2
namespace Go.Proofs.Ytimoenpfnaaehaa
open Go.RowKit

/-- A total order, by a sign. -/
structure Tot {α : Type} (c : α → α → Int) : Prop where
  sgn : ∀ x y, c x y = -1 ∨ c x y = 0 ∨ c x y = 1
  anti : ∀ x y, c y x = - c x y
  trans : ∀ x y z, c x y ≤ 0 → c y z ≤ 0 → c x z ≤ 0 ∧ (c x z = 0 → c x y = 0 ∧ c y z = 0) ∧ (c x y = 0 → c y z = 0 → c x z = 0)

theorem cmpI_spec (a b : Int) : (a < b ∧ cmpI a b = -1) ∨ (a = b ∧ cmpI a b = 0) ∨ (b < a ∧ cmpI a b = 1) := by
  unfold cmpI
  rcases Int.lt_trichotomy a b with h | h | h
  · rw [if_pos h]; omega
  · rw [if_neg (by omega), if_neg (by omega)]; omega
  · rw [if_neg (by omega), if_pos h]; omega

theorem tot_cmpI : Tot cmpI := by
  refine ⟨fun x y => ?_, fun x y => ?_, fun x y z h1 h2 => ?_⟩
  · have := cmpI_spec x y; omega
  · have := cmpI_spec x y; have := cmpI_spec y x; omega
  · have := cmpI_spec x y; have := cmpI_spec y z; have := cmpI_spec x z; omega

theorem Tot.on {α β : Type} {c : β → β → Int} (h : Tot c) (f : α → β) : Tot fun x y => c (f x) (f y) :=
  ⟨fun _ _ => h.sgn _ _, fun _ _ => h.anti _ _, fun _ _ _ => h.trans _ _ _⟩
theorem tot_zero {α : Type} : Tot fun (_ _ : α) => (0 : Int) := ⟨by simp, by simp, by simp⟩

theorem orI_spec (a b : Int) : (a ≠ 0 ∧ orI a b = a) ∨ (a = 0 ∧ orI a b = b) := by
  unfold orI
  by_cases h : a = 0
  · simp [h]
  · simp [h]

theorem tot_or {α : Type} {c d : α → α → Int} (h : Tot c) (h' : Tot d) : Tot fun x y => orI (c x y) (d x y) := by
  refine ⟨fun x y => ?_, fun x y => ?_, fun x y z h1 h2 => ?_⟩
  · have := orI_spec (c x y) (d x y); have := h.sgn x y; have := h'.sgn x y; omega
  · have := orI_spec (c x y) (d x y); have := orI_spec (c y x) (d y x); have := h.anti x y; have := h'.anti x y; omega
  · have a1 := orI_spec (c x y) (d x y); have a2 := orI_spec (c y z) (d y z); have a3 := orI_spec (c x z) (d x z)
    have b1 := h.sgn x y; have b2 := h.sgn y z; have b3 := h'.sgn x y; have b4 := h'.sgn y z
    have t1 := h.trans x y z; have t2 := h'.trans x y z
    generalize orI (c x y) (d x y) = A at *
    generalize orI (c y z) (d y z) = B at *
    generalize orI (c x z) (d x z) = C at *
    by_cases e1 : c x y = 0
    · by_cases e2 : c y z = 0
      · obtain ⟨s1, s2, s3⟩ := t1 (by omega) (by omega)
        have := s3 e1 e2
        obtain ⟨r1, r2, r3⟩ := t2 (by omega) (by omega)
        refine ⟨by omega, fun hc => ?_, fun ha hb => ?_⟩
        · have := r2 (by omega); omega
        · have := r3 (by omega) (by omega); omega
      · obtain ⟨s1, s2, s3⟩ := t1 (by omega) (by omega)
        have : c x z ≠ 0 := fun e => e2 (s2 e).2
        omega
    · obtain ⟨s1, s2, s3⟩ := t1 (by omega) (by omega)
      have : c x z ≠ 0 := fun e => e1 (s2 e).1
      omega

/-- a key first, and within one key an order of its own -/
theorem tot_key {α : Type} (f : α → Int) (d : Int → α → α → Int) (h : ∀ k, Tot (d k)) : Tot fun x y => orI (cmpI (f x) (f y)) (d (f x) x y) := by
  refine ⟨fun x y => ?_, fun x y => ?_, fun x y z h1 h2 => ?_⟩
  · exact (tot_or (tot_cmpI.on f) (h (f x))).sgn x y
  · have a1 := cmpI_spec (f x) (f y)
    have a2 := cmpI_spec (f y) (f x)
    have b1 := orI_spec (cmpI (f x) (f y)) (d (f x) x y)
    have b2 := orI_spec (cmpI (f y) (f x)) (d (f y) y x)
    by_cases e : f x = f y
    · have c := (h (f x)).anti x y
      rw [← e] at a1 a2 b1 b2 ⊢
      omega
    · omega
  · have a1 := cmpI_spec (f x) (f y)
    have a2 := cmpI_spec (f y) (f z)
    have a3 := cmpI_spec (f x) (f z)
    have b1 := orI_spec (cmpI (f x) (f y)) (d (f x) x y)
    have b2 := orI_spec (cmpI (f y) (f z)) (d (f y) y z)
    have b3 := orI_spec (cmpI (f x) (f z)) (d (f x) x z)
    by_cases e1 : f x = f y
    · by_cases e2 : f y = f z
      · have t := (h (f x)).trans x y z
        have s1 := (h (f x)).sgn x y
        have s2 := (h (f x)).sgn y z
        rw [← e1] at e2 a1 a2 b1 b2 h1 h2 ⊢
        obtain ⟨t1, t2, t3⟩ := t (by omega) (by omega)
        refine ⟨by omega, fun hc => ?_, fun hc hc' => ?_⟩
        · have := t2 (by omega); omega
        · have := t3 (by omega) (by omega); omega
      · omega
    · omega

def kF (a : Nat) : Int := if isNaNB a then 9223372036854775809 else keyF a
theorem cmpF_key (a b : Nat) : cmpF a b = cmpI (kF a) (kF b) := by
  have ha : keyF a < 9223372036854775808 := by unfold keyF; split <;> omega
  have hb : keyF b < 9223372036854775808 := by unfold keyF; split <;> omega
  unfold cmpF kF
  cases isNaNB a <;> cases isNaNB b
  · simp
  · have := cmpI_spec (keyF a) (9223372036854775809); simp; omega
  · have := cmpI_spec (9223372036854775809) (keyF b); simp; omega
  · have := cmpI_spec (9223372036854775809) (9223372036854775809); simp; omega
theorem tot_cmpF : Tot cmpF := by
  have := tot_cmpI.on kF
  have e : cmpF = fun x y => cmpI (kF x) (kF y) := funext fun a => funext fun b => cmpF_key a b
  rw [e]
  exact this
theorem tot_cmpB : Tot cmpB := by
  have := tot_cmpI.on fun b : Bool => if b then (1 : Int) else 0
  have e : cmpB = fun x y => cmpI ((fun b : Bool => if b then (1 : Int) else 0) x) ((fun b : Bool => if b then (1 : Int) else 0) y) := funext fun a => funext fun b => by cases a <;> cases b <;> rfl
  rw [e]
  exact this

theorem bytes_cons (a b : UInt8) (xs ys : List UInt8) : Lib.compareBytes (a :: xs) (b :: ys) = orI (cmpI a.toNat b.toNat) (Lib.compareBytes xs ys) := by
  show (if a < b then (-1 : Int) else if b < a then 1 else Lib.compareBytes xs ys) = _
  have h := cmpI_spec (a.toNat : Int) b.toNat
  have h' := orI_spec (cmpI a.toNat b.toNat) (Lib.compareBytes xs ys)
  by_cases h1 : a < b
  · have := UInt8.lt_iff_toNat_lt.1 h1
    rw [if_pos h1]; omega
  · rw [if_neg h1]
    have n1 : ¬ a.toNat < b.toNat := fun e => h1 (UInt8.lt_iff_toNat_lt.2 e)
    by_cases h2 : b < a
    · have := UInt8.lt_iff_toNat_lt.1 h2
      rw [if_pos h2]; omega
    · rw [if_neg h2]
      have n2 : ¬ b.toNat < a.toNat := fun e => h2 (UInt8.lt_iff_toNat_lt.2 e)
      omega
theorem bytes_sgn : ∀ x y : List UInt8, Lib.compareBytes x y = -1 ∨ Lib.compareBytes x y = 0 ∨ Lib.compareBytes x y = 1
  | [], [] => .inr (.inl rfl)
  | [], _ :: _ => .inl rfl
  | _ :: _, [] => .inr (.inr rfl)
  | a :: xs, b :: ys => by
    have := bytes_sgn xs ys; have := cmpI_spec a.toNat b.toNat; have := orI_spec (cmpI a.toNat b.toNat) (Lib.compareBytes xs ys)
    rw [bytes_cons]; omega
theorem bytes_anti : ∀ x y : List UInt8, Lib.compareBytes y x = - Lib.compareBytes x y
  | [], [] => rfl
  | [], _ :: _ => rfl
  | _ :: _, [] => rfl
  | a :: xs, b :: ys => by
    have := bytes_anti xs ys; have := tot_cmpI.anti a.toNat b.toNat; have := orI_spec (cmpI a.toNat b.toNat) (Lib.compareBytes xs ys); have := orI_spec (cmpI b.toNat a.toNat) (Lib.compareBytes ys xs)
    rw [bytes_cons, bytes_cons]; omega
theorem bytes_trans : ∀ x y z : List UInt8, Lib.compareBytes x y ≤ 0 → Lib.compareBytes y z ≤ 0 → Lib.compareBytes x z ≤ 0 ∧ (Lib.compareBytes x z = 0 → Lib.compareBytes x y = 0 ∧ Lib.compareBytes y z = 0) ∧ (Lib.compareBytes x y = 0 → Lib.compareBytes y z = 0 → Lib.compareBytes x z = 0)
  | [], [], [], _, _ => by decide
  | [], [], _ :: _, _, _ => by simp [Lib.compareBytes]
  | [], _ :: _, [], _, h => by simp [Lib.compareBytes] at h
  | [], _ :: _, _ :: _, _, _ => by simp [Lib.compareBytes]
  | _ :: _, [], _, h, _ => by simp [Lib.compareBytes] at h
  | _ :: _, _ :: _, [], _, h => by simp [Lib.compareBytes] at h
  | a :: xs, b :: ys, c :: zs, h1, h2 => by
    rw [bytes_cons] at h1 h2
    simp only [bytes_cons]
    have t := bytes_trans xs ys zs
    have s1 := bytes_sgn xs ys; have s2 := bytes_sgn ys zs
    have a1 := cmpI_spec a.toNat b.toNat; have a2 := cmpI_spec b.toNat c.toNat; have a3 := cmpI_spec a.toNat c.toNat
    have b1 := orI_spec (cmpI a.toNat b.toNat) (Lib.compareBytes xs ys); have b2 := orI_spec (cmpI b.toNat c.toNat) (Lib.compareBytes ys zs); have b3 := orI_spec (cmpI a.toNat c.toNat) (Lib.compareBytes xs zs)
    by_cases e1 : a.toNat = b.toNat
    · by_cases e2 : b.toNat = c.toNat
      · obtain ⟨t1, t2, t3⟩ := t (by omega) (by omega)
        refine ⟨by omega, fun h => ?_, fun h h' => ?_⟩
        · have := t2 (by omega); omega
        · have := t3 (by omega) (by omega); omega
      · omega
    · omega
theorem tot_cmpS : Tot cmpS :=
  ⟨fun _ _ => bytes_sgn _ _, fun _ _ => bytes_anti _ _, fun _ _ _ => bytes_trans _ _ _⟩

/-- Two items of one kind. -/
def It.kindCmp (k : Int) (x y : It) : Int :=
  if k = 2 then cmpB x.b y.b else if k = 3 then cmpI x.n y.n else if k = 4 then cmpF x.f y.f
  else if k = 5 then orI (cmpF x.re y.re) (cmpF x.im y.im) else if k = 6 then cmpS x.t y.t else 0
theorem tot_kind (k : Int) : Tot (It.kindCmp k) := by
  unfold It.kindCmp
  by_cases h2 : k = 2
  · simp only [h2, if_true]; exact tot_cmpB.on It.b
  by_cases h3 : k = 3
  · simp [h3]; exact tot_cmpI.on It.n
  by_cases h4 : k = 4
  · simp [h4]; exact tot_cmpF.on It.f
  by_cases h5 : k = 5
  · simp [h5]; exact tot_or (tot_cmpF.on It.re) (tot_cmpF.on It.im)
  by_cases h6 : k = 6
  · simp [h6]; exact tot_cmpS.on It.t
  · simp [h2, h3, h4, h5, h6]; exact tot_zero
theorem tot_item : Tot fun x y : It => orI (cmpI x.k y.k) (It.kindCmp x.k x y) := tot_key It.k It.kindCmp tot_kind
theorem cmp_ok {x y : It} (hx : x.ok = true) (hy : y.ok = true) : x.cmp y = orI (cmpI x.k y.k) (It.kindCmp x.k x y) := by
  have h := cmpI_spec x.k y.k
  have h' := orI_spec (cmpI x.k y.k) (It.kindCmp x.k x y)
  unfold It.cmp
  by_cases e : x.k = y.k
  · rw [if_neg (by rw [hx, hy]; simp [e])]
    show It.kindCmp x.k x y = _
    omega
  · rw [if_pos (.inl e)]
    omega

end Go.Proofs.Ytimoenpfnaaehaa
