/-
  Layer 4's law OrderKept, walked.
-/
import Derived.Test.YtimoenpfnaaehaaOK1
import Derived.Test.YtimoenpfnaaehaaOPU
namespace Go.Proofs.Ytimoenpfnaaehaa
open Go.RowKit

theorem RowsAt.items {w : World} {A : Option Addr} {xs : List It} (h : RowsAt w A 6 (xs.map fun x => x.c.toList)) : ItemsAt w A xs := fun i x hx => by
  obtain ⟨g, off, hA, hg, hc⟩ := h i x.c.toList (by rw [List.getElem?_map, hx]; rfl)
  exact ⟨g, off, hA, hg, hc 0 _ rfl, hc 1 _ rfl, hc 2 _ rfl, hc 3 _ rfl, hc 4 _ rfl, hc 5 _ rfl⟩

/-- Raws of a small bulk -/
structure Small (xs : List It) : Prop where
  len : xs.length ≤ 1048576
  raw : ∀ x ∈ xs, x.Raw
  t : ∀ x ∈ xs, x.t.size ≤ 1048576
theorem Small.wf {xs : List It} (h : Small xs) : ∀ x ∈ xs, x.Wf := fun x hx =>
  have r := h.raw x hx
  ⟨r.k0, r.k1, r.n0, r.n1, r.f, r.re, r.im, Nat.le_trans (h.t x hx) (by omega)⟩
theorem Small.fine {xs : List It} (h : Small xs) (ho : xs.all It.ok = true) : ∀ x ∈ xs, x.Fine := fun x hx =>
  have r := h.raw x hx
  ⟨List.all_eq_true.1 ho x hx, r.n0, r.n1, r.f, r.re, r.im⟩

theorem enc_ok {xs : List It} {r : ByteArray} {e : Int} (h : encL xs = (r, e)) : (e = 0 ∧ xs.length ≤ 64 ∧ xs.all It.ok = true ∧ r = ⟨(bytesOf xs).toArray⟩) ∨ e = 3 ∨ e = 40 := by
  unfold encL at h
  split at h
  · cases h; exact .inr (.inl rfl)
  · split at h
    · rename_i h1 h2
      cases h
      exact .inl ⟨rfl, by omega, h2, rfl⟩
    · cases h; exact .inr (.inr rfl)

theorem kept_cases {xs ys : List It} (hx : Small xs) (hy : Small ys) {r r' : ByteArray} (h : encL xs = (r, 0)) (h' : encL ys = (r', 0)) :
    (cmpAll xs ys = -1 ∧ Op.bytesLess r.toList r'.toList = true) ∨ (cmpAll xs ys = 0 ∧ (r.toList == r'.toList) = true) ∨ (cmpAll xs ys = 1 ∧ Op.bytesLess r.toList r'.toList = false ∧ (r.toList == r'.toList) = false) := by
  rcases enc_ok h with ⟨_, _, h1, rfl⟩ | h0 | h0
  rotate_left
  · simp at h0
  · simp at h0
  rcases enc_ok h' with ⟨_, _, h2, rfl⟩ | h0 | h0
  rotate_left
  · simp at h0
  · simp at h0
  have hc := all_cmp (hx.fine h1) (hy.fine h2)
  have hs := bytes_sgn (bytesOf xs) (bytesOf ys)
  have e1 : (⟨(bytesOf xs).toArray⟩ : ByteArray).toList = bytesOf xs := by simp
  have e2 : (⟨(bytesOf ys).toArray⟩ : ByteArray).toList = bytesOf ys := by simp
  rw [e1, e2, less_is, hc]
  rw [hc] at hs
  rcases hs with hs | hs | hs
  · left; rw [hs]; decide
  · right; left
    rw [hs] at hc
    exact ⟨hs, by rw [bytes_zero _ _ hc]; simp⟩
  · right; right
    refine ⟨hs, by rw [hs]; decide, ?_⟩
    rw [beq_eq_false_iff_ne]
    intro e
    rw [e, bytes_self, hs] at hc
    exact absurd hc (by decide)

set_option maxRecDepth 100000 in
set_option maxHeartbeats 1000000 in
theorem kept_walk (xs ys : List It) (A B : Option Addr) (n m : Nat) (w : World) (hA : RawsAt w A xs) (hB : RawsAt w B ys) (hX : Small xs) (hY : Small ys) : Calls Try.prog 14 #[.slice A xs.length n, .slice B ys.length m] w (Ans (.bool true) w) := by
  have HA := Lib.hid hA
  have HB := Lib.hid hB
  have hAw := fun u => Lib.hid (awake_is u)
  have lx : xs.length ≤ 4398046511104 := Nat.le_trans hX.len (by omega)
  have ly : ys.length ≤ 4398046511104 := Nat.le_trans hY.len (by omega)
  have WX := Lib.hid hX.wf
  have WY := Lib.hid hY.wf
  have HK := Lib.hid fun r r' => @kept_cases xs ys hX hY r r'
  clear hA hB hX hY
  cases hex : encL xs with
  | mk r e =>
  cases hey : encL ys with
  | mk r' e' =>
  have HEX := Lib.hid hex
  have HEY := Lib.hid hey
  clear hex hey
  go_enter Try.func14, Try.ntmps14
  go_wp2_with fail
  refine (hAw _).out.mono ?_; rintro e0 w0 ⟨rfl, ho0⟩
  have HO0 := Lib.hid ho0
  clear ho0
  go_wp2_with fail
  refine (items_is xs A n w0 (HA.out.keep HO0.out) lx).mono ?_; rintro e0 w1 ⟨b1, rfl, hb1, h1, ho1⟩
  have HO1 := Lib.hid (HO0.out.trans ho1)
  have H1 := Lib.hid h1.items
  clear ho1 h1 hb1
  go_wp2_with fail
  refine (encode_is w1 _ _ _ xs rfl (by omega) H1.out WX.out).mono ?_; rintro e0 w2 ⟨rfl, ho2⟩
  rw [HEX.out]
  have HO2 := Lib.hid (HO1.out.trans ho2)
  clear ho2 H1
  go_wp2_with fail
  refine (items_is ys B m w2 (HB.out.keep HO2.out) ly).mono ?_; rintro e0 w3 ⟨b3, rfl, hb3, h3, ho3⟩
  have HO3 := Lib.hid (HO2.out.trans ho3)
  have H3 := Lib.hid h3.items
  clear ho3 h3 hb3
  go_wp2_with fail
  refine (encode_is w3 _ _ _ ys rfl (by omega) H3.out WY.out).mono ?_; rintro e0 w4 ⟨rfl, ho4⟩
  rw [HEY.out]
  have HO4 := Lib.hid (HO3.out.trans ho4)
  clear ho4 H3
  by_cases he : e = 0
  rotate_left
  · go_wp2_with fail
    go_ret
    exact ⟨rfl, HO4.out⟩
  by_cases he' : e' = 0
  rotate_left
  · go_wp2_with fail
    go_ret
    exact ⟨rfl, HO4.out⟩
  subst he; subst he'
  have hk := HK.out _ _ HEX.out HEY.out
  generalize hR : cmpAll xs ys = R at hk
  have HR := Lib.hid hR
  clear hR HK
  rcases hk with ⟨rfl, hk⟩ | ⟨rfl, hk⟩ | ⟨rfl, hk, hk'⟩
  all_goals
    go_wp2_with fail
    refine (items_is xs A n w4 (HA.out.keep HO4.out) lx).mono ?_; rintro e0 w5 ⟨b5, rfl, hb5, h5, ho5⟩
    have HO5 := Lib.hid (HO4.out.trans ho5)
    have H5 := Lib.hid h5
    clear ho5 h5 hb5
    go_wp2_with fail
    refine (items_is ys B m w5 (HB.out.keep HO5.out) ly).mono ?_; rintro e0 w6 ⟨b6, rfl, hb6, h6, ho6⟩
    have HO6 := Lib.hid (HO5.out.trans ho6)
    have H6 := Lib.hid h6
    have H5' := Lib.hid (H5.out.keep ho6)
    clear ho6 h6 hb6
    go_wp2_with fail
    refine (compareAll_is xs ys _ _ _ _ w6 H5'.out H6.out lx ly).mono ?_; rintro e0 w7 ⟨rfl, ho7⟩
    rw [HR.out]
    have HO7 := Lib.hid (HO6.out.trans ho7)
    clear ho7
    go_wp2_with fail
    go_ret
    exact ⟨rfl, HO7.out⟩

end Go.Proofs.Ytimoenpfnaaehaa
