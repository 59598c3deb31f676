/-
  Layer 4's law OrderEncodes, walked.
-/
import Derived.Test.YtimoenpfnaaehaaOM2
namespace Go.Proofs.Ytimoenpfnaaehaa
open Go.RowKit

theorem rencode_is (w : World) (A : Option Addr) (n cap : Nat) (xs : List It) (hn : xs.length = n) (hm : n ≤ 9223372036854775807) (hA : RowsAt w A 7 (xs.map fun x => x.r.toList)) (hwf : ∀ x ∈ xs, x.Wf) : Calls Try.prog 29 #[.slice A n cap] w (EncPost (encL xs) w) := by
  unfold encL
  by_cases h : 64 < n
  · rw [if_pos (by omega)]
    exact rencode_large w A n cap h hm
  · rw [if_neg (by omega)]
    exact rencode_fits w A n cap xs hn (by omega) hA hwf

set_option maxRecDepth 100000 in
set_option maxHeartbeats 1000000 in
theorem encodes_walk (xs : List It) (A : Option Addr) (n : Nat) (w : World) (hA : RawsAt w A xs) (hX : Small xs) : Calls Try.prog 6 #[.slice A xs.length n] w (Ans (.bool true) w) := by
  have HA := Lib.hid hA
  have hAw := fun u => Lib.hid (awake_is u)
  have lx : xs.length ≤ 4398046511104 := Nat.le_trans hX.len (by omega)
  have WX := Lib.hid hX.wf
  clear hA hX
  obtain ⟨R, HR⟩ : ∃ R, Hid (encL xs = R) := ⟨_, Lib.hid rfl⟩
  go_enter Try.func6, Try.ntmps6
  go_wp2_with fail
  refine (items_is xs A n w HA.out lx).mono ?_; rintro e0 w1 ⟨b1, rfl, hb1, h1, ho1⟩
  have HO1 := Lib.hid ho1
  have H1 := Lib.hid h1.items
  clear ho1 h1 hb1
  go_wp2_with fail
  refine (encode_is w1 _ _ _ xs rfl (by omega) H1.out WX.out).mono ?_; rintro e0 w2 ⟨rfl, ho2⟩
  rw [HR.out]
  have HO2 := Lib.hid (HO1.out.trans ho2)
  clear ho2 H1
  go_wp2_with fail
  refine (docs_is xs A n w2 (HA.out.keep HO2.out) lx).mono ?_; rintro e0 w3 ⟨b3, rfl, hb3, h3, ho3⟩
  have HO3 := Lib.hid (HO2.out.trans ho3)
  have H3 := Lib.hid h3
  clear ho3 h3 hb3
  go_wp2_with fail
  refine (rencode_is w3 _ _ _ xs rfl (by omega) H3.out WX.out).mono ?_; rintro e0 w4 ⟨rfl, ho4⟩
  rw [HR.out]
  have HO4 := Lib.hid (HO3.out.trans ho4)
  clear ho4 H3
  go_wp2_with fail
  refine (hAw _).out.mono ?_; rintro e0 w5 ⟨rfl, ho5⟩
  have HO5 := Lib.hid (HO4.out.trans ho5)
  clear ho5
  go_wp2_with fail
  go_ret
  exact ⟨by simp, HO5.out⟩

end Go.Proofs.Ytimoenpfnaaehaa
