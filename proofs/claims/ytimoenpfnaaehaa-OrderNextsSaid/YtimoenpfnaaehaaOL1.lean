/-
  Layer 4's laws on Next, walked.
-/
import Derived.Test.YtimoenpfnaaehaaONames
namespace Go.Proofs.Ytimoenpfnaaehaa
open Go.RowKit

set_option maxHeartbeats 400000 in
theorem nexts_walk (s : ByteArray) (w : World) (hs : s.size ≤ 9223372036854775807) : Calls Try.prog 8 #[.string s] w (Ans (.bool true) w) := by
  have hA := fun u => Lib.hid (awake_is u)
  have hN := fun u => Lib.hid (next_is s u hs)
  have hR := fun u => Lib.hid (rnext_is s u hs)
  generalize nextS s = r at *
  obtain ⟨t, b⟩ := r
  obtain ⟨g1, g2⟩ := str_same t
  go_enter Try.func8, Try.ntmps8
  go_wp2_with fail
  refine (hN _).out.mono ?_; rintro e w1 ⟨rfl, ho1⟩
  go_wp2_with fail
  refine (hR _).out.mono ?_; rintro e w2 ⟨rfl, ho2⟩
  have HO := Lib.hid (ho1.trans ho2)
  clear ho1 ho2
  cases b
  all_goals
    go_wp2_with fail
    refine (hA _).out.mono ?_; rintro e w3 ⟨rfl, ho3⟩
    go_wp2_with fail
    go_ret
    exact ⟨rfl, HO.out.trans ho3⟩

end Go.Proofs.Ytimoenpfnaaehaa
