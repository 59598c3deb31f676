/-
  cloisterlaw04.OrderNames, walked.
-/
import Derived.Test.YtimoenpfnaaehaaOG
import Derived.Test.YtimoenpfnaaehaaLaw
namespace Go.Proofs.Ytimoenpfnaaehaa
open Go.RowKit

theorem lawPost {f : FuncId} {args : Array Value} {w : World} (h : Calls Try.prog f args w (Ans (.bool true) w)) : Calls Try.prog f args w (LawPost w) :=
  h.mono fun _ _ ⟨he, ho⟩ => ⟨he, ho.below (fun _ h => h.elim) (Nat.le_refl _)⟩

theorem names_walk (w : World) : Calls Try.prog 3 #[] w (Ans (.bool true) w) := by
  have hA := fun u => Lib.hid (awake_is u)
  go_enter Try.func3, Try.ntmps3
  go_wp2_with fail
  refine (hA _).out.mono ?_; rintro e w1 ⟨rfl, ho1⟩
  go_wp2_with fail
  go_ret
  exact ⟨rfl, ho1⟩

end Go.Proofs.Ytimoenpfnaaehaa
