/-
  Layer 13's laws: what their walks give.
-/
import Derived.Test.YtkfihfipnbbfcaaCAs
import Derived.Test.YtkfihfipnbbfcaaLaw
namespace Go.Proofs.Ytkfihfipnbbfcaa
open Go.ChangeShapes Go.WideShapes Go.ChangeAt Go.RowKit

theorem lawOf {P : Program} {f : FuncId} {args : Array Value} {w : World} (h : Calls P f args w fun e w' => e = .returned (.bool true) ∧ Only NoneOf w w') : Calls P f args w (LawPost w) :=
  h.mono fun _ _ ⟨he, ho⟩ => ⟨he, ho.below (fun _ h => h.elim) (Nat.le_refl _)⟩


end Go.Proofs.Ytkfihfipnbbfcaa
