/-
  No cell of these rows narrows 'for every input' (looked for: loops, veiled, ifaces, maps, wideKeys, modest, calm, conditions, laid).
  DERIVED. THE GIVEN ROWS OF THIS SEAT. 4 by the template 'for every input the law returns true; each argument reads behind the call as it read before'; 0 by the template 'total and deterministic' (their statements: YtbhihbhjmmeibaaTotals.lean).
  GIVEN WITH THE SEED: the statements are not yours to turn. If you find one false, say at which input.
  Laid BY PROGRAM, IN A SANDBOX (cutbox-rows.mjs): the forced cells as the released guide's own fill.sh prints them over the translation dc986dc8096a84ac… (all of the seat's roots in one cut). By AI agents, Wed Nov 11 2026. No macro, syntax, notation, axiom, sorry.
-/
import Derived.Test.YtbhihbhjmmeibaaChecked
import GoSem.Claim
import GoSem.ClaimJoined
import GoSem.ClaimMapViews
import Derived.JoinedTies
import Derived.KernelRfl
namespace Go.Proofs.Ytbhihbhjmmeibaa
/- THE CELL 'sum', in the pinned program and in every row, IS THE sha256 OF THE DUMP (.gsa) THAT YtbhihbhjmmeibaaProg.lean LOADS. Nothing in Lean hashes anything: it is a label: what it is worth is what the hold of that sum in a sandbox is worth. -/
noncomputable def Try.pinned : Pinned := { name := "ytbhihbhjmmeibaa", sum := "dc986dc8096a84aca86e412b22d4c032d729565e9abb7a523e7024ef6ddc7d03", checked := Try.checked }
namespace Rows
def none {H : Type} : Left H := { results := [], args := [] }

/-- 'cloisterlaw17.TxnNames': WHATEVER THE INPUT: true; the input reads as it did. -/
def txnNamesSpec : ChangeSpec := { name := "txnNames", fn := fun _ => fun
  | [] => { results := [.lit (.bool true)], args := [] }
  | _ => none }
def txnNamesRow : OpenClaim := { program := "ytbhihbhjmmeibaa", sum := "dc986dc8096a84aca86e412b22d4c032d729565e9abb7a523e7024ef6ddc7d03", func := "cloister/cloisterlaw17.TxnNames", spec := "txnNames", apart := false }
def TxnNamesSaid : Prop := txnNamesRow.holds Try.pinned (OpenSpec.ofChange txnNamesSpec)

/-- ITS FALSE NEIGHBOUR: 'it returns false'. Refute it at one input. -/
def txnNamesWrong : ChangeSpec := { name := "txnNames", fn := fun _ => fun
  | [] => { results := [.lit (.bool false)], args := [] }
  | _ => none }
def TxnNamesWrongFalsely : Prop := txnNamesRow.holds Try.pinned (OpenSpec.ofChange txnNamesWrong)

/-- 'cloisterlaw17.TxnOwn': WHATEVER THE INPUT: true; the input reads as it did. -/
def txnOwnSpec : ChangeSpec := { name := "txnOwn", fn := fun _ => fun
  | [d1, d2, d3, d4] => { results := [.lit (.bool true)], args := [d1, d2, d3, d4] }
  | _ => none }
def txnOwnRow : OpenClaim := { program := "ytbhihbhjmmeibaa", sum := "dc986dc8096a84aca86e412b22d4c032d729565e9abb7a523e7024ef6ddc7d03", func := "cloister/cloisterlaw17.TxnOwn", spec := "txnOwn", unfollowed := true, recurses := true, apart := false }
def TxnOwnSaid : Prop := txnOwnRow.holds Try.pinned (OpenSpec.ofChange txnOwnSpec)

/-- ITS FALSE NEIGHBOUR: 'it returns false'. Refute it at one input. -/
def txnOwnWrong : ChangeSpec := { name := "txnOwn", fn := fun _ => fun
  | [d1, d2, d3, d4] => { results := [.lit (.bool false)], args := [d1, d2, d3, d4] }
  | _ => none }
def TxnOwnWrongFalsely : Prop := txnOwnRow.holds Try.pinned (OpenSpec.ofChange txnOwnWrong)

/-- 'cloisterlaw17.TxnCharge': WHATEVER THE INPUT: true; the input reads as it did. -/
def txnChargeSpec : ChangeSpec := { name := "txnCharge", fn := fun _ => fun
  | [d1, d2] => { results := [.lit (.bool true)], args := [d1, d2] }
  | _ => none }
def txnChargeRow : OpenClaim := { program := "ytbhihbhjmmeibaa", sum := "dc986dc8096a84aca86e412b22d4c032d729565e9abb7a523e7024ef6ddc7d03", func := "cloister/cloisterlaw17.TxnCharge", spec := "txnCharge", unfollowed := true, recurses := true, apart := false }
def TxnChargeSaid : Prop := txnChargeRow.holds Try.pinned (OpenSpec.ofChange txnChargeSpec)

/-- ITS FALSE NEIGHBOUR: 'it returns false'. Refute it at one input. -/
def txnChargeWrong : ChangeSpec := { name := "txnCharge", fn := fun _ => fun
  | [d1, d2] => { results := [.lit (.bool false)], args := [d1, d2] }
  | _ => none }
def TxnChargeWrongFalsely : Prop := txnChargeRow.holds Try.pinned (OpenSpec.ofChange txnChargeWrong)

/-- 'cloisterlaw17.TxnFresh': WHATEVER THE INPUT: true; the input reads as it did. -/
def txnFreshSpec : ChangeSpec := { name := "txnFresh", fn := fun _ => fun
  | [d1, d2] => { results := [.lit (.bool true)], args := [d1, d2] }
  | _ => none }
def txnFreshRow : OpenClaim := { program := "ytbhihbhjmmeibaa", sum := "dc986dc8096a84aca86e412b22d4c032d729565e9abb7a523e7024ef6ddc7d03", func := "cloister/cloisterlaw17.TxnFresh", spec := "txnFresh", unfollowed := true, recurses := true, apart := false }
def TxnFreshSaid : Prop := txnFreshRow.holds Try.pinned (OpenSpec.ofChange txnFreshSpec)

/-- ITS FALSE NEIGHBOUR: 'it returns false'. Refute it at one input. -/
def txnFreshWrong : ChangeSpec := { name := "txnFresh", fn := fun _ => fun
  | [d1, d2] => { results := [.lit (.bool false)], args := [d1, d2] }
  | _ => none }
def TxnFreshWrongFalsely : Prop := txnFreshRow.holds Try.pinned (OpenSpec.ofChange txnFreshWrong)

/- THE SECOND FORM. 'bulk': how many values and letters a reading holds, each counted each time it is reached (what is shared counts as often as it is met; a slice's spare places count too). A statement '..UptoSaid' is the law's where the arguments, and the package variables that the reading takes, are together of bulk at most 1048576: NARROWER than '..Said'. Prove '..Said' where nothing that the law and all that it calls make is longer than what came in: it says more and counts as full. Else prove '..UptoSaid'. A law counts once. -/
mutual
def uptoBulk {H : Type} : DataW H → Nat
  | .lit (.string bytes) => bytes.length + 1
  | .lit _ => 1
  | .nil => 1
  | .ptr d => uptoBulk d + 1
  | .slice elems spare => uptoBulkAll elems + uptoBulkAll spare + 1
  | .agg parts => uptoBulkAll parts + 1
  | .iface _ d => uptoBulk d + 1
  | .map entries => uptoBulkEntries entries + 1
  | .held _ => 1
def uptoBulkAll {H : Type} : List (DataW H) → Nat
  | [] => 0
  | d :: r => uptoBulk d + uptoBulkAll r
def uptoBulkEntries {H : Type} : List (Lit × DataW H) → Nat
  | [] => 0
  | x :: r => uptoBulkEntry x + uptoBulkEntries r
def uptoBulkEntry {H : Type} : Lit × DataW H → Nat
  | (.string bytes, d) => bytes.length + uptoBulk d + 1
  | (_, d) => uptoBulk d + 1
 end
def uptoSmall : (H : Type) → List (DataW H) → Bool := fun _ ds => decide (uptoBulkAll ds ≤ 1048576)
def OpenSpec.upto (s : _root_.Go.ChangeSpec) : _root_.Go.OpenSpec := { _root_.Go.OpenSpec.ofChange s with cond := some uptoSmall }

/-- 'cloisterlaw17.TxnNames', WHERE WHAT IT READS IS OF BULK AT MOST 1048576: true; the input reads as it did. -/
def txnNamesUptoRow : OpenClaim := { program := "ytbhihbhjmmeibaa", sum := "dc986dc8096a84aca86e412b22d4c032d729565e9abb7a523e7024ef6ddc7d03", func := "cloister/cloisterlaw17.TxnNames", spec := "txnNames", apart := false, narrowed := true }
def TxnNamesUptoSaid : Prop := txnNamesUptoRow.holds Try.pinned (OpenSpec.upto txnNamesSpec)

/-- 'cloisterlaw17.TxnOwn', WHERE WHAT IT READS IS OF BULK AT MOST 1048576: true; the input reads as it did. -/
def txnOwnUptoRow : OpenClaim := { program := "ytbhihbhjmmeibaa", sum := "dc986dc8096a84aca86e412b22d4c032d729565e9abb7a523e7024ef6ddc7d03", func := "cloister/cloisterlaw17.TxnOwn", spec := "txnOwn", unfollowed := true, recurses := true, apart := false, narrowed := true }
def TxnOwnUptoSaid : Prop := txnOwnUptoRow.holds Try.pinned (OpenSpec.upto txnOwnSpec)

/-- 'cloisterlaw17.TxnCharge', WHERE WHAT IT READS IS OF BULK AT MOST 1048576: true; the input reads as it did. -/
def txnChargeUptoRow : OpenClaim := { program := "ytbhihbhjmmeibaa", sum := "dc986dc8096a84aca86e412b22d4c032d729565e9abb7a523e7024ef6ddc7d03", func := "cloister/cloisterlaw17.TxnCharge", spec := "txnCharge", unfollowed := true, recurses := true, apart := false, narrowed := true }
def TxnChargeUptoSaid : Prop := txnChargeUptoRow.holds Try.pinned (OpenSpec.upto txnChargeSpec)

/-- 'cloisterlaw17.TxnFresh', WHERE WHAT IT READS IS OF BULK AT MOST 1048576: true; the input reads as it did. -/
def txnFreshUptoRow : OpenClaim := { program := "ytbhihbhjmmeibaa", sum := "dc986dc8096a84aca86e412b22d4c032d729565e9abb7a523e7024ef6ddc7d03", func := "cloister/cloisterlaw17.TxnFresh", spec := "txnFresh", unfollowed := true, recurses := true, apart := false, narrowed := true }
def TxnFreshUptoSaid : Prop := txnFreshUptoRow.holds Try.pinned (OpenSpec.upto txnFreshSpec)

end Rows
end Go.Proofs.Ytbhihbhjmmeibaa
