/-
  No cell of these rows narrows 'for every input' (looked for: loops, veiled, ifaces, maps, wideKeys, modest, calm, conditions, laid).
  DERIVED. THE GIVEN ROWS OF THIS SEAT. 6 by the template 'for every input the law returns true; each argument reads behind the call as it read before'; 0 by the template 'total and deterministic' (their statements: YtbhihbhjmmeibaaGreatTotals.lean).
  GIVEN WITH THE SEED: the statements are not yours to turn. If you find one false, say at which input.
  Laid BY PROGRAM, IN A SANDBOX (cutbox-rows.mjs): the forced cells as the released guide's own fill.sh prints them over the translation c6217cca767920b1… (all of the seat's roots in one cut). By AI agents, Wed Nov 11 2026. No macro, syntax, notation, axiom, sorry.
-/
import Derived.Test.YtbhihbhjmmeibaaGreatChecked
import GoSem.Claim
import GoSem.ClaimJoined
import GoSem.ClaimMapViews
import Derived.JoinedTies
import Derived.KernelRfl
namespace Go.Proofs.YtbhihbhjmmeibaaGreat
/- THE CELL 'sum', in the pinned program and in every row, IS THE sha256 OF THE DUMP (.gsa) THAT YtbhihbhjmmeibaaGreatProg.lean LOADS. Nothing in Lean hashes anything: it is a label: what it is worth is what the hold of that sum in a sandbox is worth. -/
noncomputable def Tryz.pinned : Pinned := { name := "ytbhihbhjmmeibaagreat", sum := "c6217cca767920b17b5f3f98553f6439317387217fabe7bede76f19f14993a47", checked := Tryz.checked }
namespace Rows
def none {H : Type} : Left H := { results := [], args := [] }

/-- 'cloisterlaw17.TxnNew': WHATEVER THE INPUT: true; the input reads as it did. -/
def txnNewSpec : ChangeSpec := { name := "txnNew", fn := fun _ => fun
  | [d1, d2] => { results := [.lit (.bool true)], args := [d1, d2] }
  | _ => none }
def txnNewRow : OpenClaim := { program := "ytbhihbhjmmeibaagreat", sum := "c6217cca767920b17b5f3f98553f6439317387217fabe7bede76f19f14993a47", func := "cloister/cloisterlaw17.TxnNew", spec := "txnNew", unfollowed := true, recurses := true, apart := false }
def TxnNewSaid : Prop := txnNewRow.holds Tryz.pinned (OpenSpec.ofChange txnNewSpec)

/-- ITS FALSE NEIGHBOUR: 'it returns false'. Refute it at one input. -/
def txnNewWrong : ChangeSpec := { name := "txnNew", fn := fun _ => fun
  | [d1, d2] => { results := [.lit (.bool false)], args := [d1, d2] }
  | _ => none }
def TxnNewWrongFalsely : Prop := txnNewRow.holds Tryz.pinned (OpenSpec.ofChange txnNewWrong)

/-- 'cloisterlaw17.TxnUp': WHATEVER THE INPUT: true; the input reads as it did. -/
def txnUpSpec : ChangeSpec := { name := "txnUp", fn := fun _ => fun
  | [d1, d2, d3] => { results := [.lit (.bool true)], args := [d1, d2, d3] }
  | _ => none }
def txnUpRow : OpenClaim := { program := "ytbhihbhjmmeibaagreat", sum := "c6217cca767920b17b5f3f98553f6439317387217fabe7bede76f19f14993a47", func := "cloister/cloisterlaw17.TxnUp", spec := "txnUp", unfollowed := true, recurses := true, apart := false }
def TxnUpSaid : Prop := txnUpRow.holds Tryz.pinned (OpenSpec.ofChange txnUpSpec)

/-- ITS FALSE NEIGHBOUR: 'it returns false'. Refute it at one input. -/
def txnUpWrong : ChangeSpec := { name := "txnUp", fn := fun _ => fun
  | [d1, d2, d3] => { results := [.lit (.bool false)], args := [d1, d2, d3] }
  | _ => none }
def TxnUpWrongFalsely : Prop := txnUpRow.holds Tryz.pinned (OpenSpec.ofChange txnUpWrong)

/-- 'cloisterlaw17.TxnDoes': WHATEVER THE INPUT: true; the input reads as it did. -/
def txnDoesSpec : ChangeSpec := { name := "txnDoes", fn := fun _ => fun
  | [d1, d2, d3, d4] => { results := [.lit (.bool true)], args := [d1, d2, d3, d4] }
  | _ => none }
def txnDoesRow : OpenClaim := { program := "ytbhihbhjmmeibaagreat", sum := "c6217cca767920b17b5f3f98553f6439317387217fabe7bede76f19f14993a47", func := "cloister/cloisterlaw17.TxnDoes", spec := "txnDoes", unfollowed := true, recurses := true, apart := false }
def TxnDoesSaid : Prop := txnDoesRow.holds Tryz.pinned (OpenSpec.ofChange txnDoesSpec)

/-- ITS FALSE NEIGHBOUR: 'it returns false'. Refute it at one input. -/
def txnDoesWrong : ChangeSpec := { name := "txnDoes", fn := fun _ => fun
  | [d1, d2, d3, d4] => { results := [.lit (.bool false)], args := [d1, d2, d3, d4] }
  | _ => none }
def TxnDoesWrongFalsely : Prop := txnDoesRow.holds Tryz.pinned (OpenSpec.ofChange txnDoesWrong)

/-- 'cloisterlaw17.TxnTwo': WHATEVER THE INPUT: true; the input reads as it did. -/
def txnTwoSpec : ChangeSpec := { name := "txnTwo", fn := fun _ => fun
  | [d1, d2, d3, d4] => { results := [.lit (.bool true)], args := [d1, d2, d3, d4] }
  | _ => none }
def txnTwoRow : OpenClaim := { program := "ytbhihbhjmmeibaagreat", sum := "c6217cca767920b17b5f3f98553f6439317387217fabe7bede76f19f14993a47", func := "cloister/cloisterlaw17.TxnTwo", spec := "txnTwo", unfollowed := true, recurses := true, apart := false }
def TxnTwoSaid : Prop := txnTwoRow.holds Tryz.pinned (OpenSpec.ofChange txnTwoSpec)

/-- ITS FALSE NEIGHBOUR: 'it returns false'. Refute it at one input. -/
def txnTwoWrong : ChangeSpec := { name := "txnTwo", fn := fun _ => fun
  | [d1, d2, d3, d4] => { results := [.lit (.bool false)], args := [d1, d2, d3, d4] }
  | _ => none }
def TxnTwoWrongFalsely : Prop := txnTwoRow.holds Tryz.pinned (OpenSpec.ofChange txnTwoWrong)

/-- 'cloisterlaw17.TxnNone': WHATEVER THE INPUT: true; the input reads as it did. -/
def txnNoneSpec : ChangeSpec := { name := "txnNone", fn := fun _ => fun
  | [d] => { results := [.lit (.bool true)], args := [d] }
  | _ => none }
def txnNoneRow : OpenClaim := { program := "ytbhihbhjmmeibaagreat", sum := "c6217cca767920b17b5f3f98553f6439317387217fabe7bede76f19f14993a47", func := "cloister/cloisterlaw17.TxnNone", spec := "txnNone", unfollowed := true, recurses := true, apart := false }
def TxnNoneSaid : Prop := txnNoneRow.holds Tryz.pinned (OpenSpec.ofChange txnNoneSpec)

/-- ITS FALSE NEIGHBOUR: 'it returns false'. Refute it at one input. -/
def txnNoneWrong : ChangeSpec := { name := "txnNone", fn := fun _ => fun
  | [d] => { results := [.lit (.bool false)], args := [d] }
  | _ => none }
def TxnNoneWrongFalsely : Prop := txnNoneRow.holds Tryz.pinned (OpenSpec.ofChange txnNoneWrong)

/-- 'cloisterlaw17.TxnRepeats': WHATEVER THE INPUT: true; the input reads as it did. -/
def txnRepeatsSpec : ChangeSpec := { name := "txnRepeats", fn := fun _ => fun
  | [d1, d2, d3, d4] => { results := [.lit (.bool true)], args := [d1, d2, d3, d4] }
  | _ => none }
def txnRepeatsRow : OpenClaim := { program := "ytbhihbhjmmeibaagreat", sum := "c6217cca767920b17b5f3f98553f6439317387217fabe7bede76f19f14993a47", func := "cloister/cloisterlaw17.TxnRepeats", spec := "txnRepeats", unfollowed := true, recurses := true, apart := false }
def TxnRepeatsSaid : Prop := txnRepeatsRow.holds Tryz.pinned (OpenSpec.ofChange txnRepeatsSpec)

/-- ITS FALSE NEIGHBOUR: 'it returns false'. Refute it at one input. -/
def txnRepeatsWrong : ChangeSpec := { name := "txnRepeats", fn := fun _ => fun
  | [d1, d2, d3, d4] => { results := [.lit (.bool false)], args := [d1, d2, d3, d4] }
  | _ => none }
def TxnRepeatsWrongFalsely : Prop := txnRepeatsRow.holds Tryz.pinned (OpenSpec.ofChange txnRepeatsWrong)

/- THE SECOND FORM. 'bulk': how many values and letters a reading holds, each counted each time it is reached (what is shared counts as often as it is met; a slice's spare places count too). A statement '..UptoSaid' is the law's where the arguments, and the package variables that the reading takes, are together of bulk at most 1048576: NARROWER than '..Said'. Prove '..Said' where nothing that the law and all that it calls make is longer than what came in: it says more and counts as full. Else prove '..UptoSaid'. A law counts once. -/
mutual
def uptoBulk {H : Type} : DataW H → Nat
  | .lit (.string bytes) => bytes.length + 1
  | .lit _ => 1
  | .nil => 1
  | .ptr d => uptoBulk d + 1
  | .slice elems spare => uptoBulkAll elems + uptoBulkAll spare + 1
  | .agg parts => uptoBulkAll parts + 1
  | .iface _ d => uptoBulk d + 1
  | .map entries => uptoBulkEntries entries + 1
  | .held _ => 1
def uptoBulkAll {H : Type} : List (DataW H) → Nat
  | [] => 0
  | d :: r => uptoBulk d + uptoBulkAll r
def uptoBulkEntries {H : Type} : List (Lit × DataW H) → Nat
  | [] => 0
  | x :: r => uptoBulkEntry x + uptoBulkEntries r
def uptoBulkEntry {H : Type} : Lit × DataW H → Nat
  | (.string bytes, d) => bytes.length + uptoBulk d + 1
  | (_, d) => uptoBulk d + 1
 end
def uptoSmall : (H : Type) → List (DataW H) → Bool := fun _ ds => decide (uptoBulkAll ds ≤ 1048576)
def OpenSpec.upto (s : _root_.Go.ChangeSpec) : _root_.Go.OpenSpec := { _root_.Go.OpenSpec.ofChange s with cond := some uptoSmall }

/-- 'cloisterlaw17.TxnNew', WHERE WHAT IT READS IS OF BULK AT MOST 1048576: true; the input reads as it did. -/
def txnNewUptoRow : OpenClaim := { program := "ytbhihbhjmmeibaagreat", sum := "c6217cca767920b17b5f3f98553f6439317387217fabe7bede76f19f14993a47", func := "cloister/cloisterlaw17.TxnNew", spec := "txnNew", unfollowed := true, recurses := true, apart := false, narrowed := true }
def TxnNewUptoSaid : Prop := txnNewUptoRow.holds Tryz.pinned (OpenSpec.upto txnNewSpec)

/-- 'cloisterlaw17.TxnUp', WHERE WHAT IT READS IS OF BULK AT MOST 1048576: true; the input reads as it did. -/
def txnUpUptoRow : OpenClaim := { program := "ytbhihbhjmmeibaagreat", sum := "c6217cca767920b17b5f3f98553f6439317387217fabe7bede76f19f14993a47", func := "cloister/cloisterlaw17.TxnUp", spec := "txnUp", unfollowed := true, recurses := true, apart := false, narrowed := true }
def TxnUpUptoSaid : Prop := txnUpUptoRow.holds Tryz.pinned (OpenSpec.upto txnUpSpec)

/-- 'cloisterlaw17.TxnDoes', WHERE WHAT IT READS IS OF BULK AT MOST 1048576: true; the input reads as it did. -/
def txnDoesUptoRow : OpenClaim := { program := "ytbhihbhjmmeibaagreat", sum := "c6217cca767920b17b5f3f98553f6439317387217fabe7bede76f19f14993a47", func := "cloister/cloisterlaw17.TxnDoes", spec := "txnDoes", unfollowed := true, recurses := true, apart := false, narrowed := true }
def TxnDoesUptoSaid : Prop := txnDoesUptoRow.holds Tryz.pinned (OpenSpec.upto txnDoesSpec)

/-- 'cloisterlaw17.TxnTwo', WHERE WHAT IT READS IS OF BULK AT MOST 1048576: true; the input reads as it did. -/
def txnTwoUptoRow : OpenClaim := { program := "ytbhihbhjmmeibaagreat", sum := "c6217cca767920b17b5f3f98553f6439317387217fabe7bede76f19f14993a47", func := "cloister/cloisterlaw17.TxnTwo", spec := "txnTwo", unfollowed := true, recurses := true, apart := false, narrowed := true }
def TxnTwoUptoSaid : Prop := txnTwoUptoRow.holds Tryz.pinned (OpenSpec.upto txnTwoSpec)

/-- 'cloisterlaw17.TxnNone', WHERE WHAT IT READS IS OF BULK AT MOST 1048576: true; the input reads as it did. -/
def txnNoneUptoRow : OpenClaim := { program := "ytbhihbhjmmeibaagreat", sum := "c6217cca767920b17b5f3f98553f6439317387217fabe7bede76f19f14993a47", func := "cloister/cloisterlaw17.TxnNone", spec := "txnNone", unfollowed := true, recurses := true, apart := false, narrowed := true }
def TxnNoneUptoSaid : Prop := txnNoneUptoRow.holds Tryz.pinned (OpenSpec.upto txnNoneSpec)

/-- 'cloisterlaw17.TxnRepeats', WHERE WHAT IT READS IS OF BULK AT MOST 1048576: true; the input reads as it did. -/
def txnRepeatsUptoRow : OpenClaim := { program := "ytbhihbhjmmeibaagreat", sum := "c6217cca767920b17b5f3f98553f6439317387217fabe7bede76f19f14993a47", func := "cloister/cloisterlaw17.TxnRepeats", spec := "txnRepeats", unfollowed := true, recurses := true, apart := false, narrowed := true }
def TxnRepeatsUptoSaid : Prop := txnRepeatsUptoRow.holds Tryz.pinned (OpenSpec.upto txnRepeatsSpec)

end Rows
end Go.Proofs.YtbhihbhjmmeibaaGreat
