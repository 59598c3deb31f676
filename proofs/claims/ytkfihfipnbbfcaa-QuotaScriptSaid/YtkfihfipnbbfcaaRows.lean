/-
  No cell of these rows narrows 'for every input' (looked for: loops, veiled, ifaces, maps, wideKeys, modest, calm, conditions, laid).
  DERIVED. THE GIVEN ROWS OF THIS SEAT. 12 by the template 'for every input the law returns true; each argument reads behind the call as it read before'; 0 by the template 'total and deterministic' (their statements: YtkfihfipnbbfcaaTotals.lean).
  GIVEN WITH THE SEED: the statements are not yours to turn. If you find one false, say at which input.
  Laid BY PROGRAM, IN A SANDBOX (cutbox-rows.mjs): the forced cells as the released guide's own fill.sh prints them over the translation 92dd3dc8eabf7d66… (all of the seat's roots in one cut). By AI agents, Wed Nov 11 2026. No macro, syntax, notation, axiom, sorry.
-/
import Derived.Test.YtkfihfipnbbfcaaChecked
import GoSem.Claim
import GoSem.ClaimJoined
import GoSem.ClaimMapViews
import Derived.JoinedTies
import Derived.KernelRfl
namespace Go.Proofs.Ytkfihfipnbbfcaa
/- THE CELL 'sum', in the pinned program and in every row, IS THE sha256 OF THE DUMP (.gsa) THAT YtkfihfipnbbfcaaProg.lean LOADS. Nothing in Lean hashes anything: it is a label: what it is worth is what the hold of that sum in a sandbox is worth. -/
noncomputable def Try.pinned : Pinned := { name := "ytkfihfipnbbfcaa", sum := "92dd3dc8eabf7d660937efe0ccea3b2ed10c00b39be0c847eec5fd768d1416aa", checked := Try.checked }
namespace Rows
def none {H : Type} : Left H := { results := [], args := [] }

/-- 'cloisterlaw15.QuotaRoom': WHATEVER THE INPUT: true; the input reads as it did. -/
def quotaRoomSpec : ChangeSpec := { name := "quotaRoom", fn := fun _ => fun
  | [d1, d2, d3] => { results := [.lit (.bool true)], args := [d1, d2, d3] }
  | _ => none }
def quotaRoomRow : OpenClaim := { program := "ytkfihfipnbbfcaa", sum := "92dd3dc8eabf7d660937efe0ccea3b2ed10c00b39be0c847eec5fd768d1416aa", func := "cloister/cloisterlaw15.QuotaRoom", spec := "quotaRoom", apart := false }
def QuotaRoomSaid : Prop := quotaRoomRow.holds Try.pinned (OpenSpec.ofChange quotaRoomSpec)

/-- ITS FALSE NEIGHBOUR: 'it returns false'. Refute it at one input. -/
def quotaRoomWrong : ChangeSpec := { name := "quotaRoom", fn := fun _ => fun
  | [d1, d2, d3] => { results := [.lit (.bool false)], args := [d1, d2, d3] }
  | _ => none }
def QuotaRoomWrongFalsely : Prop := quotaRoomRow.holds Try.pinned (OpenSpec.ofChange quotaRoomWrong)

/-- 'cloisterlaw15.QuotaScript': WHATEVER THE INPUT: true; the input reads as it did. -/
def quotaScriptSpec : ChangeSpec := { name := "quotaScript", fn := fun _ => fun
  | [d] => { results := [.lit (.bool true)], args := [d] }
  | _ => none }
def quotaScriptRow : OpenClaim := { program := "ytkfihfipnbbfcaa", sum := "92dd3dc8eabf7d660937efe0ccea3b2ed10c00b39be0c847eec5fd768d1416aa", func := "cloister/cloisterlaw15.QuotaScript", spec := "quotaScript", apart := false }
def QuotaScriptSaid : Prop := quotaScriptRow.holds Try.pinned (OpenSpec.ofChange quotaScriptSpec)

/-- ITS FALSE NEIGHBOUR: 'it returns false'. Refute it at one input. -/
def quotaScriptWrong : ChangeSpec := { name := "quotaScript", fn := fun _ => fun
  | [d] => { results := [.lit (.bool false)], args := [d] }
  | _ => none }
def QuotaScriptWrongFalsely : Prop := quotaScriptRow.holds Try.pinned (OpenSpec.ofChange quotaScriptWrong)

/-- 'cloisterlaw15.QuotaNever': WHATEVER THE INPUT: true; the input reads as it did. -/
def quotaNeverSpec : ChangeSpec := { name := "quotaNever", fn := fun _ => fun
  | [d1, d2] => { results := [.lit (.bool true)], args := [d1, d2] }
  | _ => none }
def quotaNeverRow : OpenClaim := { program := "ytkfihfipnbbfcaa", sum := "92dd3dc8eabf7d660937efe0ccea3b2ed10c00b39be0c847eec5fd768d1416aa", func := "cloister/cloisterlaw15.QuotaNever", spec := "quotaNever", apart := false }
def QuotaNeverSaid : Prop := quotaNeverRow.holds Try.pinned (OpenSpec.ofChange quotaNeverSpec)

/-- ITS FALSE NEIGHBOUR: 'it returns false'. Refute it at one input. -/
def quotaNeverWrong : ChangeSpec := { name := "quotaNever", fn := fun _ => fun
  | [d1, d2] => { results := [.lit (.bool false)], args := [d1, d2] }
  | _ => none }
def QuotaNeverWrongFalsely : Prop := quotaNeverRow.holds Try.pinned (OpenSpec.ofChange quotaNeverWrong)

/-- 'cloisterlaw15.QuotaBack': WHATEVER THE INPUT: true; the input reads as it did. -/
def quotaBackSpec : ChangeSpec := { name := "quotaBack", fn := fun _ => fun
  | [d1, d2, d3] => { results := [.lit (.bool true)], args := [d1, d2, d3] }
  | _ => none }
def quotaBackRow : OpenClaim := { program := "ytkfihfipnbbfcaa", sum := "92dd3dc8eabf7d660937efe0ccea3b2ed10c00b39be0c847eec5fd768d1416aa", func := "cloister/cloisterlaw15.QuotaBack", spec := "quotaBack", apart := false }
def QuotaBackSaid : Prop := quotaBackRow.holds Try.pinned (OpenSpec.ofChange quotaBackSpec)

/-- ITS FALSE NEIGHBOUR: 'it returns false'. Refute it at one input. -/
def quotaBackWrong : ChangeSpec := { name := "quotaBack", fn := fun _ => fun
  | [d1, d2, d3] => { results := [.lit (.bool false)], args := [d1, d2, d3] }
  | _ => none }
def QuotaBackWrongFalsely : Prop := quotaBackRow.holds Try.pinned (OpenSpec.ofChange quotaBackWrong)

/-- 'cloisterlaw13.ChainNames': WHATEVER THE INPUT: true; the input reads as it did. -/
def chainNamesSpec : ChangeSpec := { name := "chainNames", fn := fun _ => fun
  | [] => { results := [.lit (.bool true)], args := [] }
  | _ => none }
def chainNamesRow : OpenClaim := { program := "ytkfihfipnbbfcaa", sum := "92dd3dc8eabf7d660937efe0ccea3b2ed10c00b39be0c847eec5fd768d1416aa", func := "cloister/cloisterlaw13.ChainNames", spec := "chainNames", unfollowed := true, recurses := true, apart := false }
def ChainNamesSaid : Prop := chainNamesRow.holds Try.pinned (OpenSpec.ofChange chainNamesSpec)

/-- ITS FALSE NEIGHBOUR: 'it returns false'. Refute it at one input. -/
def chainNamesWrong : ChangeSpec := { name := "chainNames", fn := fun _ => fun
  | [] => { results := [.lit (.bool false)], args := [] }
  | _ => none }
def ChainNamesWrongFalsely : Prop := chainNamesRow.holds Try.pinned (OpenSpec.ofChange chainNamesWrong)

/-- 'cloisterlaw13.ChainRuns': WHATEVER THE INPUT: true; the input reads as it did. -/
def chainRunsSpec : ChangeSpec := { name := "chainRuns", fn := fun _ => fun
  | [d] => { results := [.lit (.bool true)], args := [d] }
  | _ => none }
def chainRunsRow : OpenClaim := { program := "ytkfihfipnbbfcaa", sum := "92dd3dc8eabf7d660937efe0ccea3b2ed10c00b39be0c847eec5fd768d1416aa", func := "cloister/cloisterlaw13.ChainRuns", spec := "chainRuns", unfollowed := true, recurses := true, apart := false }
def ChainRunsSaid : Prop := chainRunsRow.holds Try.pinned (OpenSpec.ofChange chainRunsSpec)

/-- ITS FALSE NEIGHBOUR: 'it returns false'. Refute it at one input. -/
def chainRunsWrong : ChangeSpec := { name := "chainRuns", fn := fun _ => fun
  | [d] => { results := [.lit (.bool false)], args := [d] }
  | _ => none }
def ChainRunsWrongFalsely : Prop := chainRunsRow.holds Try.pinned (OpenSpec.ofChange chainRunsWrong)

/-- 'cloisterlaw13.ChainBeside': WHATEVER THE INPUT: true; the input reads as it did. -/
def chainBesideSpec : ChangeSpec := { name := "chainBeside", fn := fun _ => fun
  | [d1, d2] => { results := [.lit (.bool true)], args := [d1, d2] }
  | _ => none }
def chainBesideRow : OpenClaim := { program := "ytkfihfipnbbfcaa", sum := "92dd3dc8eabf7d660937efe0ccea3b2ed10c00b39be0c847eec5fd768d1416aa", func := "cloister/cloisterlaw13.ChainBeside", spec := "chainBeside", unfollowed := true, recurses := true, apart := false }
def ChainBesideSaid : Prop := chainBesideRow.holds Try.pinned (OpenSpec.ofChange chainBesideSpec)

/-- ITS FALSE NEIGHBOUR: 'it returns false'. Refute it at one input. -/
def chainBesideWrong : ChangeSpec := { name := "chainBeside", fn := fun _ => fun
  | [d1, d2] => { results := [.lit (.bool false)], args := [d1, d2] }
  | _ => none }
def ChainBesideWrongFalsely : Prop := chainBesideRow.holds Try.pinned (OpenSpec.ofChange chainBesideWrong)

/-- 'cloisterlaw13.ChainNone': WHATEVER THE INPUT: true; the input reads as it did. -/
def chainNoneSpec : ChangeSpec := { name := "chainNone", fn := fun _ => fun
  | [d1, d2] => { results := [.lit (.bool true)], args := [d1, d2] }
  | _ => none }
def chainNoneRow : OpenClaim := { program := "ytkfihfipnbbfcaa", sum := "92dd3dc8eabf7d660937efe0ccea3b2ed10c00b39be0c847eec5fd768d1416aa", func := "cloister/cloisterlaw13.ChainNone", spec := "chainNone", unfollowed := true, recurses := true, apart := false }
def ChainNoneSaid : Prop := chainNoneRow.holds Try.pinned (OpenSpec.ofChange chainNoneSpec)

/-- ITS FALSE NEIGHBOUR: 'it returns false'. Refute it at one input. -/
def chainNoneWrong : ChangeSpec := { name := "chainNone", fn := fun _ => fun
  | [d1, d2] => { results := [.lit (.bool false)], args := [d1, d2] }
  | _ => none }
def ChainNoneWrongFalsely : Prop := chainNoneRow.holds Try.pinned (OpenSpec.ofChange chainNoneWrong)

/-- 'cloisterlaw13.ChainPruned': WHATEVER THE INPUT: true; the input reads as it did. -/
def chainPrunedSpec : ChangeSpec := { name := "chainPruned", fn := fun _ => fun
  | [d1, d2, d3] => { results := [.lit (.bool true)], args := [d1, d2, d3] }
  | _ => none }
def chainPrunedRow : OpenClaim := { program := "ytkfihfipnbbfcaa", sum := "92dd3dc8eabf7d660937efe0ccea3b2ed10c00b39be0c847eec5fd768d1416aa", func := "cloister/cloisterlaw13.ChainPruned", spec := "chainPruned", unfollowed := true, recurses := true, apart := false }
def ChainPrunedSaid : Prop := chainPrunedRow.holds Try.pinned (OpenSpec.ofChange chainPrunedSpec)

/-- ITS FALSE NEIGHBOUR: 'it returns false'. Refute it at one input. -/
def chainPrunedWrong : ChangeSpec := { name := "chainPruned", fn := fun _ => fun
  | [d1, d2, d3] => { results := [.lit (.bool false)], args := [d1, d2, d3] }
  | _ => none }
def ChainPrunedWrongFalsely : Prop := chainPrunedRow.holds Try.pinned (OpenSpec.ofChange chainPrunedWrong)

/-- 'cloisterlaw13.ChainWalks': WHATEVER THE INPUT: true; the input reads as it did. -/
def chainWalksSpec : ChangeSpec := { name := "chainWalks", fn := fun _ => fun
  | [d1, d2] => { results := [.lit (.bool true)], args := [d1, d2] }
  | _ => none }
def chainWalksRow : OpenClaim := { program := "ytkfihfipnbbfcaa", sum := "92dd3dc8eabf7d660937efe0ccea3b2ed10c00b39be0c847eec5fd768d1416aa", func := "cloister/cloisterlaw13.ChainWalks", spec := "chainWalks", unfollowed := true, recurses := true, apart := false }
def ChainWalksSaid : Prop := chainWalksRow.holds Try.pinned (OpenSpec.ofChange chainWalksSpec)

/-- ITS FALSE NEIGHBOUR: 'it returns false'. Refute it at one input. -/
def chainWalksWrong : ChangeSpec := { name := "chainWalks", fn := fun _ => fun
  | [d1, d2] => { results := [.lit (.bool false)], args := [d1, d2] }
  | _ => none }
def ChainWalksWrongFalsely : Prop := chainWalksRow.holds Try.pinned (OpenSpec.ofChange chainWalksWrong)

/-- 'cloisterlaw13.ChainOld': WHATEVER THE INPUT: true; the input reads as it did. -/
def chainOldSpec : ChangeSpec := { name := "chainOld", fn := fun _ => fun
  | [d1, d2, d3] => { results := [.lit (.bool true)], args := [d1, d2, d3] }
  | _ => none }
def chainOldRow : OpenClaim := { program := "ytkfihfipnbbfcaa", sum := "92dd3dc8eabf7d660937efe0ccea3b2ed10c00b39be0c847eec5fd768d1416aa", func := "cloister/cloisterlaw13.ChainOld", spec := "chainOld", unfollowed := true, recurses := true, apart := false }
def ChainOldSaid : Prop := chainOldRow.holds Try.pinned (OpenSpec.ofChange chainOldSpec)

/-- ITS FALSE NEIGHBOUR: 'it returns false'. Refute it at one input. -/
def chainOldWrong : ChangeSpec := { name := "chainOld", fn := fun _ => fun
  | [d1, d2, d3] => { results := [.lit (.bool false)], args := [d1, d2, d3] }
  | _ => none }
def ChainOldWrongFalsely : Prop := chainOldRow.holds Try.pinned (OpenSpec.ofChange chainOldWrong)

/-- 'cloisterlaw13.ChainKinds': WHATEVER THE INPUT: true; the input reads as it did. -/
def chainKindsSpec : ChangeSpec := { name := "chainKinds", fn := fun _ => fun
  | [d1, d2, d3] => { results := [.lit (.bool true)], args := [d1, d2, d3] }
  | _ => none }
def chainKindsRow : OpenClaim := { program := "ytkfihfipnbbfcaa", sum := "92dd3dc8eabf7d660937efe0ccea3b2ed10c00b39be0c847eec5fd768d1416aa", func := "cloister/cloisterlaw13.ChainKinds", spec := "chainKinds", unfollowed := true, recurses := true, apart := false }
def ChainKindsSaid : Prop := chainKindsRow.holds Try.pinned (OpenSpec.ofChange chainKindsSpec)

/-- ITS FALSE NEIGHBOUR: 'it returns false'. Refute it at one input. -/
def chainKindsWrong : ChangeSpec := { name := "chainKinds", fn := fun _ => fun
  | [d1, d2, d3] => { results := [.lit (.bool false)], args := [d1, d2, d3] }
  | _ => none }
def ChainKindsWrongFalsely : Prop := chainKindsRow.holds Try.pinned (OpenSpec.ofChange chainKindsWrong)

/- THE SECOND FORM. 'bulk': how many values and letters a reading holds, each counted each time it is reached (what is shared counts as often as it is met; a slice's spare places count too). A statement '..UptoSaid' is the law's where the arguments, and the package variables that the reading takes, are together of bulk at most 1048576: NARROWER than '..Said'. Prove '..Said' where nothing that the law and all that it calls make is longer than what came in: it says more and counts as full. Else prove '..UptoSaid'. A law counts once. -/
mutual
def uptoBulk {H : Type} : DataW H → Nat
  | .lit (.string bytes) => bytes.length + 1
  | .lit _ => 1
  | .nil => 1
  | .ptr d => uptoBulk d + 1
  | .slice elems spare => uptoBulkAll elems + uptoBulkAll spare + 1
  | .agg parts => uptoBulkAll parts + 1
  | .iface _ d => uptoBulk d + 1
  | .map entries => uptoBulkEntries entries + 1
  | .held _ => 1
def uptoBulkAll {H : Type} : List (DataW H) → Nat
  | [] => 0
  | d :: r => uptoBulk d + uptoBulkAll r
def uptoBulkEntries {H : Type} : List (Lit × DataW H) → Nat
  | [] => 0
  | x :: r => uptoBulkEntry x + uptoBulkEntries r
def uptoBulkEntry {H : Type} : Lit × DataW H → Nat
  | (.string bytes, d) => bytes.length + uptoBulk d + 1
  | (_, d) => uptoBulk d + 1
 end
def uptoSmall : (H : Type) → List (DataW H) → Bool := fun _ ds => decide (uptoBulkAll ds ≤ 1048576)
def OpenSpec.upto (s : _root_.Go.ChangeSpec) : _root_.Go.OpenSpec := { _root_.Go.OpenSpec.ofChange s with cond := some uptoSmall }

/-- 'cloisterlaw15.QuotaRoom', WHERE WHAT IT READS IS OF BULK AT MOST 1048576: true; the input reads as it did. -/
def quotaRoomUptoRow : OpenClaim := { program := "ytkfihfipnbbfcaa", sum := "92dd3dc8eabf7d660937efe0ccea3b2ed10c00b39be0c847eec5fd768d1416aa", func := "cloister/cloisterlaw15.QuotaRoom", spec := "quotaRoom", apart := false, narrowed := true }
def QuotaRoomUptoSaid : Prop := quotaRoomUptoRow.holds Try.pinned (OpenSpec.upto quotaRoomSpec)

/-- 'cloisterlaw15.QuotaScript', WHERE WHAT IT READS IS OF BULK AT MOST 1048576: true; the input reads as it did. -/
def quotaScriptUptoRow : OpenClaim := { program := "ytkfihfipnbbfcaa", sum := "92dd3dc8eabf7d660937efe0ccea3b2ed10c00b39be0c847eec5fd768d1416aa", func := "cloister/cloisterlaw15.QuotaScript", spec := "quotaScript", apart := false, narrowed := true }
def QuotaScriptUptoSaid : Prop := quotaScriptUptoRow.holds Try.pinned (OpenSpec.upto quotaScriptSpec)

/-- 'cloisterlaw15.QuotaNever', WHERE WHAT IT READS IS OF BULK AT MOST 1048576: true; the input reads as it did. -/
def quotaNeverUptoRow : OpenClaim := { program := "ytkfihfipnbbfcaa", sum := "92dd3dc8eabf7d660937efe0ccea3b2ed10c00b39be0c847eec5fd768d1416aa", func := "cloister/cloisterlaw15.QuotaNever", spec := "quotaNever", apart := false, narrowed := true }
def QuotaNeverUptoSaid : Prop := quotaNeverUptoRow.holds Try.pinned (OpenSpec.upto quotaNeverSpec)

/-- 'cloisterlaw15.QuotaBack', WHERE WHAT IT READS IS OF BULK AT MOST 1048576: true; the input reads as it did. -/
def quotaBackUptoRow : OpenClaim := { program := "ytkfihfipnbbfcaa", sum := "92dd3dc8eabf7d660937efe0ccea3b2ed10c00b39be0c847eec5fd768d1416aa", func := "cloister/cloisterlaw15.QuotaBack", spec := "quotaBack", apart := false, narrowed := true }
def QuotaBackUptoSaid : Prop := quotaBackUptoRow.holds Try.pinned (OpenSpec.upto quotaBackSpec)

/-- 'cloisterlaw13.ChainNames', WHERE WHAT IT READS IS OF BULK AT MOST 1048576: true; the input reads as it did. -/
def chainNamesUptoRow : OpenClaim := { program := "ytkfihfipnbbfcaa", sum := "92dd3dc8eabf7d660937efe0ccea3b2ed10c00b39be0c847eec5fd768d1416aa", func := "cloister/cloisterlaw13.ChainNames", spec := "chainNames", unfollowed := true, recurses := true, apart := false, narrowed := true }
def ChainNamesUptoSaid : Prop := chainNamesUptoRow.holds Try.pinned (OpenSpec.upto chainNamesSpec)

/-- 'cloisterlaw13.ChainRuns', WHERE WHAT IT READS IS OF BULK AT MOST 1048576: true; the input reads as it did. -/
def chainRunsUptoRow : OpenClaim := { program := "ytkfihfipnbbfcaa", sum := "92dd3dc8eabf7d660937efe0ccea3b2ed10c00b39be0c847eec5fd768d1416aa", func := "cloister/cloisterlaw13.ChainRuns", spec := "chainRuns", unfollowed := true, recurses := true, apart := false, narrowed := true }
def ChainRunsUptoSaid : Prop := chainRunsUptoRow.holds Try.pinned (OpenSpec.upto chainRunsSpec)

/-- 'cloisterlaw13.ChainBeside', WHERE WHAT IT READS IS OF BULK AT MOST 1048576: true; the input reads as it did. -/
def chainBesideUptoRow : OpenClaim := { program := "ytkfihfipnbbfcaa", sum := "92dd3dc8eabf7d660937efe0ccea3b2ed10c00b39be0c847eec5fd768d1416aa", func := "cloister/cloisterlaw13.ChainBeside", spec := "chainBeside", unfollowed := true, recurses := true, apart := false, narrowed := true }
def ChainBesideUptoSaid : Prop := chainBesideUptoRow.holds Try.pinned (OpenSpec.upto chainBesideSpec)

/-- 'cloisterlaw13.ChainNone', WHERE WHAT IT READS IS OF BULK AT MOST 1048576: true; the input reads as it did. -/
def chainNoneUptoRow : OpenClaim := { program := "ytkfihfipnbbfcaa", sum := "92dd3dc8eabf7d660937efe0ccea3b2ed10c00b39be0c847eec5fd768d1416aa", func := "cloister/cloisterlaw13.ChainNone", spec := "chainNone", unfollowed := true, recurses := true, apart := false, narrowed := true }
def ChainNoneUptoSaid : Prop := chainNoneUptoRow.holds Try.pinned (OpenSpec.upto chainNoneSpec)

/-- 'cloisterlaw13.ChainPruned', WHERE WHAT IT READS IS OF BULK AT MOST 1048576: true; the input reads as it did. -/
def chainPrunedUptoRow : OpenClaim := { program := "ytkfihfipnbbfcaa", sum := "92dd3dc8eabf7d660937efe0ccea3b2ed10c00b39be0c847eec5fd768d1416aa", func := "cloister/cloisterlaw13.ChainPruned", spec := "chainPruned", unfollowed := true, recurses := true, apart := false, narrowed := true }
def ChainPrunedUptoSaid : Prop := chainPrunedUptoRow.holds Try.pinned (OpenSpec.upto chainPrunedSpec)

/-- 'cloisterlaw13.ChainWalks', WHERE WHAT IT READS IS OF BULK AT MOST 1048576: true; the input reads as it did. -/
def chainWalksUptoRow : OpenClaim := { program := "ytkfihfipnbbfcaa", sum := "92dd3dc8eabf7d660937efe0ccea3b2ed10c00b39be0c847eec5fd768d1416aa", func := "cloister/cloisterlaw13.ChainWalks", spec := "chainWalks", unfollowed := true, recurses := true, apart := false, narrowed := true }
def ChainWalksUptoSaid : Prop := chainWalksUptoRow.holds Try.pinned (OpenSpec.upto chainWalksSpec)

/-- 'cloisterlaw13.ChainOld', WHERE WHAT IT READS IS OF BULK AT MOST 1048576: true; the input reads as it did. -/
def chainOldUptoRow : OpenClaim := { program := "ytkfihfipnbbfcaa", sum := "92dd3dc8eabf7d660937efe0ccea3b2ed10c00b39be0c847eec5fd768d1416aa", func := "cloister/cloisterlaw13.ChainOld", spec := "chainOld", unfollowed := true, recurses := true, apart := false, narrowed := true }
def ChainOldUptoSaid : Prop := chainOldUptoRow.holds Try.pinned (OpenSpec.upto chainOldSpec)

/-- 'cloisterlaw13.ChainKinds', WHERE WHAT IT READS IS OF BULK AT MOST 1048576: true; the input reads as it did. -/
def chainKindsUptoRow : OpenClaim := { program := "ytkfihfipnbbfcaa", sum := "92dd3dc8eabf7d660937efe0ccea3b2ed10c00b39be0c847eec5fd768d1416aa", func := "cloister/cloisterlaw13.ChainKinds", spec := "chainKinds", unfollowed := true, recurses := true, apart := false, narrowed := true }
def ChainKindsUptoSaid : Prop := chainKindsUptoRow.holds Try.pinned (OpenSpec.upto chainKindsSpec)

end Rows
end Go.Proofs.Ytkfihfipnbbfcaa
