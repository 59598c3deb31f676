/-
  No cell of these rows narrows 'for every input' (looked for: loops, veiled, ifaces, maps, wideKeys, modest, calm, conditions, laid).
  DERIVED. THE GIVEN ROWS OF THIS SEAT. 12 by the template 'for every input the law returns true; each argument reads behind the call as it read before'; 0 by the template 'total and deterministic' (their statements: YtnonnencdhogiaaTotals.lean).
  GIVEN WITH THE SEED: the statements are not yours to turn. If you find one false, say at which input.
  Laid BY PROGRAM, IN A SANDBOX (cutbox-rows.mjs): the forced cells as the released guide's own fill.sh prints them over the translation 0db3073fb75308ed… (all of the seat's roots in one cut). By AI agents, Wed Nov 11 2026. No macro, syntax, notation, axiom, sorry.
-/
import Derived.Test.YtnonnencdhogiaaChecked
import GoSem.Claim
import GoSem.ClaimJoined
import GoSem.ClaimMapViews
import Derived.JoinedTies
import Derived.KernelRfl
namespace Go.Proofs.Ytnonnencdhogiaa
/- THE CELL 'sum', in the pinned program and in every row, IS THE sha256 OF THE DUMP (.gsa) THAT YtnonnencdhogiaaProg.lean LOADS. Nothing in Lean hashes anything: it is a label: what it is worth is what the hold of that sum in a sandbox is worth. -/
noncomputable def Try.pinned : Pinned := { name := "ytnonnencdhogiaa", sum := "0db3073fb75308ed5eceec61382e20c143a8d713009392a6c3c5a47fd1ab2aa8", checked := Try.checked }
namespace Rows
def none {H : Type} : Left H := { results := [], args := [] }

/-- 'cloisterlaw14.StoreNames': WHATEVER THE INPUT: true; the input reads as it did. -/
def storeNamesSpec : ChangeSpec := { name := "storeNames", fn := fun _ => fun
  | [] => { results := [.lit (.bool true)], args := [] }
  | _ => none }
def storeNamesRow : OpenClaim := { program := "ytnonnencdhogiaa", sum := "0db3073fb75308ed5eceec61382e20c143a8d713009392a6c3c5a47fd1ab2aa8", func := "cloister/cloisterlaw14.StoreNames", spec := "storeNames", apart := false }
def StoreNamesSaid : Prop := storeNamesRow.holds Try.pinned (OpenSpec.ofChange storeNamesSpec)

/-- ITS FALSE NEIGHBOUR: 'it returns false'. Refute it at one input. -/
def storeNamesWrong : ChangeSpec := { name := "storeNames", fn := fun _ => fun
  | [] => { results := [.lit (.bool false)], args := [] }
  | _ => none }
def StoreNamesWrongFalsely : Prop := storeNamesRow.holds Try.pinned (OpenSpec.ofChange storeNamesWrong)

/-- 'cloisterlaw14.StoreNone': WHATEVER THE INPUT: true; the input reads as it did. -/
def storeNoneSpec : ChangeSpec := { name := "storeNone", fn := fun _ => fun
  | [d] => { results := [.lit (.bool true)], args := [d] }
  | _ => none }
def storeNoneRow : OpenClaim := { program := "ytnonnencdhogiaa", sum := "0db3073fb75308ed5eceec61382e20c143a8d713009392a6c3c5a47fd1ab2aa8", func := "cloister/cloisterlaw14.StoreNone", spec := "storeNone", unfollowed := true, recurses := true, apart := false }
def StoreNoneSaid : Prop := storeNoneRow.holds Try.pinned (OpenSpec.ofChange storeNoneSpec)

/-- ITS FALSE NEIGHBOUR: 'it returns false'. Refute it at one input. -/
def storeNoneWrong : ChangeSpec := { name := "storeNone", fn := fun _ => fun
  | [d] => { results := [.lit (.bool false)], args := [d] }
  | _ => none }
def StoreNoneWrongFalsely : Prop := storeNoneRow.holds Try.pinned (OpenSpec.ofChange storeNoneWrong)

/-- 'cloisterlaw14.StoreVacuum': WHATEVER THE INPUT: true; the input reads as it did. -/
def storeVacuumSpec : ChangeSpec := { name := "storeVacuum", fn := fun _ => fun
  | [d1, d2, d3] => { results := [.lit (.bool true)], args := [d1, d2, d3] }
  | _ => none }
def storeVacuumRow : OpenClaim := { program := "ytnonnencdhogiaa", sum := "0db3073fb75308ed5eceec61382e20c143a8d713009392a6c3c5a47fd1ab2aa8", func := "cloister/cloisterlaw14.StoreVacuum", spec := "storeVacuum", unfollowed := true, recurses := true, apart := false }
def StoreVacuumSaid : Prop := storeVacuumRow.holds Try.pinned (OpenSpec.ofChange storeVacuumSpec)

/-- ITS FALSE NEIGHBOUR: 'it returns false'. Refute it at one input. -/
def storeVacuumWrong : ChangeSpec := { name := "storeVacuum", fn := fun _ => fun
  | [d1, d2, d3] => { results := [.lit (.bool false)], args := [d1, d2, d3] }
  | _ => none }
def StoreVacuumWrongFalsely : Prop := storeVacuumRow.holds Try.pinned (OpenSpec.ofChange storeVacuumWrong)

/-- 'cloisterlaw14.StoreEarlier': WHATEVER THE INPUT: true; the input reads as it did. -/
def storeEarlierSpec : ChangeSpec := { name := "storeEarlier", fn := fun _ => fun
  | [d1, d2, d3] => { results := [.lit (.bool true)], args := [d1, d2, d3] }
  | _ => none }
def storeEarlierRow : OpenClaim := { program := "ytnonnencdhogiaa", sum := "0db3073fb75308ed5eceec61382e20c143a8d713009392a6c3c5a47fd1ab2aa8", func := "cloister/cloisterlaw14.StoreEarlier", spec := "storeEarlier", unfollowed := true, recurses := true, apart := false }
def StoreEarlierSaid : Prop := storeEarlierRow.holds Try.pinned (OpenSpec.ofChange storeEarlierSpec)

/-- ITS FALSE NEIGHBOUR: 'it returns false'. Refute it at one input. -/
def storeEarlierWrong : ChangeSpec := { name := "storeEarlier", fn := fun _ => fun
  | [d1, d2, d3] => { results := [.lit (.bool false)], args := [d1, d2, d3] }
  | _ => none }
def StoreEarlierWrongFalsely : Prop := storeEarlierRow.holds Try.pinned (OpenSpec.ofChange storeEarlierWrong)

/-- 'cloisterlaw14.StoreScans': WHATEVER THE INPUT: true; the input reads as it did. -/
def storeScansSpec : ChangeSpec := { name := "storeScans", fn := fun _ => fun
  | [d1, d2, d3] => { results := [.lit (.bool true)], args := [d1, d2, d3] }
  | _ => none }
def storeScansRow : OpenClaim := { program := "ytnonnencdhogiaa", sum := "0db3073fb75308ed5eceec61382e20c143a8d713009392a6c3c5a47fd1ab2aa8", func := "cloister/cloisterlaw14.StoreScans", spec := "storeScans", unfollowed := true, recurses := true, apart := false }
def StoreScansSaid : Prop := storeScansRow.holds Try.pinned (OpenSpec.ofChange storeScansSpec)

/-- ITS FALSE NEIGHBOUR: 'it returns false'. Refute it at one input. -/
def storeScansWrong : ChangeSpec := { name := "storeScans", fn := fun _ => fun
  | [d1, d2, d3] => { results := [.lit (.bool false)], args := [d1, d2, d3] }
  | _ => none }
def StoreScansWrongFalsely : Prop := storeScansRow.holds Try.pinned (OpenSpec.ofChange storeScansWrong)

/-- 'cloisterlaw14.StoreApart': WHATEVER THE INPUT: true; the input reads as it did. -/
def storeApartSpec : ChangeSpec := { name := "storeApart", fn := fun _ => fun
  | [d1, d2] => { results := [.lit (.bool true)], args := [d1, d2] }
  | _ => none }
def storeApartRow : OpenClaim := { program := "ytnonnencdhogiaa", sum := "0db3073fb75308ed5eceec61382e20c143a8d713009392a6c3c5a47fd1ab2aa8", func := "cloister/cloisterlaw14.StoreApart", spec := "storeApart", unfollowed := true, recurses := true, apart := false }
def StoreApartSaid : Prop := storeApartRow.holds Try.pinned (OpenSpec.ofChange storeApartSpec)

/-- ITS FALSE NEIGHBOUR: 'it returns false'. Refute it at one input. -/
def storeApartWrong : ChangeSpec := { name := "storeApart", fn := fun _ => fun
  | [d1, d2] => { results := [.lit (.bool false)], args := [d1, d2] }
  | _ => none }
def StoreApartWrongFalsely : Prop := storeApartRow.holds Try.pinned (OpenSpec.ofChange storeApartWrong)

/-- 'cloisterlaw14.StoreWalk': WHATEVER THE INPUT: true; the input reads as it did. -/
def storeWalkSpec : ChangeSpec := { name := "storeWalk", fn := fun _ => fun
  | [d1, d2, d3, d4, d5] => { results := [.lit (.bool true)], args := [d1, d2, d3, d4, d5] }
  | _ => none }
def storeWalkRow : OpenClaim := { program := "ytnonnencdhogiaa", sum := "0db3073fb75308ed5eceec61382e20c143a8d713009392a6c3c5a47fd1ab2aa8", func := "cloister/cloisterlaw14.StoreWalk", spec := "storeWalk", unfollowed := true, recurses := true, apart := false }
def StoreWalkSaid : Prop := storeWalkRow.holds Try.pinned (OpenSpec.ofChange storeWalkSpec)

/-- ITS FALSE NEIGHBOUR: 'it returns false'. Refute it at one input. -/
def storeWalkWrong : ChangeSpec := { name := "storeWalk", fn := fun _ => fun
  | [d1, d2, d3, d4, d5] => { results := [.lit (.bool false)], args := [d1, d2, d3, d4, d5] }
  | _ => none }
def StoreWalkWrongFalsely : Prop := storeWalkRow.holds Try.pinned (OpenSpec.ofChange storeWalkWrong)

/-- 'cloisterlaw14.StoreDoes': WHATEVER THE INPUT: true; the input reads as it did. -/
def storeDoesSpec : ChangeSpec := { name := "storeDoes", fn := fun _ => fun
  | [d] => { results := [.lit (.bool true)], args := [d] }
  | _ => none }
def storeDoesRow : OpenClaim := { program := "ytnonnencdhogiaa", sum := "0db3073fb75308ed5eceec61382e20c143a8d713009392a6c3c5a47fd1ab2aa8", func := "cloister/cloisterlaw14.StoreDoes", spec := "storeDoes", unfollowed := true, recurses := true, apart := false }
def StoreDoesSaid : Prop := storeDoesRow.holds Try.pinned (OpenSpec.ofChange storeDoesSpec)

/-- ITS FALSE NEIGHBOUR: 'it returns false'. Refute it at one input. -/
def storeDoesWrong : ChangeSpec := { name := "storeDoes", fn := fun _ => fun
  | [d] => { results := [.lit (.bool false)], args := [d] }
  | _ => none }
def StoreDoesWrongFalsely : Prop := storeDoesRow.holds Try.pinned (OpenSpec.ofChange storeDoesWrong)

/-- 'cloisterlaw14.StoreTwo': WHATEVER THE INPUT: true; the input reads as it did. -/
def storeTwoSpec : ChangeSpec := { name := "storeTwo", fn := fun _ => fun
  | [d] => { results := [.lit (.bool true)], args := [d] }
  | _ => none }
def storeTwoRow : OpenClaim := { program := "ytnonnencdhogiaa", sum := "0db3073fb75308ed5eceec61382e20c143a8d713009392a6c3c5a47fd1ab2aa8", func := "cloister/cloisterlaw14.StoreTwo", spec := "storeTwo", unfollowed := true, recurses := true, apart := false }
def StoreTwoSaid : Prop := storeTwoRow.holds Try.pinned (OpenSpec.ofChange storeTwoSpec)

/-- ITS FALSE NEIGHBOUR: 'it returns false'. Refute it at one input. -/
def storeTwoWrong : ChangeSpec := { name := "storeTwo", fn := fun _ => fun
  | [d] => { results := [.lit (.bool false)], args := [d] }
  | _ => none }
def StoreTwoWrongFalsely : Prop := storeTwoRow.holds Try.pinned (OpenSpec.ofChange storeTwoWrong)

/-- 'cloisterlaw14.StoreBack': WHATEVER THE INPUT: true; the input reads as it did. -/
def storeBackSpec : ChangeSpec := { name := "storeBack", fn := fun _ => fun
  | [d1, d2] => { results := [.lit (.bool true)], args := [d1, d2] }
  | _ => none }
def storeBackRow : OpenClaim := { program := "ytnonnencdhogiaa", sum := "0db3073fb75308ed5eceec61382e20c143a8d713009392a6c3c5a47fd1ab2aa8", func := "cloister/cloisterlaw14.StoreBack", spec := "storeBack", unfollowed := true, recurses := true, apart := false }
def StoreBackSaid : Prop := storeBackRow.holds Try.pinned (OpenSpec.ofChange storeBackSpec)

/-- ITS FALSE NEIGHBOUR: 'it returns false'. Refute it at one input. -/
def storeBackWrong : ChangeSpec := { name := "storeBack", fn := fun _ => fun
  | [d1, d2] => { results := [.lit (.bool false)], args := [d1, d2] }
  | _ => none }
def StoreBackWrongFalsely : Prop := storeBackRow.holds Try.pinned (OpenSpec.ofChange storeBackWrong)

/-- 'cloisterlaw14.StoreFresh': WHATEVER THE INPUT: true; the input reads as it did. -/
def storeFreshSpec : ChangeSpec := { name := "storeFresh", fn := fun _ => fun
  | [d1, d2] => { results := [.lit (.bool true)], args := [d1, d2] }
  | _ => none }
def storeFreshRow : OpenClaim := { program := "ytnonnencdhogiaa", sum := "0db3073fb75308ed5eceec61382e20c143a8d713009392a6c3c5a47fd1ab2aa8", func := "cloister/cloisterlaw14.StoreFresh", spec := "storeFresh", unfollowed := true, recurses := true, apart := false }
def StoreFreshSaid : Prop := storeFreshRow.holds Try.pinned (OpenSpec.ofChange storeFreshSpec)

/-- ITS FALSE NEIGHBOUR: 'it returns false'. Refute it at one input. -/
def storeFreshWrong : ChangeSpec := { name := "storeFresh", fn := fun _ => fun
  | [d1, d2] => { results := [.lit (.bool false)], args := [d1, d2] }
  | _ => none }
def StoreFreshWrongFalsely : Prop := storeFreshRow.holds Try.pinned (OpenSpec.ofChange storeFreshWrong)

/-- 'cloisterlaw14.StoreLoads': WHATEVER THE INPUT: true; the input reads as it did. -/
def storeLoadsSpec : ChangeSpec := { name := "storeLoads", fn := fun _ => fun
  | [d1, d2] => { results := [.lit (.bool true)], args := [d1, d2] }
  | _ => none }
def storeLoadsRow : OpenClaim := { program := "ytnonnencdhogiaa", sum := "0db3073fb75308ed5eceec61382e20c143a8d713009392a6c3c5a47fd1ab2aa8", func := "cloister/cloisterlaw14.StoreLoads", spec := "storeLoads", unfollowed := true, recurses := true, apart := false }
def StoreLoadsSaid : Prop := storeLoadsRow.holds Try.pinned (OpenSpec.ofChange storeLoadsSpec)

/-- ITS FALSE NEIGHBOUR: 'it returns false'. Refute it at one input. -/
def storeLoadsWrong : ChangeSpec := { name := "storeLoads", fn := fun _ => fun
  | [d1, d2] => { results := [.lit (.bool false)], args := [d1, d2] }
  | _ => none }
def StoreLoadsWrongFalsely : Prop := storeLoadsRow.holds Try.pinned (OpenSpec.ofChange storeLoadsWrong)

/- THE SECOND FORM. 'bulk': how many values and letters a reading holds, each counted each time it is reached (what is shared counts as often as it is met; a slice's spare places count too). A statement '..UptoSaid' is the law's where the arguments, and the package variables that the reading takes, are together of bulk at most 1048576: NARROWER than '..Said'. Prove '..Said' where nothing that the law and all that it calls make is longer than what came in: it says more and counts as full. Else prove '..UptoSaid'. A law counts once. -/
mutual
def uptoBulk {H : Type} : DataW H → Nat
  | .lit (.string bytes) => bytes.length + 1
  | .lit _ => 1
  | .nil => 1
  | .ptr d => uptoBulk d + 1
  | .slice elems spare => uptoBulkAll elems + uptoBulkAll spare + 1
  | .agg parts => uptoBulkAll parts + 1
  | .iface _ d => uptoBulk d + 1
  | .map entries => uptoBulkEntries entries + 1
  | .held _ => 1
def uptoBulkAll {H : Type} : List (DataW H) → Nat
  | [] => 0
  | d :: r => uptoBulk d + uptoBulkAll r
def uptoBulkEntries {H : Type} : List (Lit × DataW H) → Nat
  | [] => 0
  | x :: r => uptoBulkEntry x + uptoBulkEntries r
def uptoBulkEntry {H : Type} : Lit × DataW H → Nat
  | (.string bytes, d) => bytes.length + uptoBulk d + 1
  | (_, d) => uptoBulk d + 1
 end
def uptoSmall : (H : Type) → List (DataW H) → Bool := fun _ ds => decide (uptoBulkAll ds ≤ 1048576)
def OpenSpec.upto (s : _root_.Go.ChangeSpec) : _root_.Go.OpenSpec := { _root_.Go.OpenSpec.ofChange s with cond := some uptoSmall }

/-- 'cloisterlaw14.StoreNames', WHERE WHAT IT READS IS OF BULK AT MOST 1048576: true; the input reads as it did. -/
def storeNamesUptoRow : OpenClaim := { program := "ytnonnencdhogiaa", sum := "0db3073fb75308ed5eceec61382e20c143a8d713009392a6c3c5a47fd1ab2aa8", func := "cloister/cloisterlaw14.StoreNames", spec := "storeNames", apart := false, narrowed := true }
def StoreNamesUptoSaid : Prop := storeNamesUptoRow.holds Try.pinned (OpenSpec.upto storeNamesSpec)

/-- 'cloisterlaw14.StoreNone', WHERE WHAT IT READS IS OF BULK AT MOST 1048576: true; the input reads as it did. -/
def storeNoneUptoRow : OpenClaim := { program := "ytnonnencdhogiaa", sum := "0db3073fb75308ed5eceec61382e20c143a8d713009392a6c3c5a47fd1ab2aa8", func := "cloister/cloisterlaw14.StoreNone", spec := "storeNone", unfollowed := true, recurses := true, apart := false, narrowed := true }
def StoreNoneUptoSaid : Prop := storeNoneUptoRow.holds Try.pinned (OpenSpec.upto storeNoneSpec)

/-- 'cloisterlaw14.StoreVacuum', WHERE WHAT IT READS IS OF BULK AT MOST 1048576: true; the input reads as it did. -/
def storeVacuumUptoRow : OpenClaim := { program := "ytnonnencdhogiaa", sum := "0db3073fb75308ed5eceec61382e20c143a8d713009392a6c3c5a47fd1ab2aa8", func := "cloister/cloisterlaw14.StoreVacuum", spec := "storeVacuum", unfollowed := true, recurses := true, apart := false, narrowed := true }
def StoreVacuumUptoSaid : Prop := storeVacuumUptoRow.holds Try.pinned (OpenSpec.upto storeVacuumSpec)

/-- 'cloisterlaw14.StoreEarlier', WHERE WHAT IT READS IS OF BULK AT MOST 1048576: true; the input reads as it did. -/
def storeEarlierUptoRow : OpenClaim := { program := "ytnonnencdhogiaa", sum := "0db3073fb75308ed5eceec61382e20c143a8d713009392a6c3c5a47fd1ab2aa8", func := "cloister/cloisterlaw14.StoreEarlier", spec := "storeEarlier", unfollowed := true, recurses := true, apart := false, narrowed := true }
def StoreEarlierUptoSaid : Prop := storeEarlierUptoRow.holds Try.pinned (OpenSpec.upto storeEarlierSpec)

/-- 'cloisterlaw14.StoreScans', WHERE WHAT IT READS IS OF BULK AT MOST 1048576: true; the input reads as it did. -/
def storeScansUptoRow : OpenClaim := { program := "ytnonnencdhogiaa", sum := "0db3073fb75308ed5eceec61382e20c143a8d713009392a6c3c5a47fd1ab2aa8", func := "cloister/cloisterlaw14.StoreScans", spec := "storeScans", unfollowed := true, recurses := true, apart := false, narrowed := true }
def StoreScansUptoSaid : Prop := storeScansUptoRow.holds Try.pinned (OpenSpec.upto storeScansSpec)

/-- 'cloisterlaw14.StoreApart', WHERE WHAT IT READS IS OF BULK AT MOST 1048576: true; the input reads as it did. -/
def storeApartUptoRow : OpenClaim := { program := "ytnonnencdhogiaa", sum := "0db3073fb75308ed5eceec61382e20c143a8d713009392a6c3c5a47fd1ab2aa8", func := "cloister/cloisterlaw14.StoreApart", spec := "storeApart", unfollowed := true, recurses := true, apart := false, narrowed := true }
def StoreApartUptoSaid : Prop := storeApartUptoRow.holds Try.pinned (OpenSpec.upto storeApartSpec)

/-- 'cloisterlaw14.StoreWalk', WHERE WHAT IT READS IS OF BULK AT MOST 1048576: true; the input reads as it did. -/
def storeWalkUptoRow : OpenClaim := { program := "ytnonnencdhogiaa", sum := "0db3073fb75308ed5eceec61382e20c143a8d713009392a6c3c5a47fd1ab2aa8", func := "cloister/cloisterlaw14.StoreWalk", spec := "storeWalk", unfollowed := true, recurses := true, apart := false, narrowed := true }
def StoreWalkUptoSaid : Prop := storeWalkUptoRow.holds Try.pinned (OpenSpec.upto storeWalkSpec)

/-- 'cloisterlaw14.StoreDoes', WHERE WHAT IT READS IS OF BULK AT MOST 1048576: true; the input reads as it did. -/
def storeDoesUptoRow : OpenClaim := { program := "ytnonnencdhogiaa", sum := "0db3073fb75308ed5eceec61382e20c143a8d713009392a6c3c5a47fd1ab2aa8", func := "cloister/cloisterlaw14.StoreDoes", spec := "storeDoes", unfollowed := true, recurses := true, apart := false, narrowed := true }
def StoreDoesUptoSaid : Prop := storeDoesUptoRow.holds Try.pinned (OpenSpec.upto storeDoesSpec)

/-- 'cloisterlaw14.StoreTwo', WHERE WHAT IT READS IS OF BULK AT MOST 1048576: true; the input reads as it did. -/
def storeTwoUptoRow : OpenClaim := { program := "ytnonnencdhogiaa", sum := "0db3073fb75308ed5eceec61382e20c143a8d713009392a6c3c5a47fd1ab2aa8", func := "cloister/cloisterlaw14.StoreTwo", spec := "storeTwo", unfollowed := true, recurses := true, apart := false, narrowed := true }
def StoreTwoUptoSaid : Prop := storeTwoUptoRow.holds Try.pinned (OpenSpec.upto storeTwoSpec)

/-- 'cloisterlaw14.StoreBack', WHERE WHAT IT READS IS OF BULK AT MOST 1048576: true; the input reads as it did. -/
def storeBackUptoRow : OpenClaim := { program := "ytnonnencdhogiaa", sum := "0db3073fb75308ed5eceec61382e20c143a8d713009392a6c3c5a47fd1ab2aa8", func := "cloister/cloisterlaw14.StoreBack", spec := "storeBack", unfollowed := true, recurses := true, apart := false, narrowed := true }
def StoreBackUptoSaid : Prop := storeBackUptoRow.holds Try.pinned (OpenSpec.upto storeBackSpec)

/-- 'cloisterlaw14.StoreFresh', WHERE WHAT IT READS IS OF BULK AT MOST 1048576: true; the input reads as it did. -/
def storeFreshUptoRow : OpenClaim := { program := "ytnonnencdhogiaa", sum := "0db3073fb75308ed5eceec61382e20c143a8d713009392a6c3c5a47fd1ab2aa8", func := "cloister/cloisterlaw14.StoreFresh", spec := "storeFresh", unfollowed := true, recurses := true, apart := false, narrowed := true }
def StoreFreshUptoSaid : Prop := storeFreshUptoRow.holds Try.pinned (OpenSpec.upto storeFreshSpec)

/-- 'cloisterlaw14.StoreLoads', WHERE WHAT IT READS IS OF BULK AT MOST 1048576: true; the input reads as it did. -/
def storeLoadsUptoRow : OpenClaim := { program := "ytnonnencdhogiaa", sum := "0db3073fb75308ed5eceec61382e20c143a8d713009392a6c3c5a47fd1ab2aa8", func := "cloister/cloisterlaw14.StoreLoads", spec := "storeLoads", unfollowed := true, recurses := true, apart := false, narrowed := true }
def StoreLoadsUptoSaid : Prop := storeLoadsUptoRow.holds Try.pinned (OpenSpec.upto storeLoadsSpec)

end Rows
end Go.Proofs.Ytnonnencdhogiaa
