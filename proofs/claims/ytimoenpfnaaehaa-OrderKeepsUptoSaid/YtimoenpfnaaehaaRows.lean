/-
  No cell of these rows narrows 'for every input' (looked for: loops, veiled, ifaces, maps, wideKeys, modest, calm, conditions, laid).
  DERIVED. THE GIVEN ROWS OF THIS SEAT. 13 by the template 'for every input the law returns true; each argument reads behind the call as it read before'; 0 by the template 'total and deterministic' (their statements: YtimoenpfnaaehaaTotals.lean).
  GIVEN WITH THE SEED: the statements are not yours to turn. If you find one false, say at which input.
  Laid BY PROGRAM, IN A SANDBOX (cutbox-rows.mjs): the forced cells as the released guide's own fill.sh prints them over the translation abe873909b6a14c2… (all of the seat's roots in one cut). By AI agents, Wed Nov 11 2026. No macro, syntax, notation, axiom, sorry.
-/
import Derived.Test.YtimoenpfnaaehaaChecked
import GoSem.Claim
import GoSem.ClaimJoined
import GoSem.ClaimMapViews
import Derived.JoinedTies
import Derived.KernelRfl
namespace Go.Proofs.Ytimoenpfnaaehaa
/- THE CELL 'sum', in the pinned program and in every row, IS THE sha256 OF THE DUMP (.gsa) THAT YtimoenpfnaaehaaProg.lean LOADS. Nothing in Lean hashes anything: it is a label: what it is worth is what the hold of that sum in a sandbox is worth. -/
noncomputable def Try.pinned : Pinned := { name := "ytimoenpfnaaehaa", sum := "abe873909b6a14c220ddc64902cb843fc1e119fb7158aecbe412704b9b2cad0c", checked := Try.checked }
namespace Rows
def none {H : Type} : Left H := { results := [], args := [] }

/-- 'cloisterlaw04.OrderNames': WHATEVER THE INPUT: true; the input reads as it did. -/
def orderNamesSpec : ChangeSpec := { name := "orderNames", fn := fun _ => fun
  | [] => { results := [.lit (.bool true)], args := [] }
  | _ => none }
def orderNamesRow : OpenClaim := { program := "ytimoenpfnaaehaa", sum := "abe873909b6a14c220ddc64902cb843fc1e119fb7158aecbe412704b9b2cad0c", func := "cloister/cloisterlaw04.OrderNames", spec := "orderNames", inPlace := ["math.Float64frombits", "math.Float64bits", "internal/bytealg.abigen_runtime_cmpstring"], apart := false }
def OrderNamesSaid : Prop := orderNamesRow.holds Try.pinned (OpenSpec.ofChange orderNamesSpec)

/-- ITS FALSE NEIGHBOUR: 'it returns false'. Refute it at one input. -/
def orderNamesWrong : ChangeSpec := { name := "orderNames", fn := fun _ => fun
  | [] => { results := [.lit (.bool false)], args := [] }
  | _ => none }
def OrderNamesWrongFalsely : Prop := orderNamesRow.holds Try.pinned (OpenSpec.ofChange orderNamesWrong)

/-- 'cloisterlaw04.OrderItems': WHATEVER THE INPUT: true; the input reads as it did. -/
def orderItemsSpec : ChangeSpec := { name := "orderItems", fn := fun _ => fun
  | [d] => { results := [.lit (.bool true)], args := [d] }
  | _ => none }
def orderItemsRow : OpenClaim := { program := "ytimoenpfnaaehaa", sum := "abe873909b6a14c220ddc64902cb843fc1e119fb7158aecbe412704b9b2cad0c", func := "cloister/cloisterlaw04.OrderItems", spec := "orderItems", inPlace := ["math.Float64frombits", "math.Float64bits", "internal/bytealg.abigen_runtime_cmpstring"], apart := false }
def OrderItemsSaid : Prop := orderItemsRow.holds Try.pinned (OpenSpec.ofChange orderItemsSpec)

/-- ITS FALSE NEIGHBOUR: 'it returns false'. Refute it at one input. -/
def orderItemsWrong : ChangeSpec := { name := "orderItems", fn := fun _ => fun
  | [d] => { results := [.lit (.bool false)], args := [d] }
  | _ => none }
def OrderItemsWrongFalsely : Prop := orderItemsRow.holds Try.pinned (OpenSpec.ofChange orderItemsWrong)

/-- 'cloisterlaw04.OrderCompares': WHATEVER THE INPUT: true; the input reads as it did. -/
def orderComparesSpec : ChangeSpec := { name := "orderCompares", fn := fun _ => fun
  | [d1, d2] => { results := [.lit (.bool true)], args := [d1, d2] }
  | _ => none }
def orderComparesRow : OpenClaim := { program := "ytimoenpfnaaehaa", sum := "abe873909b6a14c220ddc64902cb843fc1e119fb7158aecbe412704b9b2cad0c", func := "cloister/cloisterlaw04.OrderCompares", spec := "orderCompares", inPlace := ["math.Float64frombits", "internal/bytealg.abigen_runtime_cmpstring", "math.Float64bits"], apart := false }
def OrderComparesSaid : Prop := orderComparesRow.holds Try.pinned (OpenSpec.ofChange orderComparesSpec)

/-- ITS FALSE NEIGHBOUR: 'it returns false'. Refute it at one input. -/
def orderComparesWrong : ChangeSpec := { name := "orderCompares", fn := fun _ => fun
  | [d1, d2] => { results := [.lit (.bool false)], args := [d1, d2] }
  | _ => none }
def OrderComparesWrongFalsely : Prop := orderComparesRow.holds Try.pinned (OpenSpec.ofChange orderComparesWrong)

/-- 'cloisterlaw04.OrderEncodes': WHATEVER THE INPUT: true; the input reads as it did. -/
def orderEncodesSpec : ChangeSpec := { name := "orderEncodes", fn := fun _ => fun
  | [d] => { results := [.lit (.bool true)], args := [d] }
  | _ => none }
def orderEncodesRow : OpenClaim := { program := "ytimoenpfnaaehaa", sum := "abe873909b6a14c220ddc64902cb843fc1e119fb7158aecbe412704b9b2cad0c", func := "cloister/cloisterlaw04.OrderEncodes", spec := "orderEncodes", inPlace := ["math.Float64frombits", "math.Float64bits", "internal/bytealg.abigen_runtime_cmpstring"], apart := false }
def OrderEncodesSaid : Prop := orderEncodesRow.holds Try.pinned (OpenSpec.ofChange orderEncodesSpec)

/-- ITS FALSE NEIGHBOUR: 'it returns false'. Refute it at one input. -/
def orderEncodesWrong : ChangeSpec := { name := "orderEncodes", fn := fun _ => fun
  | [d] => { results := [.lit (.bool false)], args := [d] }
  | _ => none }
def OrderEncodesWrongFalsely : Prop := orderEncodesRow.holds Try.pinned (OpenSpec.ofChange orderEncodesWrong)

/-- 'cloisterlaw04.OrderDecodes': WHATEVER THE INPUT: true; the input reads as it did. -/
def orderDecodesSpec : ChangeSpec := { name := "orderDecodes", fn := fun _ => fun
  | [d] => { results := [.lit (.bool true)], args := [d] }
  | _ => none }
def orderDecodesRow : OpenClaim := { program := "ytimoenpfnaaehaa", sum := "abe873909b6a14c220ddc64902cb843fc1e119fb7158aecbe412704b9b2cad0c", func := "cloister/cloisterlaw04.OrderDecodes", spec := "orderDecodes", inPlace := ["math.Float64frombits", "math.Float64bits", "internal/bytealg.abigen_runtime_cmpstring"], apart := false }
def OrderDecodesSaid : Prop := orderDecodesRow.holds Try.pinned (OpenSpec.ofChange orderDecodesSpec)

/-- ITS FALSE NEIGHBOUR: 'it returns false'. Refute it at one input. -/
def orderDecodesWrong : ChangeSpec := { name := "orderDecodes", fn := fun _ => fun
  | [d] => { results := [.lit (.bool false)], args := [d] }
  | _ => none }
def OrderDecodesWrongFalsely : Prop := orderDecodesRow.holds Try.pinned (OpenSpec.ofChange orderDecodesWrong)

/-- 'cloisterlaw04.OrderNexts': WHATEVER THE INPUT: true; the input reads as it did. -/
def orderNextsSpec : ChangeSpec := { name := "orderNexts", fn := fun _ => fun
  | [d] => { results := [.lit (.bool true)], args := [d] }
  | _ => none }
def orderNextsRow : OpenClaim := { program := "ytimoenpfnaaehaa", sum := "abe873909b6a14c220ddc64902cb843fc1e119fb7158aecbe412704b9b2cad0c", func := "cloister/cloisterlaw04.OrderNexts", spec := "orderNexts", inPlace := ["math.Float64frombits", "math.Float64bits", "internal/bytealg.abigen_runtime_cmpstring"], apart := false }
def OrderNextsSaid : Prop := orderNextsRow.holds Try.pinned (OpenSpec.ofChange orderNextsSpec)

/-- ITS FALSE NEIGHBOUR: 'it returns false'. Refute it at one input. -/
def orderNextsWrong : ChangeSpec := { name := "orderNexts", fn := fun _ => fun
  | [d] => { results := [.lit (.bool false)], args := [d] }
  | _ => none }
def OrderNextsWrongFalsely : Prop := orderNextsRow.holds Try.pinned (OpenSpec.ofChange orderNextsWrong)

/-- 'cloisterlaw04.OrderBack': WHATEVER THE INPUT: true; the input reads as it did. -/
def orderBackSpec : ChangeSpec := { name := "orderBack", fn := fun _ => fun
  | [d1, d2] => { results := [.lit (.bool true)], args := [d1, d2] }
  | _ => none }
def orderBackRow : OpenClaim := { program := "ytimoenpfnaaehaa", sum := "abe873909b6a14c220ddc64902cb843fc1e119fb7158aecbe412704b9b2cad0c", func := "cloister/cloisterlaw04.OrderBack", spec := "orderBack", inPlace := ["math.Float64frombits", "math.Float64bits", "internal/bytealg.abigen_runtime_cmpstring"], apart := false }
def OrderBackSaid : Prop := orderBackRow.holds Try.pinned (OpenSpec.ofChange orderBackSpec)

/-- ITS FALSE NEIGHBOUR: 'it returns false'. Refute it at one input. -/
def orderBackWrong : ChangeSpec := { name := "orderBack", fn := fun _ => fun
  | [d1, d2] => { results := [.lit (.bool false)], args := [d1, d2] }
  | _ => none }
def OrderBackWrongFalsely : Prop := orderBackRow.holds Try.pinned (OpenSpec.ofChange orderBackWrong)

/-- 'cloisterlaw04.OrderBeginnings': WHATEVER THE INPUT: true; the input reads as it did. -/
def orderBeginningsSpec : ChangeSpec := { name := "orderBeginnings", fn := fun _ => fun
  | [d1, d2] => { results := [.lit (.bool true)], args := [d1, d2] }
  | _ => none }
def orderBeginningsRow : OpenClaim := { program := "ytimoenpfnaaehaa", sum := "abe873909b6a14c220ddc64902cb843fc1e119fb7158aecbe412704b9b2cad0c", func := "cloister/cloisterlaw04.OrderBeginnings", spec := "orderBeginnings", inPlace := ["math.Float64frombits", "math.Float64bits", "internal/bytealg.abigen_runtime_cmpstring"], apart := false }
def OrderBeginningsSaid : Prop := orderBeginningsRow.holds Try.pinned (OpenSpec.ofChange orderBeginningsSpec)

/-- ITS FALSE NEIGHBOUR: 'it returns false'. Refute it at one input. -/
def orderBeginningsWrong : ChangeSpec := { name := "orderBeginnings", fn := fun _ => fun
  | [d1, d2] => { results := [.lit (.bool false)], args := [d1, d2] }
  | _ => none }
def OrderBeginningsWrongFalsely : Prop := orderBeginningsRow.holds Try.pinned (OpenSpec.ofChange orderBeginningsWrong)

/-- 'cloisterlaw04.OrderNextLeast': WHATEVER THE INPUT: true; the input reads as it did. -/
def orderNextLeastSpec : ChangeSpec := { name := "orderNextLeast", fn := fun _ => fun
  | [d1, d2] => { results := [.lit (.bool true)], args := [d1, d2] }
  | _ => none }
def orderNextLeastRow : OpenClaim := { program := "ytimoenpfnaaehaa", sum := "abe873909b6a14c220ddc64902cb843fc1e119fb7158aecbe412704b9b2cad0c", func := "cloister/cloisterlaw04.OrderNextLeast", spec := "orderNextLeast", inPlace := ["math.Float64frombits", "math.Float64bits", "internal/bytealg.abigen_runtime_cmpstring"], apart := false }
def OrderNextLeastSaid : Prop := orderNextLeastRow.holds Try.pinned (OpenSpec.ofChange orderNextLeastSpec)

/-- ITS FALSE NEIGHBOUR: 'it returns false'. Refute it at one input. -/
def orderNextLeastWrong : ChangeSpec := { name := "orderNextLeast", fn := fun _ => fun
  | [d1, d2] => { results := [.lit (.bool false)], args := [d1, d2] }
  | _ => none }
def OrderNextLeastWrongFalsely : Prop := orderNextLeastRow.holds Try.pinned (OpenSpec.ofChange orderNextLeastWrong)

/-- 'cloisterlaw04.OrderTotal': WHATEVER THE INPUT: true; the input reads as it did. -/
def orderTotalSpec : ChangeSpec := { name := "orderTotal", fn := fun _ => fun
  | [d1, d2, d3] => { results := [.lit (.bool true)], args := [d1, d2, d3] }
  | _ => none }
def orderTotalRow : OpenClaim := { program := "ytimoenpfnaaehaa", sum := "abe873909b6a14c220ddc64902cb843fc1e119fb7158aecbe412704b9b2cad0c", func := "cloister/cloisterlaw04.OrderTotal", spec := "orderTotal", inPlace := ["math.Float64frombits", "math.Float64bits", "internal/bytealg.abigen_runtime_cmpstring"], apart := false }
def OrderTotalSaid : Prop := orderTotalRow.holds Try.pinned (OpenSpec.ofChange orderTotalSpec)

/-- ITS FALSE NEIGHBOUR: 'it returns false'. Refute it at one input. -/
def orderTotalWrong : ChangeSpec := { name := "orderTotal", fn := fun _ => fun
  | [d1, d2, d3] => { results := [.lit (.bool false)], args := [d1, d2, d3] }
  | _ => none }
def OrderTotalWrongFalsely : Prop := orderTotalRow.holds Try.pinned (OpenSpec.ofChange orderTotalWrong)

/-- 'cloisterlaw04.OrderComparesAll': WHATEVER THE INPUT: true; the input reads as it did. -/
def orderComparesAllSpec : ChangeSpec := { name := "orderComparesAll", fn := fun _ => fun
  | [d1, d2] => { results := [.lit (.bool true)], args := [d1, d2] }
  | _ => none }
def orderComparesAllRow : OpenClaim := { program := "ytimoenpfnaaehaa", sum := "abe873909b6a14c220ddc64902cb843fc1e119fb7158aecbe412704b9b2cad0c", func := "cloister/cloisterlaw04.OrderComparesAll", spec := "orderComparesAll", inPlace := ["math.Float64frombits", "internal/bytealg.abigen_runtime_cmpstring", "math.Float64bits"], apart := false }
def OrderComparesAllSaid : Prop := orderComparesAllRow.holds Try.pinned (OpenSpec.ofChange orderComparesAllSpec)

/-- ITS FALSE NEIGHBOUR: 'it returns false'. Refute it at one input. -/
def orderComparesAllWrong : ChangeSpec := { name := "orderComparesAll", fn := fun _ => fun
  | [d1, d2] => { results := [.lit (.bool false)], args := [d1, d2] }
  | _ => none }
def OrderComparesAllWrongFalsely : Prop := orderComparesAllRow.holds Try.pinned (OpenSpec.ofChange orderComparesAllWrong)

/-- 'cloisterlaw04.OrderKept': WHATEVER THE INPUT: true; the input reads as it did. -/
def orderKeptSpec : ChangeSpec := { name := "orderKept", fn := fun _ => fun
  | [d1, d2] => { results := [.lit (.bool true)], args := [d1, d2] }
  | _ => none }
def orderKeptRow : OpenClaim := { program := "ytimoenpfnaaehaa", sum := "abe873909b6a14c220ddc64902cb843fc1e119fb7158aecbe412704b9b2cad0c", func := "cloister/cloisterlaw04.OrderKept", spec := "orderKept", inPlace := ["math.Float64frombits", "math.Float64bits", "internal/bytealg.abigen_runtime_cmpstring"], apart := false }
def OrderKeptSaid : Prop := orderKeptRow.holds Try.pinned (OpenSpec.ofChange orderKeptSpec)

/-- ITS FALSE NEIGHBOUR: 'it returns false'. Refute it at one input. -/
def orderKeptWrong : ChangeSpec := { name := "orderKept", fn := fun _ => fun
  | [d1, d2] => { results := [.lit (.bool false)], args := [d1, d2] }
  | _ => none }
def OrderKeptWrongFalsely : Prop := orderKeptRow.holds Try.pinned (OpenSpec.ofChange orderKeptWrong)

/-- 'cloisterlaw04.OrderKeeps': WHATEVER THE INPUT: true; the input reads as it did. -/
def orderKeepsSpec : ChangeSpec := { name := "orderKeeps", fn := fun _ => fun
  | [d1, d2, d3] => { results := [.lit (.bool true)], args := [d1, d2, d3] }
  | _ => none }
def orderKeepsRow : OpenClaim := { program := "ytimoenpfnaaehaa", sum := "abe873909b6a14c220ddc64902cb843fc1e119fb7158aecbe412704b9b2cad0c", func := "cloister/cloisterlaw04.OrderKeeps", spec := "orderKeeps", inPlace := ["math.Float64frombits", "math.Float64bits", "internal/bytealg.abigen_runtime_cmpstring"], apart := false }
def OrderKeepsSaid : Prop := orderKeepsRow.holds Try.pinned (OpenSpec.ofChange orderKeepsSpec)

/-- ITS FALSE NEIGHBOUR: 'it returns false'. Refute it at one input. -/
def orderKeepsWrong : ChangeSpec := { name := "orderKeeps", fn := fun _ => fun
  | [d1, d2, d3] => { results := [.lit (.bool false)], args := [d1, d2, d3] }
  | _ => none }
def OrderKeepsWrongFalsely : Prop := orderKeepsRow.holds Try.pinned (OpenSpec.ofChange orderKeepsWrong)

/- THE SECOND FORM. 'bulk': how many values and letters a reading holds, each counted each time it is reached (what is shared counts as often as it is met; a slice's spare places count too). A statement '..UptoSaid' is the law's where the arguments, and the package variables that the reading takes, are together of bulk at most 1048576: NARROWER than '..Said'. Prove '..Said' where nothing that the law and all that it calls make is longer than what came in: it says more and counts as full. Else prove '..UptoSaid'. A law counts once. -/
mutual
def uptoBulk {H : Type} : DataW H → Nat
  | .lit (.string bytes) => bytes.length + 1
  | .lit _ => 1
  | .nil => 1
  | .ptr d => uptoBulk d + 1
  | .slice elems spare => uptoBulkAll elems + uptoBulkAll spare + 1
  | .agg parts => uptoBulkAll parts + 1
  | .iface _ d => uptoBulk d + 1
  | .map entries => uptoBulkEntries entries + 1
  | .held _ => 1
def uptoBulkAll {H : Type} : List (DataW H) → Nat
  | [] => 0
  | d :: r => uptoBulk d + uptoBulkAll r
def uptoBulkEntries {H : Type} : List (Lit × DataW H) → Nat
  | [] => 0
  | x :: r => uptoBulkEntry x + uptoBulkEntries r
def uptoBulkEntry {H : Type} : Lit × DataW H → Nat
  | (.string bytes, d) => bytes.length + uptoBulk d + 1
  | (_, d) => uptoBulk d + 1
 end
def uptoSmall : (H : Type) → List (DataW H) → Bool := fun _ ds => decide (uptoBulkAll ds ≤ 1048576)
def OpenSpec.upto (s : _root_.Go.ChangeSpec) : _root_.Go.OpenSpec := { _root_.Go.OpenSpec.ofChange s with cond := some uptoSmall }

/-- 'cloisterlaw04.OrderNames', WHERE WHAT IT READS IS OF BULK AT MOST 1048576: true; the input reads as it did. -/
def orderNamesUptoRow : OpenClaim := { program := "ytimoenpfnaaehaa", sum := "abe873909b6a14c220ddc64902cb843fc1e119fb7158aecbe412704b9b2cad0c", func := "cloister/cloisterlaw04.OrderNames", spec := "orderNames", inPlace := ["math.Float64frombits", "math.Float64bits", "internal/bytealg.abigen_runtime_cmpstring"], apart := false, narrowed := true }
def OrderNamesUptoSaid : Prop := orderNamesUptoRow.holds Try.pinned (OpenSpec.upto orderNamesSpec)

/-- 'cloisterlaw04.OrderItems', WHERE WHAT IT READS IS OF BULK AT MOST 1048576: true; the input reads as it did. -/
def orderItemsUptoRow : OpenClaim := { program := "ytimoenpfnaaehaa", sum := "abe873909b6a14c220ddc64902cb843fc1e119fb7158aecbe412704b9b2cad0c", func := "cloister/cloisterlaw04.OrderItems", spec := "orderItems", inPlace := ["math.Float64frombits", "math.Float64bits", "internal/bytealg.abigen_runtime_cmpstring"], apart := false, narrowed := true }
def OrderItemsUptoSaid : Prop := orderItemsUptoRow.holds Try.pinned (OpenSpec.upto orderItemsSpec)

/-- 'cloisterlaw04.OrderCompares', WHERE WHAT IT READS IS OF BULK AT MOST 1048576: true; the input reads as it did. -/
def orderComparesUptoRow : OpenClaim := { program := "ytimoenpfnaaehaa", sum := "abe873909b6a14c220ddc64902cb843fc1e119fb7158aecbe412704b9b2cad0c", func := "cloister/cloisterlaw04.OrderCompares", spec := "orderCompares", inPlace := ["math.Float64frombits", "internal/bytealg.abigen_runtime_cmpstring", "math.Float64bits"], apart := false, narrowed := true }
def OrderComparesUptoSaid : Prop := orderComparesUptoRow.holds Try.pinned (OpenSpec.upto orderComparesSpec)

/-- 'cloisterlaw04.OrderEncodes', WHERE WHAT IT READS IS OF BULK AT MOST 1048576: true; the input reads as it did. -/
def orderEncodesUptoRow : OpenClaim := { program := "ytimoenpfnaaehaa", sum := "abe873909b6a14c220ddc64902cb843fc1e119fb7158aecbe412704b9b2cad0c", func := "cloister/cloisterlaw04.OrderEncodes", spec := "orderEncodes", inPlace := ["math.Float64frombits", "math.Float64bits", "internal/bytealg.abigen_runtime_cmpstring"], apart := false, narrowed := true }
def OrderEncodesUptoSaid : Prop := orderEncodesUptoRow.holds Try.pinned (OpenSpec.upto orderEncodesSpec)

/-- 'cloisterlaw04.OrderDecodes', WHERE WHAT IT READS IS OF BULK AT MOST 1048576: true; the input reads as it did. -/
def orderDecodesUptoRow : OpenClaim := { program := "ytimoenpfnaaehaa", sum := "abe873909b6a14c220ddc64902cb843fc1e119fb7158aecbe412704b9b2cad0c", func := "cloister/cloisterlaw04.OrderDecodes", spec := "orderDecodes", inPlace := ["math.Float64frombits", "math.Float64bits", "internal/bytealg.abigen_runtime_cmpstring"], apart := false, narrowed := true }
def OrderDecodesUptoSaid : Prop := orderDecodesUptoRow.holds Try.pinned (OpenSpec.upto orderDecodesSpec)

/-- 'cloisterlaw04.OrderNexts', WHERE WHAT IT READS IS OF BULK AT MOST 1048576: true; the input reads as it did. -/
def orderNextsUptoRow : OpenClaim := { program := "ytimoenpfnaaehaa", sum := "abe873909b6a14c220ddc64902cb843fc1e119fb7158aecbe412704b9b2cad0c", func := "cloister/cloisterlaw04.OrderNexts", spec := "orderNexts", inPlace := ["math.Float64frombits", "math.Float64bits", "internal/bytealg.abigen_runtime_cmpstring"], apart := false, narrowed := true }
def OrderNextsUptoSaid : Prop := orderNextsUptoRow.holds Try.pinned (OpenSpec.upto orderNextsSpec)

/-- 'cloisterlaw04.OrderBack', WHERE WHAT IT READS IS OF BULK AT MOST 1048576: true; the input reads as it did. -/
def orderBackUptoRow : OpenClaim := { program := "ytimoenpfnaaehaa", sum := "abe873909b6a14c220ddc64902cb843fc1e119fb7158aecbe412704b9b2cad0c", func := "cloister/cloisterlaw04.OrderBack", spec := "orderBack", inPlace := ["math.Float64frombits", "math.Float64bits", "internal/bytealg.abigen_runtime_cmpstring"], apart := false, narrowed := true }
def OrderBackUptoSaid : Prop := orderBackUptoRow.holds Try.pinned (OpenSpec.upto orderBackSpec)

/-- 'cloisterlaw04.OrderBeginnings', WHERE WHAT IT READS IS OF BULK AT MOST 1048576: true; the input reads as it did. -/
def orderBeginningsUptoRow : OpenClaim := { program := "ytimoenpfnaaehaa", sum := "abe873909b6a14c220ddc64902cb843fc1e119fb7158aecbe412704b9b2cad0c", func := "cloister/cloisterlaw04.OrderBeginnings", spec := "orderBeginnings", inPlace := ["math.Float64frombits", "math.Float64bits", "internal/bytealg.abigen_runtime_cmpstring"], apart := false, narrowed := true }
def OrderBeginningsUptoSaid : Prop := orderBeginningsUptoRow.holds Try.pinned (OpenSpec.upto orderBeginningsSpec)

/-- 'cloisterlaw04.OrderNextLeast', WHERE WHAT IT READS IS OF BULK AT MOST 1048576: true; the input reads as it did. -/
def orderNextLeastUptoRow : OpenClaim := { program := "ytimoenpfnaaehaa", sum := "abe873909b6a14c220ddc64902cb843fc1e119fb7158aecbe412704b9b2cad0c", func := "cloister/cloisterlaw04.OrderNextLeast", spec := "orderNextLeast", inPlace := ["math.Float64frombits", "math.Float64bits", "internal/bytealg.abigen_runtime_cmpstring"], apart := false, narrowed := true }
def OrderNextLeastUptoSaid : Prop := orderNextLeastUptoRow.holds Try.pinned (OpenSpec.upto orderNextLeastSpec)

/-- 'cloisterlaw04.OrderTotal', WHERE WHAT IT READS IS OF BULK AT MOST 1048576: true; the input reads as it did. -/
def orderTotalUptoRow : OpenClaim := { program := "ytimoenpfnaaehaa", sum := "abe873909b6a14c220ddc64902cb843fc1e119fb7158aecbe412704b9b2cad0c", func := "cloister/cloisterlaw04.OrderTotal", spec := "orderTotal", inPlace := ["math.Float64frombits", "math.Float64bits", "internal/bytealg.abigen_runtime_cmpstring"], apart := false, narrowed := true }
def OrderTotalUptoSaid : Prop := orderTotalUptoRow.holds Try.pinned (OpenSpec.upto orderTotalSpec)

/-- 'cloisterlaw04.OrderComparesAll', WHERE WHAT IT READS IS OF BULK AT MOST 1048576: true; the input reads as it did. -/
def orderComparesAllUptoRow : OpenClaim := { program := "ytimoenpfnaaehaa", sum := "abe873909b6a14c220ddc64902cb843fc1e119fb7158aecbe412704b9b2cad0c", func := "cloister/cloisterlaw04.OrderComparesAll", spec := "orderComparesAll", inPlace := ["math.Float64frombits", "internal/bytealg.abigen_runtime_cmpstring", "math.Float64bits"], apart := false, narrowed := true }
def OrderComparesAllUptoSaid : Prop := orderComparesAllUptoRow.holds Try.pinned (OpenSpec.upto orderComparesAllSpec)

/-- 'cloisterlaw04.OrderKept', WHERE WHAT IT READS IS OF BULK AT MOST 1048576: true; the input reads as it did. -/
def orderKeptUptoRow : OpenClaim := { program := "ytimoenpfnaaehaa", sum := "abe873909b6a14c220ddc64902cb843fc1e119fb7158aecbe412704b9b2cad0c", func := "cloister/cloisterlaw04.OrderKept", spec := "orderKept", inPlace := ["math.Float64frombits", "math.Float64bits", "internal/bytealg.abigen_runtime_cmpstring"], apart := false, narrowed := true }
def OrderKeptUptoSaid : Prop := orderKeptUptoRow.holds Try.pinned (OpenSpec.upto orderKeptSpec)

/-- 'cloisterlaw04.OrderKeeps', WHERE WHAT IT READS IS OF BULK AT MOST 1048576: true; the input reads as it did. -/
def orderKeepsUptoRow : OpenClaim := { program := "ytimoenpfnaaehaa", sum := "abe873909b6a14c220ddc64902cb843fc1e119fb7158aecbe412704b9b2cad0c", func := "cloister/cloisterlaw04.OrderKeeps", spec := "orderKeeps", inPlace := ["math.Float64frombits", "math.Float64bits", "internal/bytealg.abigen_runtime_cmpstring"], apart := false, narrowed := true }
def OrderKeepsUptoSaid : Prop := orderKeepsUptoRow.holds Try.pinned (OpenSpec.upto orderKeepsSpec)

end Rows
end Go.Proofs.Ytimoenpfnaaehaa
