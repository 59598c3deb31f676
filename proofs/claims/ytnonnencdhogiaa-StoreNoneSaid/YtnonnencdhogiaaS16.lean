/-
  Layer 14: lists of rows, each with bytes of its own, in memory; pairs.
-/
import Derived.Test.YtnonnencdhogiaaS15
import Derived.Test.YtnonnencdhogiaaHeadIn
import Derived.Test.YtnonnencdhogiaaIterM
namespace Go.Proofs.Ytnonnencdhogiaa
open Go.RowKit

section
variable {α : Type} {t : TypeId} {sz : Nat} {cells : α → List Value} {val : α → Value} {bs : α → List UInt8}
/-- a list of rows that is its own, each row's bytes of its own -/
structure BRows (t : TypeId) (sz : Nat) (cells : α → List Value) (val : α → Value) (bs : α → List UInt8) (w : World) (base : Nat) (v : Value) (rs : List α) : Prop where
  own : w.ownsRow base t sz v rs.length (rs.flatMap cells)
  vals : ∀ r ∈ rs, RowB w base (val r) (bs r)
  apart : ∀ r ∈ rs, ∀ g, v.ownBlock = some g → (val r).ownBlock ≠ some g
  dist : rs.Pairwise fun a b => ∀ g, (val a).ownBlock = some g → (val b).ownBlock ≠ some g
/-- its blocks -/
def BBlocks (val : α → Value) (v : Value) (rs : List α) (k : Nat) : Prop := v.ownBlock = some k ∨ ∃ r ∈ rs, (val r).ownBlock = some k

theorem BRows.lt {w : World} {base : Nat} {v : Value} {rs : List α} (h : BRows t sz cells val bs w base v rs) {k : Nat} (hk : BBlocks val v rs k) : base ≤ k ∧ k < w.heap.size := by
  rcases hk with hk | ⟨r, hr, hk⟩
  · exact ownsRow_lt h.own hk
  · exact ownsRow_lt (h.vals r hr) hk
theorem BRows.only {w w' : World} {S : Nat → Prop} {base : Nat} {v : Value} {rs : List α} (h : BRows t sz cells val bs w base v rs) (ho : Only S w w') (hS : ∀ k, BBlocks val v rs k → ¬ S k) : BRows t sz cells val bs w' base v rs :=
  ⟨ownsRow_only h.own ho (fun g hg => hS g (.inl hg)), fun r hr => (h.vals r hr).only ho (fun g hg => hS g (.inr ⟨r, hr, hg⟩)), h.apart, h.dist⟩
theorem BRows.keep {w w' : World} {base : Nat} {v : Value} {rs : List α} (h : BRows t sz cells val bs w base v rs) (ho : Only NoneOf w w') : BRows t sz cells val bs w' base v rs := h.only ho (fun _ _ h => h)
theorem BRows.nil (w : World) (base : Nat) : BRows t sz cells val bs w base (.slice none 0 0) [] := ⟨⟨by simp, .inl ⟨rfl, rfl⟩⟩, fun _ h => (by cases h), fun _ h => (by cases h), List.Pairwise.nil⟩
theorem BRows.base {w : World} {b b' : Nat} {v : Value} {rs : List α} (h : BRows t sz cells val bs w b v rs) (hb : b' ≤ b) : BRows t sz cells val bs w b' v rs :=
  ⟨ownsRow_base h.own hb, fun r hr => (h.vals r hr).base hb, h.apart, h.dist⟩
theorem BRows.in_heap {w : World} {b : Nat} {v : Value} {rs : List α} (h : BRows t sz cells val bs w b v rs) {k : Nat} (hk : BBlocks val v rs k) : ∃ t cs, w.heap[k]? = some (.cells cs t) := by
  rcases hk with hk | ⟨r, hr, hk⟩
  · exact ownsRow_cells h.own hk
  · exact ownsRow_cells (h.vals r hr) hk

/-- A row more. -/
theorem BRows.snoc {w w' : World} {base : Nat} {v v' : Value} {rs : List α} {r : α} (h : BRows t sz cells val bs w base v rs) (ho : Only (fun k => v.ownBlock = some k) w w')
    (hown : w'.ownsRow base t sz v' (rs.length + 1) (rs.flatMap cells ++ cells r)) (hat : v'.ownBlock = v.ownBlock ∨ v'.ownBlock = some w.heap.size) (hr : RowB w base (val r) (bs r))
    (hnew : ∀ g, (val r).ownBlock = some g → ¬ BBlocks val v rs g) :
    BRows t sz cells val bs w' base v' (rs ++ [r]) := by
  have hb : ∀ x ∈ rs ++ [r], RowB w base (val x) (bs x) ∧ ∀ g, v.ownBlock = some g → (val x).ownBlock ≠ some g := fun x hx => by
    rcases List.mem_append.1 hx with hx | hx
    · exact ⟨h.vals x hx, h.apart x hx⟩
    · obtain rfl : x = r := by simpa using hx
      exact ⟨hr, fun g hg e => hnew g e (.inl hg)⟩
  refine ⟨by rw [List.length_append]; simpa using hown, fun x hx => ?_, fun x hx g hg e => ?_, ?_⟩
  · exact (hb x hx).1.only ho (fun g hg e => (hb x hx).2 g e hg)
  · rcases hat with hat | hg'
    · rw [hat] at hg
      exact (hb x hx).2 g hg e
    · rw [hg'] at hg
      cases hg
      have := (ownsRow_lt (hb x hx).1 e).2
      omega
  · rw [List.pairwise_append]
    refine ⟨h.dist, List.pairwise_singleton _ _, fun a ha b hb' g hg e => ?_⟩
    obtain rfl : b = r := by simpa using hb'
    exact hnew g e (.inr ⟨a, ha, hg⟩)
theorem bblocks_snoc {v v' : Value} {rs : List α} {r : α} {k n : Nat} (hat : v'.ownBlock = v.ownBlock ∨ v'.ownBlock = some n) (h : BBlocks val v' (rs ++ [r]) k) : BBlocks val v rs k ∨ (val r).ownBlock = some k ∨ k = n := by
  rcases h with h | ⟨x, hx, h⟩
  · rcases hat with e | hg
    · exact .inl (.inl (e ▸ h))
    · rw [hg] at h
      cases h
      exact .inr (.inr rfl)
  · rcases List.mem_append.1 hx with hx | hx
    · exact .inl (.inr ⟨x, hx, h⟩)
    · obtain rfl : x = r := by simpa using hx
      exact .inr (.inl h)
/-- A slice that owns its rows has this form. -/
theorem ownsRow_slice {w : World} {base n : Nat} {v : Value} {xs : List Value} (h : w.ownsRow base t sz v n xs) : ∃ A c, v = .slice A n c := by
  rcases h.2 with ⟨hv, h0⟩ | ⟨g, cap, cur, hv, _⟩
  · exact ⟨none, 0, by rw [hv, h0]⟩
  · exact ⟨_, _, hv⟩
end

/-- a pair as a list of pairs holds it -/
structure PRow where
  key : ByteArray
  val : Value
  bs : List UInt8
def PRow.cells (r : PRow) : List Value := [.string r.key, r.val]
def PRow.plain (r : PRow) : ByteArray × List UInt8 := (r.key, r.bs)
abbrev PRows := BRows (α := PRow) 48 2 PRow.cells PRow.val PRow.bs
abbrev PBlocks := BBlocks PRow.val

theorem info48 : (Try.prog.info? 48).map (fun i => (i.zero, i.size, i.bytes)) = some (some (.agg #[.string ⟨#[]⟩, .slice none 0 0]), 2, 40) := by kernel_rfl

/-- What a Scan tells of a key. -/
def scanKey (V : ByteArray → List Ver) (fr tt : ByteArray) (st : Int) (k : List UInt8) : Option (ByteArray × List UInt8) :=
  if Op.bytesLess k fr.toList = true ∨ (tt.toList ≠ [] ∧ Op.bytesLess k tt.toList = false) then none else (found (V ⟨k.toArray⟩) st).map fun b => (⟨k.toArray⟩, b)
/-- What a Scan tells. -/
def scanOf (D : MD) (V : ByteArray → List Ver) (fr tt : ByteArray) (st : Int) : List (ByteArray × List UInt8) := (sortedKeys D).filterMap (scanKey V fr tt st)

def scanBoxes (w : World) (sv : Value) (fr tt : ByteArray) (st : Int) : World :=
  (((w.alloc (.cells #[sv] 24)).alloc (.cells #[.string fr] 9)).alloc (.cells #[.string tt] 9)).alloc (.cells #[.int .i64 st] 3)
abbrev scanFn (b : Nat) : Array Value := #[.pointer (some ⟨b, 0, none⟩), .pointer (some ⟨b + 1, 0, none⟩), .pointer (some ⟨b + 2, 0, none⟩), .pointer (some ⟨b + 3, 0, none⟩)]

theorem scan_is (w : World) (p : Option Addr) (fr tt : ByteArray) (st : Int) : Calls Try.prog 31 #[.pointer p, .string fr, .string tt, .int .i64 st] w fun e w' => e = .returned (.func (.func 56) #[] (scanFn w.heap.size)) ∧ scanBoxes w (.pointer p) fr tt st = w' := by
  go_enter Try.func31, Try.ntmps31
  go_wp2_with fail
  go_ret
  exact ⟨rfl, rfl⟩

end Go.Proofs.Ytnonnencdhogiaa
