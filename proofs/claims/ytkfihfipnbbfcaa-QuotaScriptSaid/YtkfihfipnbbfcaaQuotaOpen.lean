/-
  Layer 15: the arguments of its laws, opened.
-/
import Derived.Test.YtkfihfipnbbfcaaQ6
import Derived.Test.YtkfihfipnbbfcaaSlice
import Derived.Test.YtkfihfipnbbfcaaQuotaRoom
namespace Go.Proofs.Ytkfihfipnbbfcaa
open Go.ChangeShapes Go.WideShapes Go.ChangeAt Go.RowKit


/-- a slice of Ops -/
theorem open_ops {H : Type} {enc : TypeId × Value → H} {w : World} {held : Bool} {v : Value} {d : DataW H} {p : List MemPlace}
    (hv : ∃ a len cap, v = .slice a len cap) (h : DataW.Trod enc Try.prog w 0 (fun _ => true) held 33 v d p) : ∃ A n cap, v = .slice A n cap ∧ n ≤ cap ∧ cap ≤ maxLen ∧ OpsIn w w.heap.size A n := by
  obtain ⟨A, n, cap, rfl, hl, hm, _, hi⟩ := open_elems (sz := 5) Try.underlying33 (by kernel_rfl) (by omega) hv h
  refine ⟨A, n, cap, rfl, hl, hm, fun i hlt => ?_⟩
  obtain ⟨blk, off, cs, m, x, hA, hb, hlen, hc, ht⟩ := hi i hlt
  obtain ⟨_, hf⟩ := fields_of Try.underlying23 (by kernel_rfl) (by kernel_rfl) ht
  obtain ⟨x0, y0, n0, e0, h0⟩ := hf 0 _ rfl
  obtain ⟨x1, y1, n1, e1, h1⟩ := hf 1 _ rfl
  obtain ⟨x2, y2, n2, e2, h2⟩ := hf 2 _ rfl
  obtain ⟨x3, y3, n3, e3, h3⟩ := hf 3 _ rfl
  obtain ⟨x4, y4, n4, e4, h4⟩ := hf 4 _ rfl
  obtain ⟨a0, rfl, _⟩ := field_int Try.underlying3 h0
  obtain ⟨a1, rfl, _⟩ := field_int Try.underlying3 h1
  obtain ⟨a2, rfl, _⟩ := field_int Try.underlying3 h2
  obtain ⟨a3, rfl, _⟩ := field_int Try.underlying3 h3
  obtain ⟨a4, rfl, _⟩ := field_int Try.underlying3 h4
  exact ⟨blk, off, a0, a1, a2, a3, a4, hA, hb, hc 0 _ e0, hc 1 _ e1, hc 2 _ e2, hc 3 _ e3, hc 4 _ e4⟩

/-- a Pair by value -/
theorem open_pair {H : Type} {enc : TypeId × Value → H} {w : World} {base : Nat} {spare : Nat → Bool} {held : Bool} {v : Value} {d : DataW H} {p : List MemPlace}
    (hv : ∃ cs, v = .agg cs ∧ cs.size = Try.prog.cellsOf 48) (h : DataW.Trod enc Try.prog w base spare held 48 v d p) : ∃ x y, v = .agg #[.int .i64 x, .int .i64 y] := by
  obtain ⟨cs, rfl, hl, hf⟩ := open_fields Try.underlying48 (by kernel_rfl) (by kernel_rfl) hv h
  match cs, hl with
  | [c0, c1], _ =>
    obtain ⟨x0, y0, n0, e0, h0⟩ := hf 0 _ rfl
    obtain ⟨x1, y1, n1, e1, h1⟩ := hf 1 _ rfl
    obtain ⟨a0, rfl, _⟩ := field_int Try.underlying3 h0
    obtain ⟨a1, rfl, _⟩ := field_int Try.underlying3 h1
    simp at e0 e1
    subst e0 e1
    exact ⟨a0, a1, rfl⟩

end Go.Proofs.Ytkfihfipnbbfcaa
