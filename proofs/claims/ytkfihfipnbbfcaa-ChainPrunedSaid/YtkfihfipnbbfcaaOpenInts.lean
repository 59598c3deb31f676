/-
  Layer 13: a slice of ints, opened.
-/
import Derived.Test.YtkfihfipnbbfcaaCRG
import Derived.Test.YtkfihfipnbbfcaaChainOpen
namespace Go.Proofs.Ytkfihfipnbbfcaa
open Go.ChangeShapes Go.WideShapes Go.ChangeAt Go.RowKit Go.Deep

theorem open_ints {H : Type} {enc : TypeId × Value → H} {w : World} {held : Bool} {v : Value} {d : DataW H} {p : List MemPlace}
    (hv : ∃ a len cap, v = .slice a len cap) (h : DataW.Trod enc Try.prog w 0 (fun _ => true) held 75 v d p) :
    ∃ A cap, ∃ s : List Int, v = .slice A s.length cap ∧ s.length ≤ cap ∧ cap ≤ maxLen ∧ Rf.IntsIn w w.heap.size A s := by
  obtain ⟨A, n, cap, rfl, hl, hm, _, hi⟩ := open_elems (sz := 1) Try.underlying75 (by kernel_rfl) (by omega) hv h
  have hx : ∀ i, i < n → ∃ y : Int, ∃ (blk off : Nat), A = some ⟨blk, off, none⟩ ∧ blk < w.heap.size ∧ w.cell? ⟨blk, off + i, none⟩ = some (.int .i64 y) := by
    intro i hlt
    obtain ⟨blk, off, cs, m, x, hA, hb, hlen, hc, ht⟩ := hi i hlt
    match cs, hlen with
    | [c], _ =>
      obtain ⟨a, rfl, _⟩ := field_int Try.underlying3 ht
      have := hc 0 _ rfl
      rw [Nat.mul_one] at this
      exact ⟨a, blk, off, hA, hb, this⟩
  obtain ⟨s, hs, hp⟩ := list_of n hx
  subst hs
  exact ⟨A, cap, s, rfl, hl, hm, fun i n hsi => hp i n hsi⟩

end Go.Proofs.Ytkfihfipnbbfcaa
