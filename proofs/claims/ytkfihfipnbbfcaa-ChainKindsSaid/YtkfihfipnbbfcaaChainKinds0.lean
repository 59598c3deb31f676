/-
  A []byte that comes in, turned into a text.
-/
import Derived.Test.YtkfihfipnbbfcaaCK
import Derived.Test.YtkfihfipnbbfcaaSlice
import Derived.Test.YtkfihfipnbbfcaaChainOf
import Derived.Laws.BytesArg
namespace Go.Proofs.Ytkfihfipnbbfcaa
open Go.ChangeShapes Go.WideShapes Go.ChangeAt Go.RowKit

theorem open_text {H : Type} {enc : TypeId × Value → H} {w : World} {held : Bool} {v : Value} {d : DataW H} {p : List MemPlace}
    (hv : ∃ a len cap, v = .slice a len cap) (h : DataW.Trod enc Try.prog w 0 (fun _ => true) held 83 v d p) :
    ∃ A n cap S, v = .slice A n cap ∧ ∀ u, Only NoneOf w u → (convert 83 9 (.slice A n cap)).run Try.prog u = .ok (.string S) u := by
  obtain ⟨A, n, cap, rfl, hl, hm, _, hi⟩ := open_elems (sz := 1) Try.underlying83 (by kernel_rfl) (by omega) hv h
  rcases Nat.eq_zero_or_pos n with rfl | hn
  · refine ⟨A, 0, cap, ByteArray.empty, rfl, fun u _ => ?_⟩
    rw [run_convert_bytes_string u 83 9 5 A 0 cap Try.underlying83 Try.underlying5 Try.underlying9]
    cases A <;> simp [Conv.bytesToString, loadCells, loadCellsFrom]
  · have hall : ∀ i, ∃ x : Int, i < n → ∃ (blk off : Nat), A = some ⟨blk, off, none⟩ ∧ blk < w.heap.size ∧ w.cell? ⟨blk, off + i, none⟩ = some (.int .u8 x) := by
      intro i
      by_cases hlt : i < n
      · obtain ⟨blk, off, cs, m, y, hA, hb, hlen, hc, ht⟩ := hi i hlt
        match cs, hlen with
        | [c], _ =>
          obtain ⟨x, rfl, _⟩ := field_int Try.underlying5 ht
          refine ⟨x, fun _ => ⟨blk, off, hA, hb, ?_⟩⟩
          have := hc 0 _ rfl
          simpa using this
      · exact ⟨0, fun h => absurd h hlt⟩
    obtain ⟨f, hf⟩ := Classical.skolem.1 hall
    obtain ⟨blk, off, rfl, hb, _⟩ := hf 0 hn
    refine ⟨_, n, cap, strOfNums ((List.range n).map f), rfl, fun u ho => ?_⟩
    refine run_convert_bytes_arg u 83 5 Try.underlying83 Try.underlying5 blk off n cap _ (by simp) (fun i hlt => ?_) 9 Try.underlying9
    obtain ⟨blk', off', hA, _, hc⟩ := hf i hlt
    injection hA with hA
    injection hA with h1 h2 _
    subst h1 h2
    rw [ho.cell (p := ⟨blk, off + i, none⟩) hb (fun h => h), hc]
    simp [List.getD, hlt]

theorem chainKinds_any (n x : Int) (A : Option Addr) (m c : Nat) (S : ByteArray) (w : World) (hcv : ∀ u, Only NoneOf w u → (convert 83 9 (.slice A m c)).run Try.prog u = .ok (.string S) u) :
    Calls Try.prog 14 #[.int .i64 n, .int .i64 x, .slice A m c] w fun e w' => e = .returned (.bool true) ∧ Only NoneOf w w' := by
  by_cases hn : n < 0
  · exact kinds_neg n x A m c w hn
  · exact kinds_pos n x A m c S w (by omega) hcv

end Go.Proofs.Ytkfihfipnbbfcaa
