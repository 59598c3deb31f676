/-
  Layer 4: the arguments of its laws, opened.
-/
import Derived.Test.YtimoenpfnaaehaaONames
import Derived.Test.YtimoenpfnaaehaaSlice
import Derived.ChangeMaps5
namespace Go.Proofs.Ytimoenpfnaaehaa
open Go.ChangeShapes Go.WideShapes Go.ChangeAt Go.RowKit

theorem wfu64 {x : Int} (h : (Lit.int .u64 x).wf = true) : ∃ n : Nat, x = n ∧ n < 18446744073709551616 := by
  have : 0 ≤ x ∧ x ≤ 18446744073709551615 := by simpa [Lit.wf, IntKind.min, IntKind.max, IntKind.signed, IntKind.bits] using h
  exact ⟨x.toNat, by omega, by omega⟩

/-- What a Raw may hold, its text by what a string can be. -/
structure It.Raw (x : It) : Prop where
  k0 : -9223372036854775808 ≤ x.k
  k1 : x.k ≤ 9223372036854775807
  n0 : -9223372036854775808 ≤ x.n
  n1 : x.n ≤ 9223372036854775807
  f : x.f < 18446744073709551616
  re : x.re < 18446744073709551616
  im : x.im < 18446744073709551616
  t : x.t.size ≤ 9223372036854775807

theorem raw_cells {H : Type} {enc : TypeId × Value → H} {w : World} {base : Nat} {spare : Nat → Bool} {held : Bool} {cs : List Value} (hl : cs.length = 7)
    (f0 : ∃ (c : Value) (y : DataW H × List MemPlace) (n : Nat), cs[0]? = some c ∧ DataW.trod enc Try.prog w base spare held n 3 [c] = some y)
    (f1 : ∃ (c : Value) (y : DataW H × List MemPlace) (n : Nat), cs[1]? = some c ∧ DataW.trod enc Try.prog w base spare held n 4 [c] = some y)
    (f2 : ∃ (c : Value) (y : DataW H × List MemPlace) (n : Nat), cs[2]? = some c ∧ DataW.trod enc Try.prog w base spare held n 2 [c] = some y)
    (f3 : ∃ (c : Value) (y : DataW H × List MemPlace) (n : Nat), cs[3]? = some c ∧ DataW.trod enc Try.prog w base spare held n 23 [c] = some y)
    (f4 : ∃ (c : Value) (y : DataW H × List MemPlace) (n : Nat), cs[4]? = some c ∧ DataW.trod enc Try.prog w base spare held n 23 [c] = some y)
    (f5 : ∃ (c : Value) (y : DataW H × List MemPlace) (n : Nat), cs[5]? = some c ∧ DataW.trod enc Try.prog w base spare held n 23 [c] = some y)
    (f6 : ∃ (c : Value) (y : DataW H × List MemPlace) (n : Nat), cs[6]? = some c ∧ DataW.trod enc Try.prog w base spare held n 9 [c] = some y) :
    ∃ x : It, x.Raw ∧ cs = [.int .i64 x.k, .bool x.b, .int .i64 x.n, .int .u64 (x.f : Int), .int .u64 (x.re : Int), .int .u64 (x.im : Int), .string x.t] := by
  match cs, hl with
  | [c0, c1, c2, c3, c4, c5, c6], _ =>
    obtain ⟨x0, y0, n0, e0, h0⟩ := f0
    obtain ⟨x1, y1, n1, e1, h1⟩ := f1
    obtain ⟨x2, y2, n2, e2, h2⟩ := f2
    obtain ⟨x3, y3, n3, e3, h3⟩ := f3
    obtain ⟨x4, y4, n4, e4, h4⟩ := f4
    obtain ⟨x5, y5, n5, e5, h5⟩ := f5
    obtain ⟨x6, y6, n6, e6, h6⟩ := f6
    obtain ⟨k, rfl, w0⟩ := field_int Try.underlying3 h0
    obtain ⟨b, rfl⟩ := field_bool Try.underlying4 h1
    obtain ⟨n, rfl, w2⟩ := field_int Try.underlying2 h2
    obtain ⟨f', rfl, w3⟩ := field_int Try.underlying23 h3
    obtain ⟨re', rfl, w4⟩ := field_int Try.underlying23 h4
    obtain ⟨im', rfl, w5⟩ := field_int Try.underlying23 h5
    obtain ⟨t, rfl, q6⟩ := field_string Try.underlying9 h6
    unfold maxLen at q6
    obtain ⟨f, rfl, q3⟩ := wfu64 w3
    obtain ⟨re, rfl, q4⟩ := wfu64 w4
    obtain ⟨im, rfl, q5⟩ := wfu64 w5
    have p0 := wf64 w0
    have p2 := wf64 w2
    simp at e0 e1 e2 e3 e4 e5 e6
    subst e0 e1 e2 e3 e4 e5 e6
    exact ⟨⟨k, b, n, f, re, im, t⟩, ⟨p0.1, p0.2, p2.1, p2.2, q3, q4, q5, q6⟩, rfl⟩

/-- a Raw by value -/
theorem open_raw {H : Type} {enc : TypeId × Value → H} {w : World} {base : Nat} {spare : Nat → Bool} {held : Bool} {v : Value} {d : DataW H} {p : List MemPlace}
    (hv : ∃ cs, v = .agg cs ∧ cs.size = Try.prog.cellsOf 25) (h : DataW.Trod enc Try.prog w base spare held 25 v d p) : ∃ x : It, v = .agg x.r ∧ x.Raw := by
  obtain ⟨cs, rfl, hl, hf⟩ := open_fields Try.underlying25 (by kernel_rfl) (by kernel_rfl) hv h
  obtain ⟨x, hx, rfl⟩ := raw_cells hl (hf 0 _ rfl) (hf 1 _ rfl) (hf 2 _ rfl) (hf 3 _ rfl) (hf 4 _ rfl) (hf 5 _ rfl) (hf 6 _ rfl)
  exact ⟨x, rfl, hx⟩

/-- A slice of Raws in memory. -/
def RawsAt (w : World) (A : Option Addr) (xs : List It) : Prop :=
  ∀ (i : Nat) (x : It), xs[i]? = some x → ∃ g off, A = some ⟨g, off, none⟩ ∧ g < w.heap.size ∧ w.cell? ⟨g, off + i * 7, none⟩ = some (.int .i64 x.k) ∧ w.cell? ⟨g, off + i * 7 + 1, none⟩ = some (.bool x.b) ∧ w.cell? ⟨g, off + i * 7 + 2, none⟩ = some (.int .i64 x.n) ∧
    w.cell? ⟨g, off + i * 7 + 3, none⟩ = some (.int .u64 (x.f : Int)) ∧ w.cell? ⟨g, off + i * 7 + 4, none⟩ = some (.int .u64 (x.re : Int)) ∧ w.cell? ⟨g, off + i * 7 + 5, none⟩ = some (.int .u64 (x.im : Int)) ∧ w.cell? ⟨g, off + i * 7 + 6, none⟩ = some (.string x.t)
theorem RawsAt.keep {w w' : World} {A : Option Addr} {xs : List It} (h : RawsAt w A xs) (ho : Only NoneOf w w') : RawsAt w' A xs := by
  intro i x hx
  obtain ⟨g, off, hA, hg, c0, c1, c2, c3, c4, c5, c6⟩ := h i x hx
  have hc := (bcell ho).1
  exact ⟨g, off, hA, Nat.lt_of_lt_of_le hg ho.size, (hc g _ hg).trans c0, (hc g _ hg).trans c1, (hc g _ hg).trans c2, (hc g _ hg).trans c3, (hc g _ hg).trans c4, (hc g _ hg).trans c5, (hc g _ hg).trans c6⟩

end Go.Proofs.Ytimoenpfnaaehaa
