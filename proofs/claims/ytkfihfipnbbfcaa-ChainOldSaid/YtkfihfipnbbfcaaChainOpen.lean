/-
  Layer 13: the arguments of its laws, opened.
-/
import Derived.Test.YtkfihfipnbbfcaaCRD
import Derived.Test.YtkfihfipnbbfcaaSlice
import Derived.Test.YtkfihfipnbbfcaaChainOf
namespace Go.Proofs.Ytkfihfipnbbfcaa
open Go.ChangeShapes Go.WideShapes Go.ChangeAt Go.RowKit Go.Deep
open Rf (St)

theorem list_of {α : Type} {P : Nat → α → Prop} : ∀ n : Nat, (∀ i, i < n → ∃ x, P i x) → ∃ s : List α, s.length = n ∧ ∀ i x, s[i]? = some x → P i x
  | 0, _ => ⟨[], rfl, fun i x h => by simp at h⟩
  | n + 1, h => by
    obtain ⟨s, hs, hp⟩ := list_of n (fun i hi => h i (by omega))
    obtain ⟨x, hx⟩ := h n (by omega)
    refine ⟨s ++ [x], by simp [hs], fun i y hy => ?_⟩
    by_cases hi : i < s.length
    · rw [List.getElem?_append_left hi] at hy; exact hp i y hy
    · have hil : i < (s ++ [x]).length := (List.getElem?_eq_some_iff.1 hy).1
      have : i = s.length := by simp at hil; omega
      subst this
      have e : y = x := by simpa using hy.symm
      rw [e, hs]; exact hx

/-- a slice of Steps -/
theorem open_steps {H : Type} {enc : TypeId × Value → H} {w : World} {held : Bool} {v : Value} {d : DataW H} {p : List MemPlace}
    (hv : ∃ a len cap, v = .slice a len cap) (h : DataW.Trod enc Try.prog w 0 (fun _ => true) held 50 v d p) :
    ∃ A cap, ∃ s : List St, v = .slice A s.length cap ∧ s.length ≤ cap ∧ (A = none ∧ s.length = 0 ∧ cap = 0 ∨ ∃ D S, d = .slice D S ∧ D.length = s.length ∧ D.length + S.length = cap) ∧ Rf.StepsIn w w.heap.size A s := by
  obtain ⟨A, n, cap, rfl, hl, hm, hdd, hi⟩ := open_elems (sz := 4) Try.underlying50 (by kernel_rfl) (by omega) hv h
  have hx : ∀ i, i < n → ∃ y : St, ∃ (blk off : Nat), A = some ⟨blk, off, none⟩ ∧ blk < w.heap.size ∧
      w.cell? ⟨blk, off + i * 4, none⟩ = some (.int .i64 y.1) ∧ w.cell? ⟨blk, off + i * 4 + 1, none⟩ = some (.int .i64 y.2.1) ∧ w.cell? ⟨blk, off + i * 4 + 2, none⟩ = some (.string y.2.2.1) ∧ w.cell? ⟨blk, off + i * 4 + 3, none⟩ = some (.bool y.2.2.2) := by
    intro i hlt
    obtain ⟨blk, off, cs, m, x, hA, hb, hlen, hc, ht⟩ := hi i hlt
    obtain ⟨_, hf⟩ := fields_of Try.underlying61 (by kernel_rfl) (by kernel_rfl) ht
    obtain ⟨x0, y0, n0, e0, h0⟩ := hf 0 _ rfl
    obtain ⟨x1, y1, n1, e1, h1⟩ := hf 1 _ rfl
    obtain ⟨x2, y2, n2, e2, h2⟩ := hf 2 _ rfl
    obtain ⟨x3, y3, n3, e3, h3⟩ := hf 3 _ rfl
    obtain ⟨a0, rfl, _⟩ := field_int Try.underlying3 h0
    obtain ⟨a1, rfl, _⟩ := field_int Try.underlying3 h1
    obtain ⟨a2, rfl, _⟩ := field_string Try.underlying9 h2
    obtain ⟨a3, rfl⟩ := field_bool Try.underlying4 h3
    exact ⟨(a0, a1, a2, a3), blk, off, hA, hb, hc 0 _ e0, hc 1 _ e1, hc 2 _ e2, hc 3 _ e3⟩
  obtain ⟨s, hs, hp⟩ := list_of n hx
  subst hs
  exact ⟨A, cap, s, rfl, hl, hdd, fun i k m x dead hsi => hp i _ hsi⟩

/-- A script takes at most so many steps. -/
theorem steps_few {H : Type} {ts : List TypeId} {ds : List (DataW H)} {A : Option Addr} {n cap : Nat} {d : DataW H} (j : Nat) (h : (DataW.weightsEach Try.prog ts ds).all (· ≤ reachBytes) = true) (ht : ts[j]? = some 50) (hj : ds[j]? = some d)
    (hd : A = none ∧ n = 0 ∧ cap = 0 ∨ ∃ D S, d = .slice D S ∧ D.length = n ∧ D.length + S.length = cap) : n ≤ 3518437208780 := by
  rcases hd with ⟨_, h0, _⟩ | ⟨D, S, rfl, hD, _⟩
  · omega
  · have := sized_slice h ht hj Try.underlying50
    rw [show Try.prog.bytesOf 61 = 40 by kernel_rfl] at this
    unfold reachBytes at this
    omega

end Go.Proofs.Ytkfihfipnbbfcaa
