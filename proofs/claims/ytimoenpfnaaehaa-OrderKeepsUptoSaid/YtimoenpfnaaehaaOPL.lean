/-
  Layer 4: a slice of Raws that comes in, opened.
-/
import Derived.Test.YtimoenpfnaaehaaOOpen
import Derived.Test.YtimoenpfnaaehaaOR4
namespace Go.Proofs.Ytimoenpfnaaehaa
open Go.ChangeShapes Go.WideShapes Go.ChangeAt Go.RowKit Go.Deep

theorem list_of {α : Type} {P : Nat → α → Prop} : ∀ n : Nat, (∀ i, i < n → ∃ x, P i x) → ∃ s : List α, s.length = n ∧ ∀ i x, s[i]? = some x → P i x
  | 0, _ => ⟨[], rfl, fun i x h => by simp at h⟩
  | n + 1, h => by
    obtain ⟨s, hs, hp⟩ := list_of n (fun i hi => h i (by omega))
    obtain ⟨x, hx⟩ := h n (by omega)
    refine ⟨s ++ [x], by simp [hs], fun i y hy => ?_⟩
    by_cases hi : i < s.length
    · rw [List.getElem?_append_left hi] at hy; exact hp i y hy
    · have hil : i < (s ++ [x]).length := (List.getElem?_eq_some_iff.1 hy).1
      have : i = s.length := by simp at hil; omega
      subst this
      have e : y = x := by simpa using hy.symm
      rw [e, hs]; exact hx

theorem open_raws {H : Type} {enc : TypeId × Value → H} {w : World} {held : Bool} {v : Value} {d : DataW H} {p : List MemPlace}
    (hv : ∃ a len cap, v = .slice a len cap) (h : DataW.Trod enc Try.prog w 0 (fun _ => true) held 44 v d p) :
    ∃ A cap, ∃ s : List It, v = .slice A s.length cap ∧ s.length ≤ cap ∧ (A = none ∧ s.length = 0 ∧ cap = 0 ∨ ∃ D S, d = .slice D S ∧ D.length = s.length ∧ D.length + S.length = cap) ∧ RawsAt w A s ∧ ∀ x ∈ s, x.Raw := by
  obtain ⟨A, n, cap, rfl, hl, hm, hdd, hi⟩ := open_elems (sz := 7) Try.underlying44 (by kernel_rfl) (by omega) hv h
  have hx : ∀ i, i < n → ∃ x : It, x.Raw ∧ ∃ (g off : Nat), A = some ⟨g, off, none⟩ ∧ g < w.heap.size ∧ w.cell? ⟨g, off + i * 7, none⟩ = some (.int .i64 x.k) ∧ w.cell? ⟨g, off + i * 7 + 1, none⟩ = some (.bool x.b) ∧ w.cell? ⟨g, off + i * 7 + 2, none⟩ = some (.int .i64 x.n) ∧
      w.cell? ⟨g, off + i * 7 + 3, none⟩ = some (.int .u64 (x.f : Int)) ∧ w.cell? ⟨g, off + i * 7 + 4, none⟩ = some (.int .u64 (x.re : Int)) ∧ w.cell? ⟨g, off + i * 7 + 5, none⟩ = some (.int .u64 (x.im : Int)) ∧ w.cell? ⟨g, off + i * 7 + 6, none⟩ = some (.string x.t) := by
    intro i hlt
    obtain ⟨blk, off, cs, m, x, hA, hb, hlen, hc, ht⟩ := hi i hlt
    obtain ⟨_, hf⟩ := fields_of Try.underlying25 (by kernel_rfl) (by kernel_rfl) ht
    obtain ⟨x, hx, rfl⟩ := raw_cells hlen (hf 0 _ rfl) (hf 1 _ rfl) (hf 2 _ rfl) (hf 3 _ rfl) (hf 4 _ rfl) (hf 5 _ rfl) (hf 6 _ rfl)
    exact ⟨x, hx, blk, off, hA, hb, hc 0 _ rfl, hc 1 _ rfl, hc 2 _ rfl, hc 3 _ rfl, hc 4 _ rfl, hc 5 _ rfl, hc 6 _ rfl⟩
  obtain ⟨s, hs, hp⟩ := list_of n hx
  subst hs
  refine ⟨A, cap, s, rfl, hl, hdd, fun i x hsi => (hp i x hsi).2, fun x hx => ?_⟩
  obtain ⟨i, hi, rfl⟩ := List.getElem_of_mem hx
  exact (hp i _ (List.getElem?_eq_getElem hi)).1

/-- A list of Raws holds at most so many. -/
theorem raws_few {H : Type} {ts : List TypeId} {ds : List (DataW H)} {A : Option Addr} {n cap : Nat} {d : DataW H} (j : Nat) (h : (DataW.weightsEach Try.prog ts ds).all (· ≤ reachBytes) = true) (ht : ts[j]? = some 44) (hj : ds[j]? = some d)
    (hd : A = none ∧ n = 0 ∧ cap = 0 ∨ ∃ D S, d = .slice D S ∧ D.length = n ∧ D.length + S.length = cap) : n ≤ 4398046511104 := by
  rcases hd with ⟨_, h0, _⟩ | ⟨D, S, rfl, hD, _⟩
  · omega
  · have := sized_slice h ht hj Try.underlying44
    rw [show Try.prog.bytesOf 25 = 64 by kernel_rfl] at this
    unfold reachBytes at this
    omega

theorem It.Raw.In {x : It} (h : x.Raw) : x.In := ⟨h.f, h.re, h.im, h.t⟩

end Go.Proofs.Ytimoenpfnaaehaa
