/-
  A slice that comes in, opened to the cells of its elements.
-/
import Derived.Test.YtnonnencdhogiaaLaw
import Derived.Deep.Slices
namespace Go.Proofs.Ytnonnencdhogiaa
open Go.ChangeShapes Go.WideShapes Go.ChangeAt Go.RowKit Go.Deep

section
variable {H : Type} {enc : TypeId × Value → H} {P : Program} {w : World} {base : Nat} {spare : Nat → Bool} {held : Bool}

theorem cell_place {w : World} {a : Addr} {v : Value} (h : w.cell? a = some v) : a = ⟨a.block, a.off, none⟩ := by
  obtain ⟨b, o, s⟩ := a
  cases s with
  | none => rfl
  | some x =>
    unfold World.cell? at h
    simp only at h
    split at h <;> simp at h

/-- A slice's elements, each as the row of its cells. 'sz' is the element's number of cells. -/
theorem open_elems {t e : TypeId} {sz : Nat} {v : Value} {d : DataW H} {p : List MemPlace} (ht : P.underlying t = some (.slice e)) (hsz : P.cellsOf e = sz) (h0 : 0 < sz)
    (hv : ∃ a len cap, v = .slice a len cap) (h : DataW.Trod enc P w 0 (fun _ => true) held t v d p) :
    ∃ (A : Option Addr) (len cap : Nat), v = .slice A len cap ∧ len ≤ cap ∧ cap ≤ maxLen ∧
      (A = none ∧ len = 0 ∧ cap = 0 ∨ ∃ D S, d = .slice D S ∧ D.length = len ∧ D.length + S.length = cap) ∧
      ∀ i, i < len → ∃ (blk off : Nat) (cs : List Value) (n : Nat) (x : DataW H × List MemPlace), A = some ⟨blk, off, none⟩ ∧ blk < w.heap.size ∧ cs.length = sz ∧
        (∀ j v, cs[j]? = some v → w.cell? ⟨blk, off + i * sz + j, none⟩ = some v) ∧ DataW.trod enc P w 0 (fun _ => true) held n e cs = some x := by
  obtain ⟨A, len, cap, rfl⟩ := hv
  obtain ⟨fuel, hf⟩ := h
  have hc1 : (Value.slice A len cap).cells.toList = [Value.slice A len cap] := by simp [Value.cells]
  rw [hc1] at hf
  rcases open_slice ht hf with ⟨h1, h2⟩ | ⟨a, len', cap', m, n, D, Pl, h1, _, hl, hm, hmm, hx, hi⟩
  · simp only [List.cons.injEq, Value.slice.injEq, and_true] at h1
    obtain ⟨rfl, rfl, rfl⟩ := h1
    exact ⟨none, 0, 0, rfl, Nat.le_refl _, Nat.zero_le _, .inl ⟨rfl, rfl, rfl⟩, fun i hi => absurd hi (by omega)⟩
  · simp only [List.cons.injEq, Value.slice.injEq, and_true] at h1
    obtain ⟨rfl, rfl, rfl⟩ := h1
    simp only [if_true] at hmm
    simp only [Prod.mk.injEq] at hx
    refine ⟨some a, len, cap, rfl, hl, hm, .inr ⟨_, _, hx.1, by simp, by simp; omega⟩, fun i hlt => ?_⟩
    obtain ⟨cs, hcs, htr⟩ := hi i (by omega)
    rw [hsz] at hcs
    obtain ⟨_, hlen, hat⟩ := World.cells?_some hcs
    have hcell : ∀ j v, cs[j]? = some v → w.cell? (a.add (i * sz + j)) = some v := by
      intro j v hj
      have hjl : j < sz := by rw [← hlen]; exact (List.getElem?_eq_some_iff.1 hj).1
      have := hat j hjl
      rw [Go.Deep.add_add, hj] at this
      exact this
    have h00 : cs[0]? = some (cs[0]'(by omega)) := List.getElem?_eq_getElem (by omega)
    have hc0 := hcell 0 _ h00
    have hadd : ∀ k, (a.add k).block = a.block := fun k => by unfold Addr.add; split <;> rfl
    have hb : a.block < w.heap.size := by
      have hbl := World.block_lt_of_cell? _ _ hc0
      rw [hadd] at hbl
      exact hbl
    have hsp : a.spot = none := by
      obtain ⟨cs0, hcs0, _⟩ := hi 0 (by omega)
      rw [hsz] at hcs0
      obtain ⟨_, hlen0, hat0⟩ := World.cells?_some hcs0
      have e0 := hat0 0 h0
      rw [Go.Deep.add_add, List.getElem?_eq_getElem (by omega)] at e0
      have e1 : (a.add (0 * sz + 0)) = a := by simp [Addr.add]
      rw [e1] at e0
      have := cell_place e0
      exact congrArg Addr.spot this
    refine ⟨a.block, a.off, cs, n, _, ?_, hb, hlen, fun j v hj => ?_, htr⟩
    · obtain ⟨x, y, z⟩ := a
      simp only at hsp
      rw [hsp]
    · have := hcell j v hj
      have e : a.add (i * sz + j) = ⟨a.block, a.off + i * sz + j, none⟩ := by
        unfold Addr.add
        split
        · rename_i hz
          obtain ⟨x, y, z⟩ := a
          simp only at hsp
          subst hsp
          simp only [Addr.mk.injEq, and_true, true_and]
          omega
        · simp only [Addr.mk.injEq, and_true, true_and]
          omega
      rw [e] at this
      exact this

/-- A struct's row of cells, each field of one cell. -/
theorem fields_of {t : TypeId} {fs : Array Field} {cs : List Value} {fuel : Nat} {x : DataW H × List MemPlace} (hs : P.underlying t = some (.struct fs)) (hone : oneCellFields P fs = true) (hC : P.cellsOf t = fs.size)
    (h : DataW.trod enc P w base spare held fuel t cs = some x) :
    cs.length = fs.size ∧ ∀ (j : Nat) (f : Field), fs[j]? = some f → ∃ (c : Value) (y : DataW H × List MemPlace) (n : Nat), cs[j]? = some c ∧ DataW.trod enc P w base spare held n f.type [c] = some y := by
  obtain ⟨xs, n, _, _, hcl, hlen, hg⟩ := DataW.trod_struct hs h
  have hl : cs.length = fs.size := by rw [← hC]; exact hcl
  refine ⟨hl, fun j f hj => ?_⟩
  obtain ⟨ho, hk⟩ := hone_of hone j f hj
  have hjl : j < fs.size := (Array.getElem?_eq_some_iff.1 hj).1
  have h1 := hg j f hj
  rw [ho, hk, List.drop_eq_getElem_cons (by omega)] at h1
  simp only [List.take_succ_cons, List.take_zero] at h1
  exact ⟨cs[j]'(by omega), xs[j]'(by omega), n, List.getElem?_eq_getElem _, by rw [h1]; exact List.getElem?_eq_getElem _⟩
end
end Go.Proofs.Ytnonnencdhogiaa
