/-
  Layer 4: what comes in where the whole is of a small bulk.
-/
import Derived.Test.YtimoenpfnaaehaaOPL
import Derived.JoinedCond
namespace Go.Proofs.Ytimoenpfnaaehaa
open Go.ChangeShapes Go.WideShapes Go.ChangeAt Go.RowKit Go.Deep

theorem bulk_one {H : Type} (d : DataW H) : 1 ≤ Rows.uptoBulk d := by
  cases d with
  | lit l => cases l <;> simp [Rows.uptoBulk]
  | nil => simp [Rows.uptoBulk]
  | ptr d => simp [Rows.uptoBulk]
  | slice elems spare => simp [Rows.uptoBulk]
  | agg parts => simp [Rows.uptoBulk]
  | iface t d => simp [Rows.uptoBulk]
  | map entries => simp [Rows.uptoBulk]
  | held h => simp [Rows.uptoBulk]
theorem bulk_part {H : Type} {d : DataW H} {l : List (DataW H)} (h : d ∈ l) : Rows.uptoBulk d ≤ Rows.uptoBulkAll l := by
  induction l with
  | nil => cases h
  | cons x r ih =>
    simp only [Rows.uptoBulkAll]
    cases List.mem_cons.1 h with
    | inl e => subst e; omega
    | inr e => have := ih e; omega
theorem bulk_length {H : Type} (l : List (DataW H)) : l.length ≤ Rows.uptoBulkAll l := by
  induction l with
  | nil => simp [Rows.uptoBulkAll]
  | cons x r ih => have := bulk_one x; simp only [Rows.uptoBulkAll, List.length_cons]; omega
theorem bulk_slice {H : Type} (D S : List (DataW H)) : Rows.uptoBulk (.slice D S) = Rows.uptoBulkAll D + Rows.uptoBulkAll S + 1 := by simp only [Rows.uptoBulk]
theorem bulk_string {H : Type} (t : ByteArray) : Rows.uptoBulk (DataW.lit (H := H) (.string t.data.toList)) = t.size + 1 := by
  simp [Rows.uptoBulk]
theorem bulk_of {H : Type} {l : List (DataW H)} (hk : Rows.uptoSmall H l = true) : Rows.uptoBulkAll l ≤ 1048576 := by
  unfold Rows.uptoSmall at hk
  exact of_decide_eq_true hk

section
variable {H : Type} {enc : TypeId × Value → H} {P : Program} {w : World} {base : Nat} {spare : Nat → Bool} {held : Bool}

/-- A slice's elements, each as the row of its cells. 'sz' is the element's number of cells. -/
theorem open_elemsU {t e : TypeId} {sz : Nat} {v : Value} {d : DataW H} {p : List MemPlace} (ht : P.underlying t = some (.slice e)) (hsz : P.cellsOf e = sz) (h0 : 0 < sz)
    (hv : ∃ a len cap, v = .slice a len cap) (h : DataW.Trod enc P w 0 (fun _ => true) held t v d p) :
    ∃ (A : Option Addr) (len cap : Nat), v = .slice A len cap ∧ len ≤ cap ∧ cap ≤ maxLen ∧
      (A = none ∧ len = 0 ∧ cap = 0 ∨ ∃ D S, d = .slice D S ∧ D.length = len ∧ D.length + S.length = cap) ∧
      ∀ i, i < len → ∃ (blk off : Nat) (cs : List Value) (n : Nat) (x : DataW H × List MemPlace), A = some ⟨blk, off, none⟩ ∧ blk < w.heap.size ∧ cs.length = sz ∧
        (∀ j v, cs[j]? = some v → w.cell? ⟨blk, off + i * sz + j, none⟩ = some v) ∧ DataW.trod enc P w 0 (fun _ => true) held n e cs = some x ∧ ∃ D S, d = .slice D S ∧ x.1 ∈ D := by
  obtain ⟨A, len, cap, rfl⟩ := hv
  obtain ⟨fuel, hf⟩ := h
  have hc1 : (Value.slice A len cap).cells.toList = [Value.slice A len cap] := by simp [Value.cells]
  rw [hc1] at hf
  rcases open_slice ht hf with ⟨h1, h2⟩ | ⟨a, len', cap', m, n, D, Pl, h1, _, hl, hm, hmm, hx, hi⟩
  · simp only [List.cons.injEq, Value.slice.injEq, and_true] at h1
    obtain ⟨rfl, rfl, rfl⟩ := h1
    exact ⟨none, 0, 0, rfl, Nat.le_refl _, Nat.zero_le _, .inl ⟨rfl, rfl, rfl⟩, fun i hi => absurd hi (by omega)⟩
  · simp only [List.cons.injEq, Value.slice.injEq, and_true] at h1
    obtain ⟨rfl, rfl, rfl⟩ := h1
    simp only [if_true] at hmm
    simp only [Prod.mk.injEq] at hx
    refine ⟨some a, len, cap, rfl, hl, hm, .inr ⟨_, _, hx.1, by simp, by simp; omega⟩, fun i hlt => ?_⟩
    obtain ⟨cs, hcs, htr⟩ := hi i (by omega)
    rw [hsz] at hcs
    obtain ⟨_, hlen, hat⟩ := World.cells?_some hcs
    have hcell : ∀ j v, cs[j]? = some v → w.cell? (a.add (i * sz + j)) = some v := by
      intro j v hj
      have hjl : j < sz := by rw [← hlen]; exact (List.getElem?_eq_some_iff.1 hj).1
      have := hat j hjl
      rw [Go.Deep.add_add, hj] at this
      exact this
    have h00 : cs[0]? = some (cs[0]'(by omega)) := List.getElem?_eq_getElem (by omega)
    have hc0 := hcell 0 _ h00
    have hadd : ∀ k, (a.add k).block = a.block := fun k => by unfold Addr.add; split <;> rfl
    have hb : a.block < w.heap.size := by
      have hbl := World.block_lt_of_cell? _ _ hc0
      rw [hadd] at hbl
      exact hbl
    have hsp : a.spot = none := by
      obtain ⟨cs0, hcs0, _⟩ := hi 0 (by omega)
      rw [hsz] at hcs0
      obtain ⟨_, hlen0, hat0⟩ := World.cells?_some hcs0
      have e0 := hat0 0 h0
      rw [Go.Deep.add_add, List.getElem?_eq_getElem (by omega)] at e0
      have e1 : (a.add (0 * sz + 0)) = a := by simp [Addr.add]
      rw [e1] at e0
      have := cell_place e0
      exact congrArg Addr.spot this
    refine ⟨a.block, a.off, cs, n, _, ?_, hb, hlen, fun j v hj => ?_, htr, _, _, hx.1, List.mem_map.2 ⟨i, List.mem_range.2 hlt, rfl⟩⟩
    · obtain ⟨x, y, z⟩ := a
      simp only at hsp
      rw [hsp]
    · have := hcell j v hj
      have e : a.add (i * sz + j) = ⟨a.block, a.off + i * sz + j, none⟩ := by
        unfold Addr.add
        split
        · rename_i hz
          obtain ⟨x, y, z⟩ := a
          simp only at hsp
          subst hsp
          simp only [Addr.mk.injEq, and_true, true_and]
          omega
        · simp only [Addr.mk.injEq, and_true, true_and]
          omega
      rw [e] at this
      exact this


theorem fields_in {t : TypeId} {fs : Array Field} {cs : List Value} {fuel : Nat} {x : DataW H × List MemPlace} (hs : P.underlying t = some (.struct fs)) (hone : oneCellFields P fs = true) (hC : P.cellsOf t = fs.size)
    (h : DataW.trod enc P w base spare held fuel t cs = some x) :
    ∃ parts, x.1 = .agg parts ∧ ∀ (j : Nat) (f : Field), fs[j]? = some f → ∃ (c : Value) (y : DataW H × List MemPlace) (n : Nat), cs[j]? = some c ∧ DataW.trod enc P w base spare held n f.type [c] = some y ∧ y.1 ∈ parts := by
  obtain ⟨xs, n, _, rfl, hcl, hlen, hg⟩ := DataW.trod_struct hs h
  have hl : cs.length = fs.size := by rw [← hC]; exact hcl
  refine ⟨xs.map (·.1), rfl, fun j f hj => ?_⟩
  obtain ⟨ho, hk⟩ := hone_of hone j f hj
  have hjl : j < fs.size := (Array.getElem?_eq_some_iff.1 hj).1
  have h1 := hg j f hj
  rw [ho, hk, List.drop_eq_getElem_cons (by omega)] at h1
  simp only [List.take_succ_cons, List.take_zero] at h1
  exact ⟨cs[j]'(by omega), xs[j]'(by omega), n, List.getElem?_eq_getElem _, by rw [h1]; exact List.getElem?_eq_getElem _, List.mem_map.2 ⟨_, List.getElem_mem _, rfl⟩⟩
end

/-- a Raw's text is part of its reading -/
theorem raw_bulk {H : Type} {enc : TypeId × Value → H} {w : World} {base : Nat} {spare : Nat → Bool} {held : Bool} {n : Nat} {x : DataW H × List MemPlace} {c0 c1 c2 c3 c4 c5 : Value} {t : ByteArray}
    (h : DataW.trod enc Try.prog w base spare held n 25 [c0, c1, c2, c3, c4, c5, .string t] = some x) : t.size + 1 ≤ Rows.uptoBulk x.1 := by
  obtain ⟨parts, hp, hf⟩ := fields_in Try.underlying25 (by kernel_rfl) (by kernel_rfl) h
  obtain ⟨c, y, m, hc, h6, hin⟩ := hf 6 _ rfl
  obtain rfl : .string t = c := by simpa using hc
  obtain ⟨s, h7, rfl, _⟩ := DataW.trod_string Try.underlying9 h6
  obtain rfl : t = s := by simpa using h7
  have := bulk_part hin
  rw [bulk_string] at this
  rw [hp]
  simp only [Rows.uptoBulk]
  omega

theorem open_rawsU {H : Type} {enc : TypeId × Value → H} {w : World} {held : Bool} {v : Value} {d : DataW H} {p : List MemPlace}
    (hv : ∃ a len cap, v = .slice a len cap) (h : DataW.Trod enc Try.prog w 0 (fun _ => true) held 44 v d p) :
    ∃ A cap, ∃ s : List It, v = .slice A s.length cap ∧ s.length ≤ cap ∧ (cap ≤ Rows.uptoBulk d) ∧ RawsAt w A s ∧ (∀ x ∈ s, x.Raw) ∧ ∀ x ∈ s, x.t.size ≤ Rows.uptoBulk d := by
  obtain ⟨A, n, cap, rfl, hl, hm, hdd, hi⟩ := open_elemsU (sz := 7) Try.underlying44 (by kernel_rfl) (by omega) hv h
  have hx : ∀ i, i < n → ∃ x : It, x.Raw ∧ x.t.size ≤ Rows.uptoBulk d ∧ ∃ (g off : Nat), A = some ⟨g, off, none⟩ ∧ g < w.heap.size ∧ w.cell? ⟨g, off + i * 7, none⟩ = some (.int .i64 x.k) ∧ w.cell? ⟨g, off + i * 7 + 1, none⟩ = some (.bool x.b) ∧ w.cell? ⟨g, off + i * 7 + 2, none⟩ = some (.int .i64 x.n) ∧
      w.cell? ⟨g, off + i * 7 + 3, none⟩ = some (.int .u64 (x.f : Int)) ∧ w.cell? ⟨g, off + i * 7 + 4, none⟩ = some (.int .u64 (x.re : Int)) ∧ w.cell? ⟨g, off + i * 7 + 5, none⟩ = some (.int .u64 (x.im : Int)) ∧ w.cell? ⟨g, off + i * 7 + 6, none⟩ = some (.string x.t) := by
    intro i hlt
    obtain ⟨blk, off, cs, m, x, hA, hb, hlen, hc, ht, D, S, hd, hin⟩ := hi i hlt
    obtain ⟨_, hf⟩ := fields_of Try.underlying25 (by kernel_rfl) (by kernel_rfl) ht
    obtain ⟨y, hy, rfl⟩ := raw_cells hlen (hf 0 _ rfl) (hf 1 _ rfl) (hf 2 _ rfl) (hf 3 _ rfl) (hf 4 _ rfl) (hf 5 _ rfl) (hf 6 _ rfl)
    have h1 := raw_bulk ht
    have h2 := bulk_part hin
    refine ⟨y, hy, ?_, blk, off, hA, hb, hc 0 _ rfl, hc 1 _ rfl, hc 2 _ rfl, hc 3 _ rfl, hc 4 _ rfl, hc 5 _ rfl, hc 6 _ rfl⟩
    rw [hd, bulk_slice]
    omega
  obtain ⟨s, hs, hp⟩ := list_of n hx
  subst hs
  have hz : ∀ x ∈ s, ∃ i, s[i]? = some x := fun x hx => by
    obtain ⟨i, hi, rfl⟩ := List.getElem_of_mem hx
    exact ⟨i, List.getElem?_eq_getElem hi⟩
  refine ⟨A, cap, s, rfl, hl, ?_, fun i x hsi => (hp i x hsi).2.2, fun x hx => ?_, fun x hx => ?_⟩
  · rcases hdd with ⟨_, _, h0⟩ | ⟨D, S, rfl, h1, h2⟩
    · omega
    · have := bulk_length D
      have := bulk_length S
      rw [bulk_slice]
      omega
  · obtain ⟨i, hi⟩ := hz x hx
    exact (hp i x hi).1
  · obtain ⟨i, hi⟩ := hz x hx
    exact (hp i x hi).2.1

/-- what the bound says of one argument -/
theorem bulk_arg {H : Type} {l : List (DataW H)} {d : DataW H} (hk : Rows.uptoSmall H l = true) (j : Nat) (h : l[j]? = some d) : Rows.uptoBulk d ≤ 1048576 :=
  Nat.le_trans (bulk_part (List.mem_of_getElem? h)) (bulk_of hk)

end Go.Proofs.Ytimoenpfnaaehaa
