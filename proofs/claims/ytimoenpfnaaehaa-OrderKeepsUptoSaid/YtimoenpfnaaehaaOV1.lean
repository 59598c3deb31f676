/-
  Layer 4: slices of items and of documents made from Raws (functions 28, 30).
-/
import Derived.Test.YtimoenpfnaaehaaOU1
import Derived.Test.YtimoenpfnaaehaaOOpen
import Derived.Deep.MidRow
import Derived.Laws.MakeOwn
namespace Go.Proofs.Ytimoenpfnaaehaa
open Go.RowKit

/-- Rows of cells in memory, one after another, each of n cells. -/
def RowsAt (w : World) (A : Option Addr) (n : Nat) (rows : List (List Value)) : Prop :=
  ∀ (i : Nat) (r : List Value), rows[i]? = some r → ∃ g off, A = some ⟨g, off, none⟩ ∧ g < w.heap.size ∧ w.rangeAt g (off + i * n) r

theorem rangeAt_keep {w w' : World} {g o : Nat} {cs : List Value} (h : w.rangeAt g o cs) (hg : g < w.heap.size) (ho : Only NoneOf w w') : w'.rangeAt g o cs :=
  fun j v hv => ((bcell ho).1 g _ hg).trans (h j v hv)
theorem there_keep {w w' : World} {g o n : Nat} (h : w.there g o n) (hg : g < w.heap.size) (ho : Only NoneOf w w') : w'.there g o n := fun j hj => by
  have hc := bcell ho
  rw [hc.1 g _ hg, hc.2 g _ hg]
  exact h j hj
theorem RowsAt.keep {w w' : World} {A : Option Addr} {n : Nat} {rows : List (List Value)} (h : RowsAt w A n rows) (ho : Only NoneOf w w') : RowsAt w' A n rows := fun i r hr => by
  obtain ⟨g, off, hA, hg, h1⟩ := h i r hr
  exact ⟨g, off, hA, Nat.lt_of_lt_of_le hg ho.size, rangeAt_keep h1 hg ho⟩

theorem raws_rows {w : World} {A : Option Addr} {xs : List It} (h : RawsAt w A xs) : RowsAt w A 7 (xs.map fun x => x.r.toList) := fun i r hr => by
  rw [List.getElem?_map] at hr
  obtain ⟨x, hx, rfl⟩ := Option.map_eq_some_iff.1 hr
  obtain ⟨g, off, hA, hg, c0, c1, c2, c3, c4, c5, c6⟩ := h i x hx
  refine ⟨g, off, hA, hg, fun j v hv => ?_⟩
  match j, hv with
  | 0, hv => cases hv; exact c0
  | 1, hv => cases hv; exact c1
  | 2, hv => cases hv; exact c2
  | 3, hv => cases hv; exact c3
  | 4, hv => cases hv; exact c4
  | 5, hv => cases hv; exact c5
  | 6, hv => cases hv; exact c6
  | j + 7, hv => simp at hv

/-- What a call that makes a slice of rows answers. -/
def RowsPost (m : Nat) (n : Nat) (rows : List (List Value)) (w : World) (e : Ending) (w' : World) : Prop :=
  ∃ B, e = .returned (.slice (some ⟨B, 0, none⟩) n n) ∧ w.heap.size ≤ B ∧ RowsAt w' (some ⟨B, 0, none⟩) m rows ∧ Only NoneOf w w'

def MkRel (nb m : Nat) (rows : List (List Value)) (w : World) (i : Value) (wr : World) : Prop :=
  Only NoneOf w wr ∧ nb < wr.heap.size ∧ wr.there nb 0 (rows.length * m) ∧ ∃ q : Nat, i = .int .i64 q ∧ q ≤ rows.length ∧ ∀ j r, j < q → rows[j]? = some r → wr.rangeAt nb (j * m) r

theorem there_new (w : World) (t : TypeId) (cs : Array Value) : (w.alloc (.cells cs t)).there w.heap.size 0 cs.size := fun j hj => by
  have hB := Blk.new w t cs
  exact ⟨by rw [Nat.zero_add, hB.cell j]; simp [hj], hB.free _⟩

theorem made_of {e m : Nat} (h : ((Try.prog.info? e).bind fun i => i.zero.map fun _ => (i.bytes, i.size)) = some (64, m)) : ∃ (i : TypeInfo) (z : Value), Try.prog.info? e = some i ∧ i.zero = some z ∧ i.bytes = 64 ∧ i.size = m := by
  obtain ⟨i, hi, h⟩ := Option.bind_eq_some_iff.1 h
  obtain ⟨z, hz, h⟩ := Option.map_eq_some_iff.1 h
  injection h with h1 h2
  exact ⟨i, z, hi, hz, h1, h2⟩
theorem made29 : ∃ (i : TypeInfo) (z : Value), Try.prog.info? 29 = some i ∧ i.zero = some z ∧ i.bytes = 64 ∧ i.size = 6 := made_of (by kernel_rfl)
theorem made32 : ∃ (i : TypeInfo) (z : Value), Try.prog.info? 32 = some i ∧ i.zero = some z ∧ i.bytes = 64 ∧ i.size = 7 := made_of (by kernel_rfl)

/-- A new slice of n rows. -/
theorem make_rows (t e m n : Nat) (w : World) (ht : Try.prog.underlying t = some (.slice e)) (h : ∃ (i : TypeInfo) (z : Value), Try.prog.info? e = some i ∧ i.zero = some z ∧ i.bytes = 64 ∧ i.size = m) (hn : n ≤ 4398046511104) :
    ∃ cs : Array Value, cs.size = n * m ∧ (Instr.makeSlice t (.int .i64 n) (.int .i64 n)).run Try.prog w = .ok (.slice (some ⟨w.heap.size, 0, none⟩) n n) (w.alloc (.cells cs e)) := by
  obtain ⟨i, z, h1, h2, h3, h4⟩ := h
  have hm := run_make (P := Try.prog) w t e i z ht h1 h2 .i64 .i64 n n (by omega) (by omega) (by rw [h3]; omega) (by omega)
  simp only [Int.toNat_natCast] at hm
  rw [h4] at hm
  exact ⟨_, size_madeCells _ _, hm⟩

theorem Only.cells {S : Nat → Prop} {w : World} {b : Nat} (hb : S b ∨ w.heap.size ≤ b) : ∀ (vs : List Value) (o : Nat) {w' : World}, Only S w w' → Only S w (w'.setCells b o vs)
  | [], _, _, h => h
  | v :: vs, o, _, h => by
    rw [World.setCells]
    exact Only.cells hb vs (o + 1) (h.put hb v)

/-- one row more -/
theorem MkRel.next {nb m : Nat} {rows : List (List Value)} {w wr : World} {q : Nat} {r : List Value} (ho : Only NoneOf w wr) (hl : nb < wr.heap.size) (hnb : w.heap.size ≤ nb) (ht : wr.there nb 0 (rows.length * m)) (hq : q < rows.length) (hr : rows[q]? = some r) (hm : r.length = m)
    (hrows : ∀ j r, j < q → rows[j]? = some r → wr.rangeAt nb (j * m) r) (hlen : ∀ r ∈ rows, r.length = m) : MkRel nb m rows w (.int .i64 ((q + 1 : Nat) : Int)) (wr.setCells nb (q * m) r) := by
  have ht' : wr.there nb (q * m) r.length := fun j hj => by
    have : q * m + j < rows.length * m := by
      have h1 : (q + 1) * m ≤ rows.length * m := Nat.mul_le_mul_right m hq
      rw [Nat.add_mul, Nat.one_mul] at h1
      omega
    have := ht (q * m + j) this
    rwa [Nat.zero_add] at this
  refine ⟨ho.cells (.inr hnb) _ _, ?_, ?_, q + 1, rfl, hq, fun j r' hj hr' => ?_⟩
  · exact Nat.lt_of_lt_of_le hl (Only.cells (S := fun i => i = nb) (.inl rfl) r (q * m) (Only.refl _ wr)).size
  · exact World.there_setCells ht _ _ _
  · by_cases e : j = q
    · subst e
      obtain rfl : r = r' := Option.some.inj (hr.symm.trans hr')
      exact World.rangeAt_setCells_same _ _ _ _ ht'
    · have h1 : (j + 1) * m ≤ q * m := Nat.mul_le_mul_right m (by omega)
      rw [Nat.add_mul, Nat.one_mul] at h1
      exact World.rangeAt_setCells_apart (hrows j r' (by omega) hr') _ _ _ (.inr (.inl (by rw [hlen r' (List.mem_of_getElem? hr')]; omega)))

theorem store29 {ops : Array Oper} {rest : List Oper} {op : Oper} {a : Act} {w : World} {Q : Exit → Act → World → Prop} (hgd : op.guard = none) (x y : Operand) (ho : op.op = .store 29 x y) (g q : Nat) (k : Int) (b : Bool) (n : Int) (f re im : Nat) (t : ByteArray)
    (hx : a.eval x = .pointer (some ⟨g, q * 6, none⟩)) (hy : a.eval y = .agg (itC k b n f re im t)) (ht : w.there g (q * 6) 6)
    (h : wpList Try.prog ops Q rest (a.put op.dst undef) (w.setCells g (q * 6) (It.c ⟨k, b, n, f, re, im, t⟩).toList)) : wpList Try.prog ops Q (op :: rest) a w :=
  wpList_store_mid hgd 29 x y ho g (q * 6) (itC k b n f re im t) hx hy ht info29 (one_itC k b n f re im t) h

set_option maxRecDepth 100000 in
set_option maxHeartbeats 1000000 in
theorem items_is (xs : List It) (A : Option Addr) (cap : Nat) (w : World) (hA : RawsAt w A xs) (hn : xs.length ≤ 4398046511104) : Calls Try.prog 28 #[.slice A xs.length cap] w (RowsPost 6 xs.length (xs.map fun x => x.c.toList) w) := by
  obtain ⟨cs, hcs, hm⟩ := make_rows 47 29 6 xs.length w Try.underlying47 made29 hn
  have hR := raws_rows hA
  clear hA
  go_enter Try.func28, Try.ntmps28
  go_wp2_with fail
  have hO := (Only.refl NoneOf w).alloc (.cells cs 29)
  have hT := there_new w 29 cs
  have hL : w.heap.size < (w.alloc (.cells cs 29)).heap.size := (Blk.new w 29 cs).lt
  rw [hcs] at hT
  generalize w.alloc (.cells cs 29) = W at *
  clear hcs hm
  go_loopw [4] (fun i wr => MkRel w.heap.size 6 (xs.map fun x => x.c.toList) w i wr) (fun i _ => xs.length - (intOf i).toNat)
  case atStart => exact ⟨hO, hL, by simpa using hT, 0, rfl, Nat.zero_le _, fun j r hj => absurd hj (by omega)⟩
  case round =>
    obtain ⟨ho, hl, ht, q, rfl, hq, hrows⟩ := hrel
    have HO := Lib.hid ho
    have HRW := Lib.hid hrows
    clear ho hrows
    simp only [List.length_map] at hq ht
    by_cases hlt : q < xs.length
    · obtain ⟨g, off, rfl, hg, hc⟩ := (hR.keep HO.out) q xs[q].r.toList (by simp [hlt])
      have hx : (xs.map fun x => x.c.toList)[q]? = some xs[q].c.toList := by simp [hlt]
      generalize xs[q] = x at *
      obtain ⟨k, b, n, f, re, im, t⟩ := x
      have HI := fun u => Lib.hid (item_is k b n f re im t u)
      go_wp2_with (refine wpList_load_mid rfl 25 (.tmp 18) rfl g (off + q * 7) rfl (It.r ⟨k, b, n, f, re, im, t⟩).toList _ hc Try.underlying25 rfl info25 ?_)
      refine (HI _).out.mono ?_; rintro e w1 ⟨rfl, ho1⟩
      have ht1 : w1.there w.heap.size (q * 6) 6 := fun j hj => by
        have := there_keep ht hl ho1 (q * 6 + j) (by omega)
        rwa [Nat.zero_add] at this
      go_wp2_with (first | (refine store29 rfl (.tmp 21) (.tmp 20) rfl w.heap.size q k b n f re im t (by simp [go_sem]) (by simp [go_sem]) (by with_reducible exact ht1) ?_) | fail)
      have hnext := MkRel.next (m := 6) (q := q) (nb := w.heap.size) (rows := xs.map fun x => x.c.toList) (r := (It.c ⟨k, b, n, f, re, im, t⟩).toList) (HO.out.trans ho1) (Nat.lt_of_lt_of_le hl ho1.size) (Nat.le_refl _) (there_keep (by simpa using ht) hl ho1) (by simpa using hlt) hx rfl (fun j r hj hr => rangeAt_keep (HRW.out j r hj hr) hl ho1) (fun r hr => by obtain ⟨x, _, rfl⟩ := List.mem_map.1 hr; rfl)
      go_roundw
      case rel => exact hnext
      case measure => simp [intOf]; omega
    · go_wp2_with fail
      go_ret
      exact ⟨w.heap.size, rfl, Nat.le_refl _, fun j r hj => ⟨w.heap.size, 0, rfl, hl, by
        rw [Nat.zero_add]
        have : j < xs.length := by
          have := (List.getElem?_eq_some_iff.1 hj).1
          simpa using this
        exact HRW.out j r (by omega) hj⟩, HO.out⟩


theorem store32 {ops : Array Oper} {rest : List Oper} {op : Oper} {a : Act} {w : World} {Q : Exit → Act → World → Prop} (hgd : op.guard = none) (x y : Operand) (ho : op.op = .store 32 x y) (g q : Nat) (k : Int) (b : Bool) (n : Int) (f re im : Nat) (t : ByteArray)
    (hx : a.eval x = .pointer (some ⟨g, q * 7, none⟩)) (hy : a.eval y = .agg (rwC k b n f re im t)) (ht : w.there g (q * 7) 7)
    (h : wpList Try.prog ops Q rest (a.put op.dst undef) (w.setCells g (q * 7) (It.r ⟨k, b, n, f, re, im, t⟩).toList)) : wpList Try.prog ops Q (op :: rest) a w :=
  wpList_store_mid hgd 32 x y ho g (q * 7) (rwC k b n f re im t) hx hy ht info32 (one_rwC k b n f re im t) h

set_option maxRecDepth 100000 in
set_option maxHeartbeats 1000000 in
theorem docs_is (xs : List It) (A : Option Addr) (cap : Nat) (w : World) (hA : RawsAt w A xs) (hn : xs.length ≤ 4398046511104) : Calls Try.prog 30 #[.slice A xs.length cap] w (RowsPost 7 xs.length (xs.map fun x => x.r.toList) w) := by
  obtain ⟨cs, hcs, hm⟩ := make_rows 51 32 7 xs.length w Try.underlying51 made32 hn
  have hR := raws_rows hA
  clear hA
  go_enter Try.func30, Try.ntmps30
  go_wp2_with fail
  have hO := (Only.refl NoneOf w).alloc (.cells cs 32)
  have hT := there_new w 32 cs
  have hL : w.heap.size < (w.alloc (.cells cs 32)).heap.size := (Blk.new w 32 cs).lt
  rw [hcs] at hT
  generalize w.alloc (.cells cs 32) = W at *
  clear hcs hm
  go_loopw [4] (fun i wr => MkRel w.heap.size 7 (xs.map fun x => x.r.toList) w i wr) (fun i _ => xs.length - (intOf i).toNat)
  case atStart => exact ⟨hO, hL, by simpa using hT, 0, rfl, Nat.zero_le _, fun j r hj => absurd hj (by omega)⟩
  case round =>
    obtain ⟨ho, hl, ht, q, rfl, hq, hrows⟩ := hrel
    have HO := Lib.hid ho
    have HRW := Lib.hid hrows
    clear ho hrows
    simp only [List.length_map] at hq ht
    by_cases hlt : q < xs.length
    · obtain ⟨g, off, rfl, hg, hc⟩ := (hR.keep HO.out) q xs[q].r.toList (by simp [hlt])
      have hx : (xs.map fun x => x.r.toList)[q]? = some xs[q].r.toList := by simp [hlt]
      generalize xs[q] = x at *
      obtain ⟨k, b, n, f, re, im, t⟩ := x
      have HI := fun u => Lib.hid (doc_is k b n f re im t u)
      go_wp2_with (refine wpList_load_mid rfl 25 (.tmp 18) rfl g (off + q * 7) rfl (It.r ⟨k, b, n, f, re, im, t⟩).toList _ hc Try.underlying25 rfl info25 ?_)
      refine (HI _).out.mono ?_; rintro e w1 ⟨rfl, ho1⟩
      have ht1 : w1.there w.heap.size (q * 7) 7 := fun j hj => by
        have := there_keep ht hl ho1 (q * 7 + j) (by omega)
        rwa [Nat.zero_add] at this
      go_wp2_with (first | (refine store32 rfl (.tmp 21) (.tmp 20) rfl w.heap.size q k b n f re im t (by simp [go_sem]) (by simp [go_sem]) (by with_reducible exact ht1) ?_) | fail)
      have hnext := MkRel.next (m := 7) (q := q) (nb := w.heap.size) (rows := xs.map fun x => x.r.toList) (r := (It.r ⟨k, b, n, f, re, im, t⟩).toList) (HO.out.trans ho1) (Nat.lt_of_lt_of_le hl ho1.size) (Nat.le_refl _) (there_keep (by simpa using ht) hl ho1) (by simpa using hlt) hx rfl (fun j r hj hr => rangeAt_keep (HRW.out j r hj hr) hl ho1) (fun r hr => by obtain ⟨x, _, rfl⟩ := List.mem_map.1 hr; rfl)
      go_roundw
      case rel => exact hnext
      case measure => simp [intOf]; omega
    · go_wp2_with fail
      go_ret
      exact ⟨w.heap.size, rfl, Nat.le_refl _, fun j r hj => ⟨w.heap.size, 0, rfl, hl, by
        rw [Nat.zero_add]
        have : j < xs.length := by
          have := (List.getElem?_eq_some_iff.1 hj).1
          simpa using this
        exact HRW.out j r (by omega) hj⟩, HO.out⟩

end Go.Proofs.Ytimoenpfnaaehaa
