/-
  Layer 13's law: a step on both: At, Last.
-/
import Derived.Test.YtkfihfipnbbfcaaCR8
namespace Go.Proofs.Ytkfihfipnbbfcaa
open Go.RowKit
namespace Rf
open Cs (IsV only_grown walked ChIs Foot TellPost)

theorem PairIs.foot_lt {w : World} {q p : Nat} {v d : Value} {ls : List Lk} (h : PairIs w q p v d ls) (k : Nat) (hk : PFoot q p v d k) : k < w.heap.size := by
  rcases hk with rfl | hk | hk
  · exact h.blk.lt
  · rcases hk with rfl | hk
    · exact h.ch.blk.lt
    · exact (World.ownsRow.lt h.ch.row k hk).2
  · exact h.doc.lt hk

theorem only3 {w : World} {c : Nat} {a1 a2 a3 : Value} : Only (· = c) w (((w.setCell ⟨c, 0, none⟩ a1).setCell ⟨c, 1, none⟩ a2).setCell ⟨c, 2, none⟩ a3) :=
  Only.put (S := (· = c)) (Only.put (S := (· = c)) (Only.put (S := (· = c)) (Only.refl (· = c) w) (.inl rfl) a1) (.inl rfl) a2) (.inl rfl) a3
theorem blk3 {w : World} {c : Nat} {x1 x2 x3 a1 a2 a3 : Value} (h : Blk w c 65 #[x1, x2, x3]) : Blk (((w.setCell ⟨c, 0, none⟩ a1).setCell ⟨c, 1, none⟩ a2).setCell ⟨c, 2, none⟩ a3) c 65 #[a1, a2, a3] := ((h.put 0 a1).put 1 a2).put 2 a3

theorem c0 {w : World} {q p : Nat} {d : Value} (h : Blk w q 58 #[.pointer (some ⟨p, 0, none⟩), d]) : w.cell? ⟨q, 0, none⟩ = some (.pointer (some ⟨p, 0, none⟩)) := h.cellv 0 rfl
theorem x1 {w : World} {b : Nat} {k n x y : Value} (h : Blk w b 61 #[k, n, x, y]) : w.cell? ⟨b, 1, none⟩ = some n := h.cellv 1 rfl

theorem far3 {w : World} {c b i : Nat} {a1 a2 a3 v : Value} (h : b ≠ c) (hc : w.cell? ⟨b, i, none⟩ = some v) :
    (((w.setCell ⟨c, 0, none⟩ a1).setCell ⟨c, 1, none⟩ a2).setCell ⟨c, 2, none⟩ a3).cell? ⟨b, i, none⟩ = some v := by
  have g : ∀ (u : World) (j : Nat) (a : Value), (u.setCell ⟨c, j, none⟩ a).cell? ⟨b, i, none⟩ = u.cell? ⟨b, i, none⟩ := fun u j a => World.cell?_of_block (Below.heap_setCell u ⟨c, j, none⟩ a b h)
  rw [g, g, g]
  exact hc

set_option maxRecDepth 100000 in
set_option maxHeartbeats 1000000 in
theorem step_at' (w : World) (q p : Nat) (v d : Value) (ls : List Lk) (n : Int) (x : ByteArray) (dead : Bool) (h : PairIs w q p v d ls) (st : Int) (y : ByteArray) (b is : Bool) (a : Int)
    (HA : Hid (∀ u, PairIs u q p v d ls → Calls Try.prog 34 #[.pointer (some ⟨p, 0, none⟩), .int .i64 n] u (TellPost #[.int .i64 st, .string y, .bool b] is u)))
    (HR : Hid (∀ u, PairIs u q p v d ls → Calls Try.prog 52 #[d, .int .i64 n] u (fun e w' => e = .returned (.int .i64 a) ∧ u = w')))
    (HT : Hid (∀ u, PairIs u q p v d ls → Calls Try.prog 51 #[.pointer (some ⟨q, 0, none⟩), .agg #[.int .i64 st, .string y, .bool b], .bool is, .int .i64 a] u (TruePost u))) :
    Calls Try.prog 33 #[.pointer (some ⟨q, 0, none⟩), .agg #[.int .i64 2, .int .i64 n, .string x, .bool dead]] w (StepPost q p v d ls w) := by
  have HH := Lib.hid h
  have hA := h.keep ((Only.refl NoneOf w).alloc (.cells #[.int .i64 2, .int .i64 n, .string x, .bool dead] 61))
  have hB := Blk.new w 61 #[.int .i64 2, .int .i64 n, .string x, .bool dead]
  have hO := Lib.hid ((Only.refl NoneOf w).alloc (.cells #[.int .i64 2, .int .i64 n, .string x, .bool dead] 61))
  have hql := h.blk.lt
  clear h
  go_enter Try.func33, Try.ntmps33
  go_wp2_with fail
  generalize w.alloc (.cells #[.int .i64 2, .int .i64 n, .string x, .bool dead] 61) = W at *
  have b1 := x1 (hB)
  have q0 := c0 (hA.blk)
  have hlt := hB.lt
  have hqW := hA.blk.lt
  have e1 : q ≠ W.heap.size := by omega
  have e2 : w.heap.size ≠ W.heap.size := by omega
  have hO1 := Lib.hid hO.out.drew
  have q0d := c0 (hA.blk.drew)
  have b1d := x1 (hB.drew)
  have q0w := c0 (hA.blk.alloc (.cells #[.int .i64 0, .string ⟨#[]⟩, .bool false] 65))
  have b1w := x1 (hB.alloc (.cells #[.int .i64 0, .string ⟨#[]⟩, .bool false] 65))
  have q0wd := c0 (hA.blk.alloc (.cells #[.int .i64 0, .string ⟨#[]⟩, .bool false] 65)).drew
  have b1wd := x1 (hB.alloc (.cells #[.int .i64 0, .string ⟨#[]⟩, .bool false] 65)).drew
  go_region_held3 (fun w' => w'.cell? ⟨q, 0, none⟩ = some (.pointer (some ⟨p, 0, none⟩)) ∧ w'.cell? ⟨w.heap.size, 1, none⟩ = some (.int .i64 n))
    (first | with_reducible exact ⟨q0, b1⟩ | with_reducible exact ⟨q0d, b1d⟩ | with_reducible exact ⟨q0', b1'⟩ | with_reducible exact ⟨far3 e1 q0', far3 e2 b1'⟩ | with_reducible exact ⟨far3 e3 q0a, far3 e4 b1a⟩ | with_reducible exact ⟨q0a, b1a⟩ | with_reducible exact ⟨q0w, b1w⟩ | with_reducible exact ⟨q0wd, b1wd⟩ | with_reducible exact ⟨q0b, b1b⟩)
    (first
      | (go_at_call 34; refine (HA.out W.drew (hA.keep (Only.refl NoneOf W).drew)).mono ?_; rintro e w5 ⟨rfl, ho5⟩; have hP5 := (hA.keep (Only.refl NoneOf W).drew).keep ho5; have hB5 := hB.drew.only ho5 (fun h => h); have q0' := c0 (hP5.blk); have b1' := x1 (hB5); have q0a := c0 (hP5.blk.alloc (.cells #[.int .i64 0, .string ⟨#[]⟩, .bool false] 65)); have b1a := x1 (hB5.alloc (.cells #[.int .i64 0, .string ⟨#[]⟩, .bool false] 65)); have q0b := c0 (hP5.blk.alloc (.cells #[.int .i64 st, .string y, .bool b] 65)); have b1b := x1 (hB5.alloc (.cells #[.int .i64 st, .string y, .bool b] 65)); have e3 : q ≠ w5.heap.size := (by have := hP5.blk.lt; omega); have e4 : w.heap.size ≠ w5.heap.size := (by have := hB5.lt; omega); have HO5 := Lib.hid (hO1.out.trans ho5); clear ho5)
      | (go_at_call 34; refine (HA.out (W.alloc (.cells #[.int .i64 0, .string ⟨#[]⟩, .bool false] 65)).drew (hA.keep ((Only.refl NoneOf W).alloc _).drew)).mono ?_; rintro e w5 ⟨rfl, ho5⟩; have hP5 := (hA.keep ((Only.refl NoneOf W).alloc (.cells #[.int .i64 0, .string ⟨#[]⟩, .bool false] 65)).drew).keep ho5; have hB5 := (hB.alloc (.cells #[.int .i64 0, .string ⟨#[]⟩, .bool false] 65)).drew.only ho5 (fun h => h); have hN5 := (Blk.new W 65 #[.int .i64 0, .string ⟨#[]⟩, .bool false]).drew.only ho5 (fun h => h); have q0' := c0 (hP5.blk); have b1' := x1 (hB5); have n0 := hN5.cellv 0 rfl; have n1 := hN5.cellv 1 rfl; have n2 := hN5.cellv 2 rfl; have f0 := hN5.free 0; have f1 := hN5.free 1; have f2 := hN5.free 2; have HO5 := Lib.hid ((hO.out.alloc (.cells #[.int .i64 0, .string ⟨#[]⟩, .bool false] 65)).drew.trans ho5); clear ho5))
  all_goals
    first
    | (have e5 := e3
       clear e5
       have hN6 := Blk.new w5 65 #[.int .i64 st, .string y, .bool b]
       have hP6 := hP5.keep ((Only.refl NoneOf w5).alloc (.cells #[.int .i64 st, .string y, .bool b] 65))
       have hB6 := hB5.alloc (.cells #[.int .i64 st, .string y, .bool b] 65)
       have HO6 := Lib.hid (HO5.out.alloc (.cells #[.int .i64 st, .string y, .bool b] 65))
       clear e3 e4 q0b b1b q0a b1a
       generalize w5.alloc (.cells #[.int .i64 st, .string y, .bool b] 65) = V at *
       generalize w5.heap.size = c at *)
    | (have hN6 : Blk (((w5.setCell ⟨W.heap.size, 0, none⟩ (.int .i64 st)).setCell ⟨W.heap.size, 1, none⟩ (.string y)).setCell ⟨W.heap.size, 2, none⟩ (.bool b)) W.heap.size 65 #[.int .i64 st, .string y, .bool b] := blk3 hN5
       have hS : Only (· = W.heap.size) w5 (((w5.setCell ⟨W.heap.size, 0, none⟩ (.int .i64 st)).setCell ⟨W.heap.size, 1, none⟩ (.string y)).setCell ⟨W.heap.size, 2, none⟩ (.bool b)) := only3
       have hP6 := hP5.only hS (fun k hk e => by have := hA.foot_lt k hk; omega)
       have hB6 := hB5.only hS e2
       have HO6 := Lib.hid (HO5.out.step hS (fun k hk e => by omega))
       clear hS hN5 n0 n1 n2 f0 f1 f2
       generalize (((w5.setCell ⟨W.heap.size, 0, none⟩ (.int .i64 st)).setCell ⟨W.heap.size, 1, none⟩ (.string y)).setCell ⟨W.heap.size, 2, none⟩ (.bool b)) = V at *
       generalize W.heap.size = c at *)
  all_goals
    clear HO5 hP5 hB5 q0' b1' q0wd b1wd q0w b1w q0d b1d q0 b1
    have n0 := hN6.cellv 0 rfl
    have n1 := hN6.cellv 1 rfl
    have n2 := hN6.cellv 2 rfl
    have q1 := hP6.blk.cellv 1 rfl
    have b1 := x1 hB6
    go_wp2_with fail
    go_region_held3 (fun w' => w'.cell? ⟨q, 1, none⟩ = some d ∧ w'.cell? ⟨w.heap.size, 1, none⟩ = some (.int .i64 n) ∧ w'.cell? ⟨c, 0, none⟩ = some (.int .i64 st) ∧ w'.cell? ⟨c, 1, none⟩ = some (.string y) ∧ w'.cell? ⟨c, 2, none⟩ = some (.bool b))
      (first | exact ⟨q1, b1, n0, n1, n2⟩ | exact ⟨q1', b1', n0', n1', n2'⟩)
      (first
        | (go_at_call 52; refine (HR.out V.drew (hP6.keep (Only.refl NoneOf V).drew)).mono ?_; rintro e w6 ⟨rfl, rfl⟩)
        | (go_at_call 51; refine (HT.out V.drew (hP6.keep (Only.refl NoneOf V).drew)).mono ?_; rintro e w7 ⟨rfl, ho7⟩; have q1' := (hP6.blk.drew.only ho7 (fun h => h)).cellv 1 rfl; have b1' := x1 (hB6.drew.only ho7 (fun h => h)); have n0' := (hN6.drew.only ho7 (fun h => h)).cellv 0 rfl; have n1' := (hN6.drew.only ho7 (fun h => h)).cellv 1 rfl; have n2' := (hN6.drew.only ho7 (fun h => h)).cellv 2 rfl; have HO7 := Lib.hid (HO6.out.drew.trans ho7); clear ho7))
    clear q1 b1 n0 n1 n2 q1' b1' n0' n1' n2'
    go_wp2_with fail
    go_ret
    exact pair_same HH.out HO7.out

theorem step_at (w : World) (q p : Nat) (v d : Value) (ls : List Lk) (n : Int) (x : ByteArray) (dead : Bool) (h : PairIs w q p v d ls) :
    Calls Try.prog 33 #[.pointer (some ⟨q, 0, none⟩), .agg #[.int .i64 2, .int .i64 n, .string x, .bool dead]] w (StepPost q p v d ls w) := by
  rcases hc : cnt ls n with _ | m
  · have h1 : ∀ u, PairIs u q p v d ls → Calls Try.prog 34 #[.pointer (some ⟨p, 0, none⟩), .int .i64 n] u (TellPost #[.int .i64 0, .string ⟨#[]⟩, .bool false] false u) := fun u hu => Cs.at_none u p v ls n hu.ch hc
    have h2 : ∀ u, PairIs u q p v d ls → Calls Try.prog 52 #[d, .int .i64 n] u (fun e w' => e = .returned (.int .i64 (-1)) ∧ u = w') := fun u hu => at_none u d ls n hu.doc hc
    have h3 : ∀ u, PairIs u q p v d ls → Calls Try.prog 51 #[.pointer (some ⟨q, 0, none⟩), .agg #[.int .i64 0, .string ⟨#[]⟩, .bool false], .bool false, .int .i64 (-1)] u (TruePost u) := fun u _ => tell_no u q
    exact step_at' w q p v d ls n x dead h 0 ⟨#[]⟩ false false (-1) (Lib.hid h1) (Lib.hid h2) (Lib.hid h3)
  · have hm : m < ls.length := by have := cnt_le ls n; omega
    have hl : ls[m]? = some (ls[m]'hm) := List.getElem?_eq_getElem _
    obtain ⟨y, hy⟩ := h.doc.vals _ (List.mem_of_getElem? hl)
    generalize ls[m]'hm = l at *
    obtain ⟨st, val, b⟩ := l
    simp only at hy
    subst hy
    have h1 : ∀ u, PairIs u q p v d ls → Calls Try.prog 34 #[.pointer (some ⟨p, 0, none⟩), .int .i64 n] u (TellPost #[.int .i64 st, .string y, .bool b] true u) := fun u hu => Cs.at_has u p v ls n m ⟨st, .string y, b⟩ hu.ch hc hl
    have h2 : ∀ u, PairIs u q p v d ls → Calls Try.prog 52 #[d, .int .i64 n] u (fun e w' => e = .returned (.int .i64 m) ∧ u = w') := fun u hu => at_some u d ls n m hu.doc hc
    have h3 : ∀ u, PairIs u q p v d ls → Calls Try.prog 51 #[.pointer (some ⟨q, 0, none⟩), .agg #[.int .i64 st, .string y, .bool b], .bool true, .int .i64 m] u (TruePost u) := fun u hu => tell_yes u q p v d ls m ⟨st, .string y, b⟩ hu hl
    exact step_at' w q p v d ls n x dead h st y b true m (Lib.hid h1) (Lib.hid h2) (Lib.hid h3)

end Rf
end Go.Proofs.Ytkfihfipnbbfcaa
