/-
  Layer 13's law: a pair, and what it tells beside the document's.
-/
import Derived.Test.YtkfihfipnbbfcaaCR5
namespace Go.Proofs.Ytkfihfipnbbfcaa
open Go.RowKit
namespace Rf
open Cs (IsV only_grown walked ChIs Foot)

/-- A pair: the program's chain and the document's links, both of the same links. -/
structure PairIs (w : World) (q p : Nat) (v d : Value) (ls : List Lk) : Prop where
  blk : Blk w q 58 #[.pointer (some ⟨p, 0, none⟩), d]
  ch : ChIs w p v ls
  doc : DocIs w d ls
  qf : ¬ Foot p v q
  df : ∀ g, d.ownBlock = some g → ¬ Foot p v g ∧ g ≠ q

/-- The pair's own blocks. -/
def PFoot (q p : Nat) (v d : Value) (k : Nat) : Prop := k = q ∨ Foot p v k ∨ d.ownBlock = some k

theorem PairIs.only {S : Nat → Prop} {w w' : World} {q p : Nat} {v d : Value} {ls : List Lk} (h : PairIs w q p v d ls) (ho : Only S w w') (hs : ∀ k, PFoot q p v d k → ¬ S k) : PairIs w' q p v d ls :=
  ⟨h.blk.only ho (hs _ (.inl rfl)), h.ch.only ho (fun _ hk => hs _ (.inr (.inl hk))), h.doc.only ho (fun _ hg => hs _ (.inr (.inr hg))), h.qf, h.df⟩
theorem PairIs.keep {w w' : World} {q p : Nat} {v d : Value} {ls : List Lk} (h : PairIs w q p v d ls) (ho : Only NoneOf w w') : PairIs w' q p v d ls := h.only ho (fun _ _ h => h)

/-- How a call ends that answers true and changes nothing. -/
def TruePost (w : World) (e : Ending) (w' : World) : Prop := e = .returned (.bool true) ∧ Only NoneOf w w'

set_option maxHeartbeats 400000 in
theorem tell_no (w : World) (q : Nat) : Calls Try.prog 51 #[.pointer (some ⟨q, 0, none⟩), .agg Cs.zeroLk, .bool false, .int .i64 (-1)] w (TruePost w) := by
  go_enter Try.func51, Try.ntmps51
  go_wp2_with fail
  refine (Cs.alike_same 0 ⟨#[]⟩ false _).mono ?_; rintro e w1 ⟨rfl, ho⟩
  have hO := Lib.hid (((Only.refl NoneOf w).alloc _).trans ho)
  go_wp2_with fail
  go_ret
  exact ⟨rfl, hO.out⟩

set_option maxRecDepth 100000 in
set_option maxHeartbeats 1000000 in
theorem tell_yes (w : World) (q p : Nat) (v d : Value) (ls : List Lk) (m : Nat) (l : Lk) (h : PairIs w q p v d ls) (hl : ls[m]? = some l) :
    Calls Try.prog 51 #[.pointer (some ⟨q, 0, none⟩), .agg l.cells.toArray, .bool true, .int .i64 m] w (TruePost w) := by
  obtain ⟨x, hx⟩ := h.doc.vals l (List.mem_of_getElem? hl)
  have hA := h.keep ((Only.refl NoneOf w).alloc (.cells l.cells.toArray 65))
  have hq0 := hA.blk.cellv 0 rfl
  have hq1 := hA.blk.cellv 1 rfl
  have hlt := h.blk.lt
  have hml : m < ls.length := (List.getElem?_eq_some_iff.1 hl).1
  rcases form hA.doc.row hA.doc.vals with ⟨rfl, h1⟩ | ⟨g, cap, rfl, hcap, hg, hcs⟩
  · subst h1; simp at hml
  · obtain ⟨x', hx', e0, e1, e2⟩ := hcs m l hl
    obtain rfl : x = x' := by rw [hx] at hx'; injection hx'
    have hB := Blk.new w 65 l.cells.toArray
    clear hcs h hA hl hx'
    obtain ⟨st, val, dead⟩ := l
    simp only at e0 e1 e2 hx
    subst hx
    simp only [Lk.cells] at *
    have b0 := hB.cellv 0 rfl
    have b1 := hB.cellv 1 rfl
    have b2 := hB.cellv 2 rfl
    have hlt2 := hB.lt
    have hnn : decide ((m : Int) < 0) = false := by simp
    go_enter Try.func51, Try.ntmps51
    go_wp2_with fail
    have hO := Lib.hid ((Only.refl NoneOf w).alloc (.cells #[.int .i64 st, .string x, .bool dead] 65))
    generalize w.alloc (.cells #[.int .i64 st, .string x, .bool dead] 65) = W at *
    go_still_tail 10, (by kernel_rfl)
    change wpList _ _ _ _ _ W.drew
    have hO1 := Lib.hid hO.out.drew
    generalize W.drew = w2 at *
    go_wp2_with fail
    refine (Cs.alike_same st x dead _).mono ?_; rintro e w3 ⟨rfl, ho3⟩
    have hO3 := Lib.hid (hO1.out.trans ho3)
    go_wp2_with fail
    go_ret
    exact ⟨rfl, hO3.out⟩

end Rf
end Go.Proofs.Ytkfihfipnbbfcaa
