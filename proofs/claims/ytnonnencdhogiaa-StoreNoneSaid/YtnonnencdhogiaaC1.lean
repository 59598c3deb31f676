/-
  Layer 13: a chain's links as numbers and values; what counts at a stamp. No program here.
-/
import Derived.Test.YtnonnencdhogiaaHeap
import Derived.WalkKit
namespace Go.Proofs.Ytnonnencdhogiaa
open Go.RowKit

/-- A link: its value as the cell that holds it. -/
structure Lk where
  stamp : Int
  val : Value
  dead : Bool

def Lk.cells (l : Lk) : List Value := [.int .i64 l.stamp, l.val, .bool l.dead]
def flat (ls : List Lk) : List Value := ls.flatMap Lk.cells

theorem flat_length (ls : List Lk) : (flat ls).length = ls.length * 3 := by
  induction ls with
  | nil => rfl
  | cons l ls ih => simp only [flat, List.flatMap_cons, List.length_append, List.length_cons, Lk.cells, List.length_nil] at ih ⊢; omega
theorem flat_append (a b : List Lk) : flat (a ++ b) = flat a ++ flat b := by simp [flat]
theorem flat_one (l : Lk) : flat [l] = l.cells := by simp [flat]
theorem flat_drop (ls : List Lk) (k : Nat) : (flat ls).drop (k * 3) = flat (ls.drop k) := by
  induction ls generalizing k with
  | nil => simp [flat]
  | cons l ls ih =>
    cases k with
    | zero => simp
    | succ k =>
      have e : (k + 1) * 3 = 3 + k * 3 := by omega
      rw [e, List.drop_succ_cons, ← ih k]
      show ((l.cells ++ flat ls).drop (3 + k * 3)) = _
      rw [List.drop_append]
      have : l.cells.length = 3 := rfl
      rw [this, List.drop_of_length_le (by rw [this]; omega)]
      simp
theorem flat_get (ls : List Lk) (i j : Nat) (l : Lk) (h : ls[i]? = some l) (hj : j < 3) : (flat ls)[i * 3 + j]? = l.cells[j]? := by
  have h1 : (flat ls)[i * 3 + j]? = ((flat ls).drop (i * 3))[j]? := by rw [List.getElem?_drop]
  rw [h1, flat_drop]
  have hi : i < ls.length := (List.getElem?_eq_some_iff.1 h).1
  have h2 : ls.drop i = l :: ls.drop (i + 1) := by
    rw [List.drop_eq_getElem_cons hi]
    congr 1
    exact (List.getElem?_eq_some_iff.1 h).2
  rw [h2]
  show (l.cells ++ flat _)[j]? = _
  rw [List.getElem?_append_left (by show j < 3; exact hj)]

/-- Stamps rise, from 0 on. -/
def Rising (ls : List Lk) : Prop := (∀ l ∈ ls, 0 ≤ l.stamp) ∧ ls.Pairwise fun a b => a.stamp < b.stamp

/-- How many links have a stamp at or below s. -/
def cnt (ls : List Lk) (s : Int) : Nat := (ls.takeWhile fun l => decide (l.stamp ≤ s)).length

theorem cnt_le (ls : List Lk) (s : Int) : cnt ls s ≤ ls.length := by
  unfold cnt
  induction ls with
  | nil => simp
  | cons l ls ih => simp only [List.takeWhile_cons]; split <;> simp <;> omega

theorem cnt_lt {ls : List Lk} {s : Int} {i : Nat} {l : Lk} (hi : i < cnt ls s) (hl : ls[i]? = some l) : l.stamp ≤ s := by
  induction ls generalizing i with
  | nil => simp at hl
  | cons x ls ih =>
    unfold cnt at hi
    simp only [List.takeWhile_cons] at hi
    split at hi
    · rename_i hx
      cases i with
      | zero => simp at hl; subst hl; simpa using hx
      | succ i => simp only [List.length_cons] at hi; exact ih (i := i) (by unfold cnt; omega) (by simpa using hl)
    · simp at hi

theorem cnt_ge {ls : List Lk} (hr : ls.Pairwise fun a b => a.stamp < b.stamp) {s : Int} {i : Nat} {l : Lk} (hi : cnt ls s ≤ i) (hl : ls[i]? = some l) : s < l.stamp := by
  induction ls generalizing i with
  | nil => simp at hl
  | cons x ls ih =>
    rw [List.pairwise_cons] at hr
    unfold cnt at hi
    simp only [List.takeWhile_cons] at hi
    split at hi
    · cases i with
      | zero => simp at hi
      | succ i => simp only [List.length_cons] at hi; exact ih hr.2 (i := i) (by unfold cnt; omega) (by simpa using hl)
    · rename_i hx
      simp only [decide_eq_true_eq] at hx
      cases i with
      | zero => simp at hl; subst hl; omega
      | succ i =>
        have hm : l ∈ ls := List.mem_of_getElem? (by simpa using hl)
        have := hr.1 l hm
        omega

end Go.Proofs.Ytnonnencdhogiaa
