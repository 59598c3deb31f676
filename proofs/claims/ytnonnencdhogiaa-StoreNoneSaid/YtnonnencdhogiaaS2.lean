/-
  Layer 14: New, may.
-/
import Derived.Test.YtnonnencdhogiaaS1
namespace Go.Proofs.Ytnonnencdhogiaa
open Go.RowKit
open Cb (ChIs Foot)

theorem StIs.none {w : World} {s m : Nat} (hb : Blk w s 83 #[.map (some m), .int .i64 0]) (hm : w.ownsMap Try.prog 9 RP m 0 (.map [])) (hne : s ≠ m) : StIs w s m 0 (.map []) (fun _ => none) 0 :=
  ⟨hb, hm, fun _ _ _ => rfl, fun _ _ h => (by cases h), fun _ _ _ _ h => (by cases h), fun _ _ h => (by cases h), hne⟩

def NewPost (w : World) (e : Ending) (w' : World) : Prop :=
  e = .returned (.pointer (some ⟨w.heap.size + 1, 0, none⟩)) ∧ StIs w' (w.heap.size + 1) w.heap.size 0 (.map []) (fun _ => none) 0 ∧ Only NoneOf w w'
set_option maxHeartbeats 400000 in
theorem new_is (w : World) : Calls Try.prog 29 #[] w (NewPost w) := by
  have hmm := @run_makeMap Try.prog
  have hown := World.ownsMap_made w Try.prog 9 RP
  have hB := Blk.new' (w.alloc (.map #[] 0)) 83 #[.map (some w.heap.size), .int .i64 0] (n := w.heap.size + 1) (by simp)
  have HO := Lib.hid (((Only.refl NoneOf w).alloc (.map #[] 0)).alloc (.cells #[.map (some w.heap.size), .int .i64 0] 83))
  have HM := Lib.hid (hown.alloc (.cells #[.map (some w.heap.size), .int .i64 0] 83))
  have HB := Lib.hid hB
  clear hown hB
  go_enter Try.func29, Try.ntmps29
  go_wp2_with fail
  go_ret
  exact ⟨rfl, StIs.none HB.out HM.out (by omega), HO.out⟩

/-- what is wrong with a version -/
def mayI (k n : Nat) (st : Int) (dead : Bool) : Int :=
  if k < 1 ∨ 255 < k then 140 else if 4096 < n ∨ (dead = true ∧ 0 < n) then 141 else if st < 0 ∨ 4611686018427387904 < st then 2 else 0
abbrev verC (key : ByteArray) (st : Int) (v : Value) (dead : Bool) : Array Value := #[.string key, .int .i64 st, v, .bool dead]

set_option maxRecDepth 100000 in
set_option maxHeartbeats 1000000 in
theorem may_is (key : ByteArray) (st : Int) (A : Option Addr) (n c : Nat) (dead : Bool) (w : World) : Calls Try.prog 43 #[.agg (verC key st (.slice A n c) dead)] w fun e w' => e = .returned (.int .i64 (mayI key.size n st dead)) ∧ Only NoneOf w w' := by
  have B := Blk.new w 27 (verC key st (.slice A n c) dead)
  have c0 := B.cellv 0 rfl
  have c1 := B.cellv 1 rfl
  have c2 := B.cellv 2 rfl
  have c3 := B.cellv 3 rfl
  have HO := Lib.hid ((Only.refl NoneOf w).alloc (.cells (verC key st (.slice A n c) dead) 27))
  clear B
  by_cases h1 : key.size < 1
  · have HM := Lib.hid (show mayI key.size n st dead = 140 by unfold mayI; rw [if_pos (.inl h1)])
    rw [HM.out]
    go_enter Try.func43, Try.ntmps43
    go_wp2_with fail
    go_ret
    exact ⟨rfl, HO.out⟩
  by_cases h2 : 255 < key.size
  · have HM := Lib.hid (show mayI key.size n st dead = 140 by unfold mayI; rw [if_pos (.inr h2)])
    rw [HM.out]
    go_enter Try.func43, Try.ntmps43
    go_wp2_with fail
    go_ret
    exact ⟨rfl, HO.out⟩
  by_cases h3 : 4096 < n
  · have HM := Lib.hid (show mayI key.size n st dead = 141 by unfold mayI; rw [if_neg (by omega), if_pos (.inl h3)])
    rw [HM.out]
    go_enter Try.func43, Try.ntmps43
    go_wp2_with fail
    go_ret
    exact ⟨rfl, HO.out⟩
  by_cases h4 : dead = true ∧ 0 < n
  · have HM := Lib.hid (show mayI key.size n st dead = 141 by unfold mayI; rw [if_neg (by omega), if_pos (.inr h4)])
    rw [HM.out]
    obtain ⟨rfl, h5⟩ := h4
    go_enter Try.func43, Try.ntmps43
    go_wp2_with fail
    go_ret
    exact ⟨rfl, HO.out⟩
  cases dead
  · clear h4
    by_cases h5 : st < 0
    · have HM := Lib.hid (show mayI key.size n st false = 2 by unfold mayI; rw [if_neg (by omega), if_neg (by simp; omega), if_pos (.inl h5)])
      rw [HM.out]
      go_enter Try.func43, Try.ntmps43
      go_wp2_with fail
      go_ret
      exact ⟨rfl, HO.out⟩
    by_cases h6 : 4611686018427387904 < st
    · have HM := Lib.hid (show mayI key.size n st false = 2 by unfold mayI; rw [if_neg (by omega), if_neg (by simp; omega), if_pos (.inr h6)])
      rw [HM.out]
      have q5 : decide (st < 0) = false := decide_eq_false h5
      have q6 : decide (4611686018427387904 < st) = true := decide_eq_true h6
      clear h5 h6
      go_enter Try.func43, Try.ntmps43
      go_wp2_with fail
      go_ret
      exact ⟨rfl, HO.out⟩
    · have HM := Lib.hid (show mayI key.size n st false = 0 by unfold mayI; rw [if_neg (by omega), if_neg (by simp; omega), if_neg (by omega)])
      rw [HM.out]
      have q5 : decide (st < 0) = false := decide_eq_false h5
      have q6 : decide (4611686018427387904 < st) = false := decide_eq_false h6
      clear h5 h6
      go_enter Try.func43, Try.ntmps43
      go_wp2_with fail
      go_ret
      exact ⟨rfl, HO.out⟩
  · have h0 : n = 0 := by
      rcases Nat.eq_zero_or_pos n with h | h
      · exact h
      · exact absurd ⟨rfl, h⟩ h4
    subst h0
    clear h4 h3
    by_cases h5 : st < 0
    · have HM := Lib.hid (show mayI key.size 0 st true = 2 by unfold mayI; rw [if_neg (by omega), if_neg (by simp), if_pos (.inl h5)])
      rw [HM.out]
      go_enter Try.func43, Try.ntmps43
      go_wp2_with fail
      go_ret
      exact ⟨rfl, HO.out⟩
    by_cases h6 : 4611686018427387904 < st
    · have HM := Lib.hid (show mayI key.size 0 st true = 2 by unfold mayI; rw [if_neg (by omega), if_neg (by simp), if_pos (.inr h6)])
      rw [HM.out]
      have q5 : decide (st < 0) = false := decide_eq_false h5
      have q6 : decide (4611686018427387904 < st) = true := decide_eq_true h6
      clear h5 h6
      go_enter Try.func43, Try.ntmps43
      go_wp2_with fail
      go_ret
      exact ⟨rfl, HO.out⟩
    · have HM := Lib.hid (show mayI key.size 0 st true = 0 by unfold mayI; rw [if_neg (by omega), if_neg (by simp), if_neg (by omega)])
      rw [HM.out]
      have q5 : decide (st < 0) = false := decide_eq_false h5
      have q6 : decide (4611686018427387904 < st) = false := decide_eq_false h6
      clear h5 h6
      go_enter Try.func43, Try.ntmps43
      go_wp2_with fail
      go_ret
      exact ⟨rfl, HO.out⟩

end Go.Proofs.Ytnonnencdhogiaa
