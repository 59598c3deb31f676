/-
  Layer 15: QuotaScript walked: the round, an arm a theorem.
-/
import Derived.Test.YtkfihfipnbbfcaaQS4a
import Derived.Deep.RegionHeld3
import Derived.StillTailTactics
import Derived.Deep.DeepCutAuto
namespace Go.Proofs.Ytkfihfipnbbfcaa
open Go.RowKit

theorem sc_old {w W : World} {b3 b4 : Nat} {x0 x1 x2 y0 y1 y2 : Pl} (h : ScIs w W b3 b4 x0 x1 x2 y0 y1 y2) (k : Nat) (hk : x0.block = some k ∨ x1.block = some k ∨ x2.block = some k) (hge : W.heap.size ≤ k) : False := by
  rcases hk with hk | hk | hk
  · have := PlIs.lt h.p0 k hk; omega
  · have := PlIs.lt h.p1 k hk; omega
  · have := PlIs.lt h.p2 k hk; omega
theorem doc0Cells {w : World} {b : Nat} (h : Blk w b 36 #[.bool false, .int .i64 0, .int .i64 0, .int .i64 0, .int .i64 0, .int .i64 0]) : w.cell? ⟨b, 0, none⟩ = some (.bool false) ∧ w.cell? ⟨b, 1, none⟩ = some (.int .i64 0) ∧ w.cell? ⟨b, 2, none⟩ = some (.int .i64 0) ∧ w.cell? ⟨b, 3, none⟩ = some (.int .i64 0) ∧ w.cell? ⟨b, 4, none⟩ = some (.int .i64 0) ∧ w.cell? ⟨b, 5, none⟩ = some (.int .i64 0) :=
  ⟨h.cellv 0 rfl, h.cellv 1 rfl, h.cellv 2 rfl, h.cellv 3 rfl, h.cellv 4 rfl, h.cellv 5 rfl⟩


def firstLoop : Code → Option Code
  | .loop c => some c
  | .seq a b => match firstLoop a with
    | some c => some c
    | none => firstLoop b
  | .block _ c => firstLoop c
  | .scope c => firstLoop c
  | .cond _ a b => match firstLoop a with
    | some c => some c
    | none => firstLoop b
  | _ => none
noncomputable def body4 : Code := ((Try.f4.body.bind firstLoop).getD .skip)

/-- What holds at a round's head. -/
structure WF (w : World) (b3 b4 n cap : Nat) (A : Option Addr) (m : Nat) (a : Act) (w' : World) : Prop where
  defers : a.defers = []
  size : a.tmps.size = 165
  s0 : a.tmps.getD 0 undef = .slice A n cap
  s3 : a.tmps.getD 3 undef = .pointer (some ⟨b3, 0, none⟩)
  s4 : a.tmps.getD 4 undef = .pointer (some ⟨b4, 0, none⟩)
  s16 : a.tmps.getD 16 undef = .slice A n cap
  s17 : a.tmps.getD 17 undef = .int .i64 n
  s18 : a.tmps.getD 18 undef = .int .i64 m
  sc : ∃ x0 x1 x2, ScIs w w' b3 b4 x0 x1 x2 x0 x1 x2
def WI (w : World) (b3 b4 n cap : Nat) (A : Option Addr) (a : Act) (w' : World) : Prop := ∃ m, m ≤ n ∧ WF w b3 b4 n cap A m a w'
def mu4 (n : Nat) (a : Act) (_ : World) : Nat := n - (intOf (a.tmps.getD 18 undef)).toNat

theorem arr_gen (a : Array Value) : a = ((List.range a.size).map fun k => a.getD k undef).toArray := by
  apply Array.ext
  · simp
  · intro i h1 h2
    simp [h1]
theorem arr_frame {a : Array Value} {n : Nat} (h : a.size = n) : ∃ u : Nat → Value, a = ((List.range n).map u).toArray := ⟨fun k => a.getD k undef, by rw [← h]; exact arr_gen a⟩

theorem ws_num (m : Nat) : Value.int .i64 ((m : Int) + 1) = .int .i64 ((m + 1 : Nat) : Int) := rfl
theorem mu_less (n m : Nat) (h : m < n) : n - (intOf (.int .i64 ((m : Int) + 1))).toNat < n - m := by
  simp only [intOf]
  omega

section
variable (w : World) (b3 b4 n cap blk off : Nat) (u : Nat → Value) (m : Nat) (wr : World) (x0 x1 x2 : Pl) (k q o x : Int) (Q0 : Exit → Act → World → Prop)
  (hn : n ≤ 9223372036854775807) (hs : ScIs w wr b3 b4 x0 x1 x2 x0 x1 x2) (hlt : m < n)
include hn hs hlt
end

end Go.Proofs.Ytkfihfipnbbfcaa
