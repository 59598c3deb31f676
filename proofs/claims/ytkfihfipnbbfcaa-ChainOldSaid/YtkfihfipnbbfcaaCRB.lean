/-
  Layer 13's law: a step on both: All; every step.
-/
import Derived.Test.YtkfihfipnbbfcaaCRA
namespace Go.Proofs.Ytkfihfipnbbfcaa
open Go.RowKit
namespace Rf
open Cs (IsV only_grown walked ChIs Foot TellPost WalkPost pruned)

theorem walked_mem {xs : List Lk} {n : Int} {l : Lk} (h : l ∈ walked xs n) : l ∈ xs := by
  unfold walked at h
  split at h
  · exact h
  · exact List.mem_of_mem_take h
theorem walked_le (xs : List Lk) (n : Int) : (walked xs n).length ≤ xs.length := by
  unfold walked
  split
  · exact Nat.le_refl _
  · simp; omega

set_option maxRecDepth 100000 in
set_option maxHeartbeats 1000000 in
theorem step_all (w : World) (q p : Nat) (v d : Value) (ls : List Lk) (n : Int) (x : ByteArray) (dead : Bool) (h : PairIs w q p v d ls) :
    Calls Try.prog 33 #[.pointer (some ⟨q, 0, none⟩), .agg #[.int .i64 6, .int .i64 n, .string x, .bool dead]] w (StepPost q p v d ls w) := by
  have HH := Lib.hid h
  have hA := h.keep ((Only.refl NoneOf w).alloc (.cells #[.int .i64 6, .int .i64 n, .string x, .bool dead] 61))
  have hB := Blk.new w 61 #[.int .i64 6, .int .i64 n, .string x, .bool dead]
  have hO := Lib.hid ((Only.refl NoneOf w).alloc (.cells #[.int .i64 6, .int .i64 n, .string x, .bool dead] 61))
  have hql := h.blk.lt
  have HV := Lib.hid (fun l (hl : l ∈ walked ls.reverse n) => h.doc.vals l (by have := walked_mem hl; simpa using this))
  have hlen : (walked ls.reverse n).length ≤ 3518437208800 := by have := walked_le ls.reverse n; have := h.doc.few; simp at *; omega
  clear h
  go_enter Try.func33, Try.ntmps33
  go_wp2_with fail
  generalize w.alloc (.cells #[.int .i64 6, .int .i64 n, .string x, .bool dead] 61) = W at *
  have b1 := x1 hB
  have q0 := c0 hA.blk
  have q1 := hA.blk.cellv 1 rfl
  go_region_held3 (fun w' => w'.cell? ⟨q, 0, none⟩ = some (.pointer (some ⟨p, 0, none⟩)) ∧ w'.cell? ⟨q, 1, none⟩ = some d ∧ w'.cell? ⟨w.heap.size, 1, none⟩ = some (.int .i64 n))
    (first | exact ⟨q05, q15, b15⟩ | exact ⟨q04, q14, b14⟩ | exact ⟨q03, q13, b13⟩ | exact ⟨q0, q1, b1⟩)
    (first
      | (go_at_call 40; refine (Cs.walk_has W.drew p v ls n (hA.keep (Only.refl NoneOf W).drew).ch).mono ?_; rintro e w3 ⟨a, rfl, hra, ho3, _⟩; have hP3 := (hA.keep (Only.refl NoneOf W).drew).keep ho3; have hB3 := hB.drew.only ho3 (fun h => h); have q03 := c0 hP3.blk; have q13 := hP3.blk.cellv 1 rfl; have b13 := x1 hB3; have HO3 := Lib.hid (hO.out.drew.trans ho3); have HRA := Lib.hid hra; clear ho3 hra)
      | (go_at_call 55; refine (all_is w3 d ls n hP3.doc).mono ?_; rintro e w4 ⟨b, rfl, hrb, ho4⟩; have hP4 := hP3.keep ho4; have hB4 := hB3.only ho4 (fun h => h); have q04 := c0 hP4.blk; have q14 := hP4.blk.cellv 1 rfl; have b14 := x1 hB4; have HO4 := Lib.hid (HO3.out.trans ho4); have HRA4 := Lib.hid (Cs.row_only HRA.out ho4 (fun _ _ h => h)); have HRB := Lib.hid (row_base hrb).1; clear ho4 hrb)
      | (go_at_call 54; refine (allAlike_is w4 a b _ HRA4.out HRB.out HV.out hlen).mono ?_; rintro e w5 ⟨rfl, ho5⟩; have hP5 := hP4.keep ho5; have hB5 := hB4.only ho5 (fun h => h); have q05 := c0 hP5.blk; have q15 := hP5.blk.cellv 1 rfl; have b15 := x1 hB5; have HO5 := Lib.hid (HO4.out.trans ho5); clear ho5))
  go_wp2_with fail
  go_ret
  exact pair_same HH.out HO5.out

end Rf
end Go.Proofs.Ytkfihfipnbbfcaa
