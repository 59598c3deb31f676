/-
  Layer 15: QuotaScript walked: the round, more arms.
-/
import Derived.Test.YtkfihfipnbbfcaaQS5
namespace Go.Proofs.Ytkfihfipnbbfcaa
open Go.RowKit

section
variable (w : World) (b3 b4 n cap blk off : Nat) (u : Nat → Value) (m : Nat) (wr : World) (x0 x1 x2 : Pl) (k q o x : Int) (Q0 : Exit → Act → World → Prop)
  (hn : n ≤ 9223372036854775807) (hs : ScIs w wr b3 b4 x0 x1 x2 x0 x1 x2) (hlt : m < n)
include hn hs hlt
set_option maxRecDepth 100000 in
set_option maxHeartbeats 4000000 in
theorem arm_inx (j : Nat) (hj : j < 3) (e0 : wr.cell? ⟨blk, off + m * 5, none⟩ = some (.int .i64 k)) (e1 : wr.cell? ⟨blk, off + m * 5 + 1, none⟩ = some (.int .i64 (j : Int))) (e2 : wr.cell? ⟨blk, off + m * 5 + 2, none⟩ = some (.int .i64 q)) (e3 : wr.cell? ⟨blk, off + m * 5 + 3, none⟩ = some (.int .i64 o)) (e4 : wr.cell? ⟨blk, off + m * 5 + 4, none⟩ = some (.int .i64 x)) (hk0 : k ≠ 0) (hk1 : k ≠ 1) (hk2 : k ≠ 2) (hk3 : k ≠ 3) (hk4 : k ≠ 4) (hk5 : k ≠ 5) (hk6 : k ≠ 6) (hk7 : k ≠ 7) :
    Code.wp Try.prog body4 (Exit.then (fun a' w'' => WI w b3 b4 n cap (some ⟨blk, off, none⟩) a' w'' ∧ mu4 n a' w'' < n - m) Q0) ⟨#[.slice (some ⟨blk, off, none⟩) n cap, u 1, u 2, .pointer (some ⟨b3, 0, none⟩), .pointer (some ⟨b4, 0, none⟩), u 5, u 6, u 7, u 8, u 9, u 10, u 11, u 12, u 13, u 14, u 15, .slice (some ⟨blk, off, none⟩) n cap, .int .i64 n, .int .i64 m, u 19, u 20, u 21, u 22, u 23, u 24, u 25, u 26, u 27, u 28, u 29, u 30, u 31, u 32, u 33, u 34, u 35, u 36, u 37, u 38, u 39, u 40, u 41, u 42, u 43, u 44, u 45, u 46, u 47, u 48, u 49, u 50, u 51, u 52, u 53, u 54, u 55, u 56, u 57, u 58, u 59, u 60, u 61, u 62, u 63, u 64, u 65, u 66, u 67, u 68, u 69, u 70, u 71, u 72, u 73, u 74, u 75, u 76, u 77, u 78, u 79, u 80, u 81, u 82, u 83, u 84, u 85, u 86, u 87, u 88, u 89, u 90, u 91, u 92, u 93, u 94, u 95, u 96, u 97, u 98, u 99, u 100, u 101, u 102, u 103, u 104, u 105, u 106, u 107, u 108, u 109, u 110, u 111, u 112, u 113, u 114, u 115, u 116, u 117, u 118, u 119, u 120, u 121, u 122, u 123, u 124, u 125, u 126, u 127, u 128, u 129, u 130, u 131, u 132, u 133, u 134, u 135, u 136, u 137, u 138, u 139, u 140, u 141, u 142, u 143, u 144, u 145, u 146, u 147, u 148, u 149, u 150, u 151, u 152, u 153, u 154, u 155, u 156, u 157, u 158, u 159, u 160, u 161, u 162, u 163, u 164], []⟩ wr := by
  conv => arg 2; whnf
  have _hn := hn
  have HS := Lib.hid hs
  have hws := hs.only.size
  have hB6 := Blk.new wr 23 (opCells k (j : Int) q o x)
  have hg := hs.here.lt
  have hv := hs.want.lt
  have hfb := hs.farb
  clear hs
  have g0 := HS.out.here_at hj
  obtain ⟨v0, v1, v2, v3, v4, v5⟩ := HS.out.want_at hj
  have q0 : (k == 0) = false := beq_eq_false_iff_ne.2 hk0
  have q1 : (k == 1) = false := beq_eq_false_iff_ne.2 hk1
  have q2 : (k == 2) = false := beq_eq_false_iff_ne.2 hk2
  have q3 : (k == 3) = false := beq_eq_false_iff_ne.2 hk3
  have q4 : (k == 4) = false := beq_eq_false_iff_ne.2 hk4
  have q5 : (k == 5) = false := beq_eq_false_iff_ne.2 hk5
  have q6 : (k == 6) = false := beq_eq_false_iff_ne.2 hk6
  have q7 : (k == 7) = false := beq_eq_false_iff_ne.2 hk7
  clear hk0 hk1 hk2 hk3 hk4 hk5 hk6 hk7
  go_upto_region 14 with (fail)
  have HS2 := Lib.hid ((HS.out.keep ((Only.refl NoneOf wr).alloc (.cells (opCells k j q o x) 23))).keep ((Only.refl NoneOf _).alloc (.cells (docAc (pick j x0 x1 x2).there (pick j x0 x1 x2).ac) 36)))
  have hB62 := hB6.alloc (.cells (docAc (pick j x0 x1 x2).there (pick j x0 x1 x2).ac) 36)
  have hB82 := Blk.new' (wr.alloc (.cells (opCells k j q o x) 23)) 36 (docAc (pick j x0 x1 x2).there (pick j x0 x1 x2).ac) (n := wr.heap.size + 1) (by simp)
  generalize (wr.alloc (.cells (opCells k j q o x) 23)).alloc (.cells (docAc (pick j x0 x1 x2).there (pick j x0 x1 x2).ac) 36) = W2 at *
  clear g0 v0 v1 v2 v3 v4 v5 e0 e1 e2 e3 e4
  obtain ⟨d0, d1, d2, d3, d4, d5⟩ := docCells hB82
  have c0 := hB62.cellv 0 rfl
  have c1 := hB62.cellv 1 rfl
  obtain ⟨v0, v1, v2, v3, v4, v5⟩ := HS2.out.want_at hj
  have z0 := HS2.out.want.free (j * 6)
  have z1 := HS2.out.want.free (j * 6 + 1)
  have z2 := HS2.out.want.free (j * 6 + 2)
  have z3 := HS2.out.want.free (j * 6 + 3)
  have z4 := HS2.out.want.free (j * 6 + 4)
  have z5 := HS2.out.want.free (j * 6 + 5)
  go_wp2_with fail
  refine ⟨?rel, ?measure⟩
  case rel =>
    exact ⟨m + 1, by omega, rfl, rfl, rfl, rfl, rfl, rfl, rfl, ws_num m, _, _, _, ScIs.same_at hj (HS2.out.wrote_at hj)⟩
  case measure => exact mu_less n m hlt

end

end Go.Proofs.Ytkfihfipnbbfcaa
