/-
  Layer 15: QuotaScript walked: the round, more arms.
-/
import Derived.Test.YtkfihfipnbbfcaaQS5
namespace Go.Proofs.Ytkfihfipnbbfcaa
open Go.RowKit

section
variable (w : World) (b3 b4 n cap blk off : Nat) (u : Nat → Value) (m : Nat) (wr : World) (x0 x1 x2 : Pl) (k q o x : Int) (Q0 : Exit → Act → World → Prop)
  (hn : n ≤ 9223372036854775807) (hs : ScIs w wr b3 b4 x0 x1 x2 x0 x1 x2) (hlt : m < n)
include hn hs hlt
set_option maxRecDepth 100000 in
set_option maxHeartbeats 4000000 in
theorem arm_in5 (j : Nat) (hj : j < 3) (e0 : wr.cell? ⟨blk, off + m * 5, none⟩ = some (.int .i64 k)) (e1 : wr.cell? ⟨blk, off + m * 5 + 1, none⟩ = some (.int .i64 (j : Int))) (e2 : wr.cell? ⟨blk, off + m * 5 + 2, none⟩ = some (.int .i64 q)) (e3 : wr.cell? ⟨blk, off + m * 5 + 3, none⟩ = some (.int .i64 o)) (e4 : wr.cell? ⟨blk, off + m * 5 + 4, none⟩ = some (.int .i64 x)) (hk : k = 5) :
    Code.wp Try.prog body4 (Exit.then (fun a' w'' => WI w b3 b4 n cap (some ⟨blk, off, none⟩) a' w'' ∧ mu4 n a' w'' < n - m) Q0) ⟨#[.slice (some ⟨blk, off, none⟩) n cap, u 1, u 2, .pointer (some ⟨b3, 0, none⟩), .pointer (some ⟨b4, 0, none⟩), u 5, u 6, u 7, u 8, u 9, u 10, u 11, u 12, u 13, u 14, u 15, .slice (some ⟨blk, off, none⟩) n cap, .int .i64 n, .int .i64 m, u 19, u 20, u 21, u 22, u 23, u 24, u 25, u 26, u 27, u 28, u 29, u 30, u 31, u 32, u 33, u 34, u 35, u 36, u 37, u 38, u 39, u 40, u 41, u 42, u 43, u 44, u 45, u 46, u 47, u 48, u 49, u 50, u 51, u 52, u 53, u 54, u 55, u 56, u 57, u 58, u 59, u 60, u 61, u 62, u 63, u 64, u 65, u 66, u 67, u 68, u 69, u 70, u 71, u 72, u 73, u 74, u 75, u 76, u 77, u 78, u 79, u 80, u 81, u 82, u 83, u 84, u 85, u 86, u 87, u 88, u 89, u 90, u 91, u 92, u 93, u 94, u 95, u 96, u 97, u 98, u 99, u 100, u 101, u 102, u 103, u 104, u 105, u 106, u 107, u 108, u 109, u 110, u 111, u 112, u 113, u 114, u 115, u 116, u 117, u 118, u 119, u 120, u 121, u 122, u 123, u 124, u 125, u 126, u 127, u 128, u 129, u 130, u 131, u 132, u 133, u 134, u 135, u 136, u 137, u 138, u 139, u 140, u 141, u 142, u 143, u 144, u 145, u 146, u 147, u 148, u 149, u 150, u 151, u 152, u 153, u 154, u 155, u 156, u 157, u 158, u 159, u 160, u 161, u 162, u 163, u 164], []⟩ wr := by
  conv => arg 2; whnf
  have _hn := hn
  have HS := Lib.hid hs
  have hws := hs.only.size
  have hB6 := Blk.new wr 23 (opCells k (j : Int) q o x)
  have hg := hs.here.lt
  have hv := hs.want.lt
  have hfb := hs.farb
  clear hs
  have g0 := HS.out.here_at hj
  obtain ⟨v0, v1, v2, v3, v4, v5⟩ := HS.out.want_at hj
  subst hk
  go_wp2_with fail
  have HS2 := Lib.hid ((HS.out.keep ((Only.refl NoneOf wr).alloc (.cells (opCells 5 j q o x) 23))).keep ((Only.refl NoneOf _).alloc (.cells (docAc (pick j x0 x1 x2).there (pick j x0 x1 x2).ac) 36)))
  have hB62 := hB6.alloc (.cells (docAc (pick j x0 x1 x2).there (pick j x0 x1 x2).ac) 36)
  have hB82 := Blk.new' (wr.alloc (.cells (opCells 5 j q o x) 23)) 36 (docAc (pick j x0 x1 x2).there (pick j x0 x1 x2).ac) (n := wr.heap.size + 1) (by simp)
  obtain ⟨hb0, hb1, hb2⟩ := ac_bounds (HS.out.pick_is (j := j))
  generalize (wr.alloc (.cells (opCells 5 j q o x) 23)).alloc (.cells (docAc (pick j x0 x1 x2).there (pick j x0 x1 x2).ac) 36) = W2 at *
  have D := docCells hB82
  obtain ⟨d0, d1, d2, d3, d4, d5⟩ := id D
  clear g0 v0 v1 v2 v3 v4 v5 e0 e1 e2 e3 e4
  go_region_held3 (fun w' => w'.cell? ⟨wr.heap.size + 1, 0, none⟩ = some (.bool (pick j x0 x1 x2).there) ∧ w'.cell? ⟨wr.heap.size + 1, 1, none⟩ = some (.int .i64 (pick j x0 x1 x2).ac.most) ∧ w'.cell? ⟨wr.heap.size + 1, 2, none⟩ = some (.int .i64 (pick j x0 x1 x2).ac.mostOpen) ∧ w'.cell? ⟨wr.heap.size + 1, 3, none⟩ = some (.int .i64 (pick j x0 x1 x2).ac.live) ∧ w'.cell? ⟨wr.heap.size + 1, 4, none⟩ = some (.int .i64 (pick j x0 x1 x2).ac.pending) ∧ w'.cell? ⟨wr.heap.size + 1, 5, none⟩ = some (.int .i64 (pick j x0 x1 x2).ac.opened))
    (first | exact D | exact D1 | exact D2)
    (first
      | (go_at_call 18; refine (used_any (pick j x0 x1 x2) W2.drew (HS2.out.keep (Only.refl NoneOf W2).drew).pick_is).mono ?_; rintro e w3 ⟨rfl, n1, rfl⟩; have D1 := docCells (hB82.drew.drewN n1); generalize hW3 : W2.drew.drewN n1 = W3 at *; have HS3 := Lib.hid (HS2.out.keep ((Only.refl NoneOf W2).drew.drewN n1)); have hB63 := hB62.drew.drewN n1; have hB83 := hB82.drew.drewN n1; rw [hW3] at HS3 hB63 hB83; clear hW3)
      | (go_at_call 28; refine (rused_any (pick j x0 x1 x2).there (pick j x0 x1 x2).ac W3 hb0 hb1 hb2).mono ?_; rintro e w4 ⟨rfl, ho4⟩; have D2 := docCells (hB83.only ho4 (fun h => h)); have HS4 := Lib.hid (HS3.out.keep ho4); have hB64 := hB63.only ho4 (fun h => h); have hB84 := hB83.only ho4 (fun h => h); clear ho4))
  clear d0 d1 d2 d3 d4 d5
  obtain ⟨d0, d1, d2, d3, d4, d5⟩ := docCells hB84
  have c1 := hB64.cellv 1 rfl
  obtain ⟨v0, v1, v2, v3, v4, v5⟩ := HS4.out.want_at hj
  have z0 := HS4.out.want.free (j * 6)
  have z1 := HS4.out.want.free (j * 6 + 1)
  have z2 := HS4.out.want.free (j * 6 + 2)
  have z3 := HS4.out.want.free (j * 6 + 3)
  have z4 := HS4.out.want.free (j * 6 + 4)
  have z5 := HS4.out.want.free (j * 6 + 5)
  go_wp2_with fail
  refine ⟨?rel, ?measure⟩
  case rel => exact ⟨m + 1, by omega, rfl, rfl, rfl, rfl, rfl, rfl, rfl, ws_num m, _, _, _, ScIs.same_at hj (HS4.out.wrote_at hj)⟩
  case measure => exact mu_less n m hlt

set_option maxRecDepth 100000 in
set_option maxHeartbeats 4000000 in
theorem arm_in6 (j : Nat) (hj : j < 3) (e0 : wr.cell? ⟨blk, off + m * 5, none⟩ = some (.int .i64 k)) (e1 : wr.cell? ⟨blk, off + m * 5 + 1, none⟩ = some (.int .i64 (j : Int))) (e2 : wr.cell? ⟨blk, off + m * 5 + 2, none⟩ = some (.int .i64 q)) (e3 : wr.cell? ⟨blk, off + m * 5 + 3, none⟩ = some (.int .i64 o)) (e4 : wr.cell? ⟨blk, off + m * 5 + 4, none⟩ = some (.int .i64 x)) (hk : k = 6) :
    Code.wp Try.prog body4 (Exit.then (fun a' w'' => WI w b3 b4 n cap (some ⟨blk, off, none⟩) a' w'' ∧ mu4 n a' w'' < n - m) Q0) ⟨#[.slice (some ⟨blk, off, none⟩) n cap, u 1, u 2, .pointer (some ⟨b3, 0, none⟩), .pointer (some ⟨b4, 0, none⟩), u 5, u 6, u 7, u 8, u 9, u 10, u 11, u 12, u 13, u 14, u 15, .slice (some ⟨blk, off, none⟩) n cap, .int .i64 n, .int .i64 m, u 19, u 20, u 21, u 22, u 23, u 24, u 25, u 26, u 27, u 28, u 29, u 30, u 31, u 32, u 33, u 34, u 35, u 36, u 37, u 38, u 39, u 40, u 41, u 42, u 43, u 44, u 45, u 46, u 47, u 48, u 49, u 50, u 51, u 52, u 53, u 54, u 55, u 56, u 57, u 58, u 59, u 60, u 61, u 62, u 63, u 64, u 65, u 66, u 67, u 68, u 69, u 70, u 71, u 72, u 73, u 74, u 75, u 76, u 77, u 78, u 79, u 80, u 81, u 82, u 83, u 84, u 85, u 86, u 87, u 88, u 89, u 90, u 91, u 92, u 93, u 94, u 95, u 96, u 97, u 98, u 99, u 100, u 101, u 102, u 103, u 104, u 105, u 106, u 107, u 108, u 109, u 110, u 111, u 112, u 113, u 114, u 115, u 116, u 117, u 118, u 119, u 120, u 121, u 122, u 123, u 124, u 125, u 126, u 127, u 128, u 129, u 130, u 131, u 132, u 133, u 134, u 135, u 136, u 137, u 138, u 139, u 140, u 141, u 142, u 143, u 144, u 145, u 146, u 147, u 148, u 149, u 150, u 151, u 152, u 153, u 154, u 155, u 156, u 157, u 158, u 159, u 160, u 161, u 162, u 163, u 164], []⟩ wr := by
  conv => arg 2; whnf
  have _hn := hn
  have HS := Lib.hid hs
  have hws := hs.only.size
  have hB6 := Blk.new wr 23 (opCells k (j : Int) q o x)
  have hg := hs.here.lt
  have hv := hs.want.lt
  have hfb := hs.farb
  clear hs
  have g0 := HS.out.here_at hj
  obtain ⟨v0, v1, v2, v3, v4, v5⟩ := HS.out.want_at hj
  subst hk
  go_wp2_with fail
  have HS2 := Lib.hid ((HS.out.keep ((Only.refl NoneOf wr).alloc (.cells (opCells 6 j q o x) 23))).keep ((Only.refl NoneOf _).alloc (.cells (docAc (pick j x0 x1 x2).there (pick j x0 x1 x2).ac) 36)))
  have hB62 := hB6.alloc (.cells (docAc (pick j x0 x1 x2).there (pick j x0 x1 x2).ac) 36)
  have hB82 := Blk.new' (wr.alloc (.cells (opCells 6 j q o x) 23)) 36 (docAc (pick j x0 x1 x2).there (pick j x0 x1 x2).ac) (n := wr.heap.size + 1) (by simp)
  obtain ⟨hb0, hb1, hb2⟩ := ac_bounds (HS.out.pick_is (j := j))
  generalize (wr.alloc (.cells (opCells 6 j q o x) 23)).alloc (.cells (docAc (pick j x0 x1 x2).there (pick j x0 x1 x2).ac) 36) = W2 at *
  have D := docCells hB82
  obtain ⟨d0, d1, d2, d3, d4, d5⟩ := id D
  clear g0 v0 v1 v2 v3 v4 v5 e0 e1 e2 e3 e4
  go_region_held3 (fun w' => w'.cell? ⟨wr.heap.size + 1, 0, none⟩ = some (.bool (pick j x0 x1 x2).there) ∧ w'.cell? ⟨wr.heap.size + 1, 1, none⟩ = some (.int .i64 (pick j x0 x1 x2).ac.most) ∧ w'.cell? ⟨wr.heap.size + 1, 2, none⟩ = some (.int .i64 (pick j x0 x1 x2).ac.mostOpen) ∧ w'.cell? ⟨wr.heap.size + 1, 3, none⟩ = some (.int .i64 (pick j x0 x1 x2).ac.live) ∧ w'.cell? ⟨wr.heap.size + 1, 4, none⟩ = some (.int .i64 (pick j x0 x1 x2).ac.pending) ∧ w'.cell? ⟨wr.heap.size + 1, 5, none⟩ = some (.int .i64 (pick j x0 x1 x2).ac.opened))
    (first | exact D)
    (first
      | (go_at_call 20; refine (pending_any (pick j x0 x1 x2) W2.drew (HS2.out.keep (Only.refl NoneOf W2).drew).pick_is).mono ?_; rintro e w4 ⟨rfl, rfl⟩; have HS4 := Lib.hid (HS2.out.keep (Only.refl NoneOf W2).drew); have hB64 := hB62.drew; have hB84 := hB82.drew))
  clear d0 d1 d2 d3 d4 d5
  generalize W2.drew = w4 at *
  obtain ⟨d0, d1, d2, d3, d4, d5⟩ := docCells hB84
  have c1 := hB64.cellv 1 rfl
  obtain ⟨v0, v1, v2, v3, v4, v5⟩ := HS4.out.want_at hj
  have z0 := HS4.out.want.free (j * 6)
  have z1 := HS4.out.want.free (j * 6 + 1)
  have z2 := HS4.out.want.free (j * 6 + 2)
  have z3 := HS4.out.want.free (j * 6 + 3)
  have z4 := HS4.out.want.free (j * 6 + 4)
  have z5 := HS4.out.want.free (j * 6 + 5)
  go_wp2_with fail
  refine ⟨?rel, ?measure⟩
  case rel => exact ⟨m + 1, by omega, rfl, rfl, rfl, rfl, rfl, rfl, rfl, ws_num m, _, _, _, ScIs.same_at hj (HS4.out.wrote_at hj)⟩
  case measure => exact mu_less n m hlt

set_option maxRecDepth 100000 in
set_option maxHeartbeats 4000000 in
theorem arm_in7 (j : Nat) (hj : j < 3) (e0 : wr.cell? ⟨blk, off + m * 5, none⟩ = some (.int .i64 k)) (e1 : wr.cell? ⟨blk, off + m * 5 + 1, none⟩ = some (.int .i64 (j : Int))) (e2 : wr.cell? ⟨blk, off + m * 5 + 2, none⟩ = some (.int .i64 q)) (e3 : wr.cell? ⟨blk, off + m * 5 + 3, none⟩ = some (.int .i64 o)) (e4 : wr.cell? ⟨blk, off + m * 5 + 4, none⟩ = some (.int .i64 x)) (hk : k = 7) :
    Code.wp Try.prog body4 (Exit.then (fun a' w'' => WI w b3 b4 n cap (some ⟨blk, off, none⟩) a' w'' ∧ mu4 n a' w'' < n - m) Q0) ⟨#[.slice (some ⟨blk, off, none⟩) n cap, u 1, u 2, .pointer (some ⟨b3, 0, none⟩), .pointer (some ⟨b4, 0, none⟩), u 5, u 6, u 7, u 8, u 9, u 10, u 11, u 12, u 13, u 14, u 15, .slice (some ⟨blk, off, none⟩) n cap, .int .i64 n, .int .i64 m, u 19, u 20, u 21, u 22, u 23, u 24, u 25, u 26, u 27, u 28, u 29, u 30, u 31, u 32, u 33, u 34, u 35, u 36, u 37, u 38, u 39, u 40, u 41, u 42, u 43, u 44, u 45, u 46, u 47, u 48, u 49, u 50, u 51, u 52, u 53, u 54, u 55, u 56, u 57, u 58, u 59, u 60, u 61, u 62, u 63, u 64, u 65, u 66, u 67, u 68, u 69, u 70, u 71, u 72, u 73, u 74, u 75, u 76, u 77, u 78, u 79, u 80, u 81, u 82, u 83, u 84, u 85, u 86, u 87, u 88, u 89, u 90, u 91, u 92, u 93, u 94, u 95, u 96, u 97, u 98, u 99, u 100, u 101, u 102, u 103, u 104, u 105, u 106, u 107, u 108, u 109, u 110, u 111, u 112, u 113, u 114, u 115, u 116, u 117, u 118, u 119, u 120, u 121, u 122, u 123, u 124, u 125, u 126, u 127, u 128, u 129, u 130, u 131, u 132, u 133, u 134, u 135, u 136, u 137, u 138, u 139, u 140, u 141, u 142, u 143, u 144, u 145, u 146, u 147, u 148, u 149, u 150, u 151, u 152, u 153, u 154, u 155, u 156, u 157, u 158, u 159, u 160, u 161, u 162, u 163, u 164], []⟩ wr := by
  conv => arg 2; whnf
  have _hn := hn
  have HS := Lib.hid hs
  have hws := hs.only.size
  have hB6 := Blk.new wr 23 (opCells k (j : Int) q o x)
  have hg := hs.here.lt
  have hv := hs.want.lt
  have hfb := hs.farb
  clear hs
  have g0 := HS.out.here_at hj
  obtain ⟨v0, v1, v2, v3, v4, v5⟩ := HS.out.want_at hj
  subst hk
  go_wp2_with fail
  have HS2 := Lib.hid ((HS.out.keep ((Only.refl NoneOf wr).alloc (.cells (opCells 7 j q o x) 23))).keep ((Only.refl NoneOf _).alloc (.cells (docAc (pick j x0 x1 x2).there (pick j x0 x1 x2).ac) 36)))
  have hB62 := hB6.alloc (.cells (docAc (pick j x0 x1 x2).there (pick j x0 x1 x2).ac) 36)
  have hB82 := Blk.new' (wr.alloc (.cells (opCells 7 j q o x) 23)) 36 (docAc (pick j x0 x1 x2).there (pick j x0 x1 x2).ac) (n := wr.heap.size + 1) (by simp)
  obtain ⟨hb0, hb1, hb2⟩ := ac_bounds (HS.out.pick_is (j := j))
  generalize (wr.alloc (.cells (opCells 7 j q o x) 23)).alloc (.cells (docAc (pick j x0 x1 x2).there (pick j x0 x1 x2).ac) 36) = W2 at *
  have D := docCells hB82
  obtain ⟨d0, d1, d2, d3, d4, d5⟩ := id D
  clear g0 v0 v1 v2 v3 v4 v5 e0 e1 e2 e3 e4
  go_region_held3 (fun w' => w'.cell? ⟨wr.heap.size + 1, 0, none⟩ = some (.bool (pick j x0 x1 x2).there) ∧ w'.cell? ⟨wr.heap.size + 1, 1, none⟩ = some (.int .i64 (pick j x0 x1 x2).ac.most) ∧ w'.cell? ⟨wr.heap.size + 1, 2, none⟩ = some (.int .i64 (pick j x0 x1 x2).ac.mostOpen) ∧ w'.cell? ⟨wr.heap.size + 1, 3, none⟩ = some (.int .i64 (pick j x0 x1 x2).ac.live) ∧ w'.cell? ⟨wr.heap.size + 1, 4, none⟩ = some (.int .i64 (pick j x0 x1 x2).ac.pending) ∧ w'.cell? ⟨wr.heap.size + 1, 5, none⟩ = some (.int .i64 (pick j x0 x1 x2).ac.opened))
    (first | exact D)
    (first
      | (go_at_call 29; refine (open_any (pick j x0 x1 x2) W2.drew (HS2.out.keep (Only.refl NoneOf W2).drew).pick_is).mono ?_; rintro e w4 ⟨rfl, rfl⟩; have HS4 := Lib.hid (HS2.out.keep (Only.refl NoneOf W2).drew); have hB64 := hB62.drew; have hB84 := hB82.drew))
  clear d0 d1 d2 d3 d4 d5
  generalize W2.drew = w4 at *
  obtain ⟨d0, d1, d2, d3, d4, d5⟩ := docCells hB84
  have c1 := hB64.cellv 1 rfl
  obtain ⟨v0, v1, v2, v3, v4, v5⟩ := HS4.out.want_at hj
  have z0 := HS4.out.want.free (j * 6)
  have z1 := HS4.out.want.free (j * 6 + 1)
  have z2 := HS4.out.want.free (j * 6 + 2)
  have z3 := HS4.out.want.free (j * 6 + 3)
  have z4 := HS4.out.want.free (j * 6 + 4)
  have z5 := HS4.out.want.free (j * 6 + 5)
  go_wp2_with fail
  refine ⟨?rel, ?measure⟩
  case rel => exact ⟨m + 1, by omega, rfl, rfl, rfl, rfl, rfl, rfl, rfl, ws_num m, _, _, _, ScIs.same_at hj (HS4.out.wrote_at hj)⟩
  case measure => exact mu_less n m hlt

set_option maxRecDepth 100000 in
set_option maxHeartbeats 4000000 in
theorem arm_in0 (j : Nat) (hj : j < 3) (e0 : wr.cell? ⟨blk, off + m * 5, none⟩ = some (.int .i64 k)) (e1 : wr.cell? ⟨blk, off + m * 5 + 1, none⟩ = some (.int .i64 (j : Int))) (e2 : wr.cell? ⟨blk, off + m * 5 + 2, none⟩ = some (.int .i64 q)) (e3 : wr.cell? ⟨blk, off + m * 5 + 3, none⟩ = some (.int .i64 o)) (e4 : wr.cell? ⟨blk, off + m * 5 + 4, none⟩ = some (.int .i64 x)) (hk : k = 0) :
    Code.wp Try.prog body4 (Exit.then (fun a' w'' => WI w b3 b4 n cap (some ⟨blk, off, none⟩) a' w'' ∧ mu4 n a' w'' < n - m) Q0) ⟨#[.slice (some ⟨blk, off, none⟩) n cap, u 1, u 2, .pointer (some ⟨b3, 0, none⟩), .pointer (some ⟨b4, 0, none⟩), u 5, u 6, u 7, u 8, u 9, u 10, u 11, u 12, u 13, u 14, u 15, .slice (some ⟨blk, off, none⟩) n cap, .int .i64 n, .int .i64 m, u 19, u 20, u 21, u 22, u 23, u 24, u 25, u 26, u 27, u 28, u 29, u 30, u 31, u 32, u 33, u 34, u 35, u 36, u 37, u 38, u 39, u 40, u 41, u 42, u 43, u 44, u 45, u 46, u 47, u 48, u 49, u 50, u 51, u 52, u 53, u 54, u 55, u 56, u 57, u 58, u 59, u 60, u 61, u 62, u 63, u 64, u 65, u 66, u 67, u 68, u 69, u 70, u 71, u 72, u 73, u 74, u 75, u 76, u 77, u 78, u 79, u 80, u 81, u 82, u 83, u 84, u 85, u 86, u 87, u 88, u 89, u 90, u 91, u 92, u 93, u 94, u 95, u 96, u 97, u 98, u 99, u 100, u 101, u 102, u 103, u 104, u 105, u 106, u 107, u 108, u 109, u 110, u 111, u 112, u 113, u 114, u 115, u 116, u 117, u 118, u 119, u 120, u 121, u 122, u 123, u 124, u 125, u 126, u 127, u 128, u 129, u 130, u 131, u 132, u 133, u 134, u 135, u 136, u 137, u 138, u 139, u 140, u 141, u 142, u 143, u 144, u 145, u 146, u 147, u 148, u 149, u 150, u 151, u 152, u 153, u 154, u 155, u 156, u 157, u 158, u 159, u 160, u 161, u 162, u 163, u 164], []⟩ wr := by
  conv => arg 2; whnf
  have _hn := hn
  have HS := Lib.hid hs
  have hws := hs.only.size
  have hB6 := Blk.new wr 23 (opCells k (j : Int) q o x)
  have hg := hs.here.lt
  have hv := hs.want.lt
  have hfb := hs.farb
  clear hs
  have g0 := HS.out.here_at hj
  obtain ⟨v0, v1, v2, v3, v4, v5⟩ := HS.out.want_at hj
  subst hk
  by_cases hl : Limits q o
  · have M := fun u => Lib.hid (made_ok 0 j q o x u hl)
    have R := fun u => Lib.hid (rnew_ok q o hl.1 hl.2.1 hl.2.2.1 hl.2.2.2 u)
    have oks : Ac.Ok ⟨q, o, 0, 0, 0⟩ := by obtain ⟨l0, l1, l2, l3⟩ := hl; constructor <;> simp <;> omega
    have HOLD := Lib.hid (fun k hk hh => sc_old HS.out k hk hh)
    clear hl
    go_wp2_with fail
    have HS2 := Lib.hid ((HS.out.keep ((Only.refl NoneOf wr).alloc (.cells (opCells 0 j q o x) 23))).keep ((Only.refl NoneOf _).alloc (.cells (docAc (pick j x0 x1 x2).there (pick j x0 x1 x2).ac) 36)))
    have hB62 := hB6.alloc (.cells (docAc (pick j x0 x1 x2).there (pick j x0 x1 x2).ac) 36)
    have hB82 := Blk.new' (wr.alloc (.cells (opCells 0 j q o x) 23)) 36 (docAc (pick j x0 x1 x2).there (pick j x0 x1 x2).ac) (n := wr.heap.size + 1) (by simp)
    have hz2 : wr.heap.size + 1 < ((wr.alloc (.cells (opCells 0 j q o x) 23)).alloc (.cells (docAc (pick j x0 x1 x2).there (pick j x0 x1 x2).ac) 36)).heap.size := by simp
    generalize (wr.alloc (.cells (opCells 0 j q o x) 23)).alloc (.cells (docAc (pick j x0 x1 x2).there (pick j x0 x1 x2).ac) 36) = W2 at *
    refine (M W2).out.mono ?_; rintro e w2 ⟨b, rfl, hb, ha2, ho2⟩
    have HS3 := Lib.hid (HS2.out.keep ho2)
    have hB63 := hB62.only ho2 (fun h => h)
    have hB83 := hB82.only ho2 (fun h => h)
    have c0 := hB63.cellv 0 rfl
    have c1 := hB63.cellv 1 rfl
    have c2 := hB63.cellv 2 rfl
    have c3 := hB63.cellv 3 rfl
    clear g0 v0 v1 v2 v3 v4 v5
    clear e0 e1 e2 e3 e4 hB62 hB82
    go_wp2_with fail
    refine (R w2).out.mono ?_; rintro e w3 ⟨rfl, ho3⟩
    have HS4 := Lib.hid (HS3.out.keep ho3)
    have hB64 := hB63.only ho3 (fun h => h)
    have hB84 := hB83.only ho3 (fun h => h)
    clear c0 c1 c2 c3
    have c0 := hB64.cellv 0 rfl
    have c1 := hB64.cellv 1 rfl
    have c2 := hB64.cellv 2 rfl
    have t0 := hB84.free 0
    have t1 := hB84.free 1
    have t2 := hB84.free 2
    have t3 := hB84.free 3
    have t4 := hB84.free 4
    have t5 := hB84.free 5
    obtain ⟨d0, d1, d2, d3, d4, d5⟩ := docCells hB84
    have hw3 := hB84.lt
    clear hB63 hB83
    have ha4 := Lib.hid (show AcIs w3 b ⟨q, o, 0, 0, 0⟩ from Blk.only ha2 ho3 (fun h => h))
    clear ha2
    have g0 := HS4.out.here_at hj
    have g1 := HS4.out.here.free j
    obtain ⟨v0, v1, v2, v3, v4, v5⟩ := HS4.out.want_at hj
    have z0 := HS4.out.want.free (j * 6)
    have z1 := HS4.out.want.free (j * 6 + 1)
    have z2 := HS4.out.want.free (j * 6 + 2)
    have z3 := HS4.out.want.free (j * 6 + 3)
    have z4 := HS4.out.want.free (j * 6 + 4)
    have z5 := HS4.out.want.free (j * 6 + 5)
    go_wp2_with fail
    refine ⟨?rel, ?measure⟩
    case rel =>
      have hS5 := HS4.out.aside (c := wr.heap.size + 1) ⟨by omega, by omega, by omega⟩ (fun k hk hh => HOLD.out k hk (by omega)) (six_only (W := w3) (c := wr.heap.size + 1) (i0 := 0) (i1 := 1) (i2 := 2) (i3 := 3) (i4 := 4) (i5 := 5) (a0 := .bool true) (a1 := .int .i64 q) (a2 := .int .i64 o) (a3 := .int .i64 0) (a4 := .int .i64 0) (a5 := .int .i64 0))
      have hS6 := hS5.placed (r := (some (b, ⟨q, o, 0, 0, 0⟩) : Pl)) hj (PlIs.only (some_is ha4.out oks) six_only (fun k hk => by injection hk with hk; subst hk; omega)) (fun k hk => by
        injection hk with hk
        subst hk
        exact ⟨by omega, by omega, by omega, fun h => HOLD.out _ (.inl h) (by omega), fun h => HOLD.out _ (.inr (.inl h)) (by omega), fun h => HOLD.out _ (.inr (.inr h)) (by omega)⟩)
      exact ⟨m + 1, by omega, rfl, rfl, rfl, rfl, rfl, rfl, rfl, ws_num m, _, _, _, hS6.wrote_at (r := (some (b, ⟨q, o, 0, 0, 0⟩) : Pl)) hj⟩
    case measure => exact mu_less n m hlt
  · have M := fun u => Lib.hid (made_bad 0 j q o x u hl)
    have R := fun u => Lib.hid (rnew_bad q o u hl)
    have HOLD := Lib.hid (fun k hk hh => sc_old HS.out k hk hh)
    clear hl
    go_wp2_with fail
    have HS2 := Lib.hid ((HS.out.keep ((Only.refl NoneOf wr).alloc (.cells (opCells 0 j q o x) 23))).keep ((Only.refl NoneOf _).alloc (.cells (docAc (pick j x0 x1 x2).there (pick j x0 x1 x2).ac) 36)))
    have hB62 := hB6.alloc (.cells (docAc (pick j x0 x1 x2).there (pick j x0 x1 x2).ac) 36)
    have hB82 := Blk.new' (wr.alloc (.cells (opCells 0 j q o x) 23)) 36 (docAc (pick j x0 x1 x2).there (pick j x0 x1 x2).ac) (n := wr.heap.size + 1) (by simp)
    have hz2 : wr.heap.size + 1 < ((wr.alloc (.cells (opCells 0 j q o x) 23)).alloc (.cells (docAc (pick j x0 x1 x2).there (pick j x0 x1 x2).ac) 36)).heap.size := by simp
    generalize (wr.alloc (.cells (opCells 0 j q o x) 23)).alloc (.cells (docAc (pick j x0 x1 x2).there (pick j x0 x1 x2).ac) 36) = W2 at *
    refine (M W2).out.mono ?_; rintro e w2 ⟨rfl, ho2⟩
    have HS3 := Lib.hid (HS2.out.keep ho2)
    have hB63 := hB62.only ho2 (fun h => h)
    have hB83 := hB82.only ho2 (fun h => h)
    have c0 := hB63.cellv 0 rfl
    have c1 := hB63.cellv 1 rfl
    have c2 := hB63.cellv 2 rfl
    have c3 := hB63.cellv 3 rfl
    clear g0 v0 v1 v2 v3 v4 v5
    clear e0 e1 e2 e3 e4 hB62 hB82
    go_wp2_with fail
    refine (R w2).out.mono ?_; rintro e w3 ⟨rfl, ho3⟩
    have HS4 := Lib.hid (HS3.out.keep ho3)
    have hB64 := hB63.only ho3 (fun h => h)
    have hB84 := hB83.only ho3 (fun h => h)
    clear c0 c1 c2 c3
    have c0 := hB64.cellv 0 rfl
    have c1 := hB64.cellv 1 rfl
    have c2 := hB64.cellv 2 rfl
    have t0 := hB84.free 0
    have t1 := hB84.free 1
    have t2 := hB84.free 2
    have t3 := hB84.free 3
    have t4 := hB84.free 4
    have t5 := hB84.free 5
    obtain ⟨d0, d1, d2, d3, d4, d5⟩ := docCells hB84
    have hw3 := hB84.lt
    clear hB63 hB83
    have g0 := HS4.out.here_at hj
    have g1 := HS4.out.here.free j
    obtain ⟨v0, v1, v2, v3, v4, v5⟩ := HS4.out.want_at hj
    have z0 := HS4.out.want.free (j * 6)
    have z1 := HS4.out.want.free (j * 6 + 1)
    have z2 := HS4.out.want.free (j * 6 + 2)
    have z3 := HS4.out.want.free (j * 6 + 3)
    have z4 := HS4.out.want.free (j * 6 + 4)
    have z5 := HS4.out.want.free (j * 6 + 5)
    go_wp2_with fail
    refine ⟨?rel, ?measure⟩
    case rel =>
      have hS5 := HS4.out.aside (c := wr.heap.size + 1) ⟨by omega, by omega, by omega⟩ (fun k hk hh => HOLD.out k hk (by omega)) (six_only (W := w3) (c := wr.heap.size + 1) (i0 := 0) (i1 := 1) (i2 := 2) (i3 := 3) (i4 := 4) (i5 := 5) (a0 := .bool false) (a1 := .int .i64 0) (a2 := .int .i64 0) (a3 := .int .i64 0) (a4 := .int .i64 0) (a5 := .int .i64 0))
      have hS6 := hS5.placed (r := (none : Pl)) hj (none_is _) (fun k hk => by cases hk)
      exact ⟨m + 1, by omega, rfl, rfl, rfl, rfl, rfl, rfl, rfl, ws_num m, _, _, _, hS6.wrote_at (r := (none : Pl)) hj⟩
    case measure => exact mu_less n m hlt

set_option maxRecDepth 100000 in
set_option maxHeartbeats 4000000 in
theorem arm_lo6 (i : Int) (hi : i < 0) (e0 : wr.cell? ⟨blk, off + m * 5, none⟩ = some (.int .i64 k)) (e1 : wr.cell? ⟨blk, off + m * 5 + 1, none⟩ = some (.int .i64 i)) (e2 : wr.cell? ⟨blk, off + m * 5 + 2, none⟩ = some (.int .i64 q)) (e3 : wr.cell? ⟨blk, off + m * 5 + 3, none⟩ = some (.int .i64 o)) (e4 : wr.cell? ⟨blk, off + m * 5 + 4, none⟩ = some (.int .i64 x)) (hk : k = 6) :
    Code.wp Try.prog body4 (Exit.then (fun a' w'' => WI w b3 b4 n cap (some ⟨blk, off, none⟩) a' w'' ∧ mu4 n a' w'' < n - m) Q0) ⟨#[.slice (some ⟨blk, off, none⟩) n cap, u 1, u 2, .pointer (some ⟨b3, 0, none⟩), .pointer (some ⟨b4, 0, none⟩), u 5, u 6, u 7, u 8, u 9, u 10, u 11, u 12, u 13, u 14, u 15, .slice (some ⟨blk, off, none⟩) n cap, .int .i64 n, .int .i64 m, u 19, u 20, u 21, u 22, u 23, u 24, u 25, u 26, u 27, u 28, u 29, u 30, u 31, u 32, u 33, u 34, u 35, u 36, u 37, u 38, u 39, u 40, u 41, u 42, u 43, u 44, u 45, u 46, u 47, u 48, u 49, u 50, u 51, u 52, u 53, u 54, u 55, u 56, u 57, u 58, u 59, u 60, u 61, u 62, u 63, u 64, u 65, u 66, u 67, u 68, u 69, u 70, u 71, u 72, u 73, u 74, u 75, u 76, u 77, u 78, u 79, u 80, u 81, u 82, u 83, u 84, u 85, u 86, u 87, u 88, u 89, u 90, u 91, u 92, u 93, u 94, u 95, u 96, u 97, u 98, u 99, u 100, u 101, u 102, u 103, u 104, u 105, u 106, u 107, u 108, u 109, u 110, u 111, u 112, u 113, u 114, u 115, u 116, u 117, u 118, u 119, u 120, u 121, u 122, u 123, u 124, u 125, u 126, u 127, u 128, u 129, u 130, u 131, u 132, u 133, u 134, u 135, u 136, u 137, u 138, u 139, u 140, u 141, u 142, u 143, u 144, u 145, u 146, u 147, u 148, u 149, u 150, u 151, u 152, u 153, u 154, u 155, u 156, u 157, u 158, u 159, u 160, u 161, u 162, u 163, u 164], []⟩ wr := by
  conv => arg 2; whnf
  have _hn := hn
  have HS := Lib.hid hs
  have hws := hs.only.size
  have hB6 := Blk.new wr 23 (opCells k i q o x)
  have hg := hs.here.lt
  have hv := hs.want.lt
  have hfb := hs.farb
  clear hs
  subst hk
  go_wp2_with fail
  have HS2 := Lib.hid ((HS.out.keep ((Only.refl NoneOf wr).alloc (.cells (opCells 6 i q o x) 23))).keep ((Only.refl NoneOf _).alloc (.cells #[.bool false, .int .i64 0, .int .i64 0, .int .i64 0, .int .i64 0, .int .i64 0] 36)))
  have hB62 := hB6.alloc (.cells #[.bool false, .int .i64 0, .int .i64 0, .int .i64 0, .int .i64 0, .int .i64 0] 36)
  have hB82 := Blk.new' (wr.alloc (.cells (opCells 6 i q o x) 23)) 36 #[.bool false, .int .i64 0, .int .i64 0, .int .i64 0, .int .i64 0, .int .i64 0] (n := wr.heap.size + 1) (by simp)
  generalize (wr.alloc (.cells (opCells 6 i q o x) 23)).alloc (.cells #[.bool false, .int .i64 0, .int .i64 0, .int .i64 0, .int .i64 0, .int .i64 0] 36) = W2 at *
  have D := doc0Cells hB82
  obtain ⟨d0, d1, d2, d3, d4, d5⟩ := id D
  clear e0 e1 e2 e3 e4
  go_region_held3 (fun w' => w'.cell? ⟨wr.heap.size + 1, 0, none⟩ = some (.bool false) ∧ w'.cell? ⟨wr.heap.size + 1, 1, none⟩ = some (.int .i64 0) ∧ w'.cell? ⟨wr.heap.size + 1, 2, none⟩ = some (.int .i64 0) ∧ w'.cell? ⟨wr.heap.size + 1, 3, none⟩ = some (.int .i64 0) ∧ w'.cell? ⟨wr.heap.size + 1, 4, none⟩ = some (.int .i64 0) ∧ w'.cell? ⟨wr.heap.size + 1, 5, none⟩ = some (.int .i64 0))
    (first | exact D | exact D1)
    (first
      | (go_at_call 20; refine (nil20 W2.drew).mono ?_; rintro e w4 ⟨rfl, ho4⟩; have HS4 := Lib.hid ((HS2.out.keep (Only.refl NoneOf W2).drew).keep ho4); have hB64 := hB62.drew.only ho4 (fun h => h); have D1 := doc0Cells (hB82.drew.only ho4 (fun h => h)); clear ho4))
  have c1 := hB64.cellv 1 rfl
  go_wp2_with fail
  refine ⟨?rel, ?measure⟩
  case rel => exact ⟨m + 1, by omega, rfl, rfl, rfl, rfl, rfl, rfl, rfl, ws_num m, _, _, _, HS4.out⟩
  case measure => exact mu_less n m hlt

set_option maxRecDepth 100000 in
set_option maxHeartbeats 4000000 in
theorem arm_lo7 (i : Int) (hi : i < 0) (e0 : wr.cell? ⟨blk, off + m * 5, none⟩ = some (.int .i64 k)) (e1 : wr.cell? ⟨blk, off + m * 5 + 1, none⟩ = some (.int .i64 i)) (e2 : wr.cell? ⟨blk, off + m * 5 + 2, none⟩ = some (.int .i64 q)) (e3 : wr.cell? ⟨blk, off + m * 5 + 3, none⟩ = some (.int .i64 o)) (e4 : wr.cell? ⟨blk, off + m * 5 + 4, none⟩ = some (.int .i64 x)) (hk : k = 7) :
    Code.wp Try.prog body4 (Exit.then (fun a' w'' => WI w b3 b4 n cap (some ⟨blk, off, none⟩) a' w'' ∧ mu4 n a' w'' < n - m) Q0) ⟨#[.slice (some ⟨blk, off, none⟩) n cap, u 1, u 2, .pointer (some ⟨b3, 0, none⟩), .pointer (some ⟨b4, 0, none⟩), u 5, u 6, u 7, u 8, u 9, u 10, u 11, u 12, u 13, u 14, u 15, .slice (some ⟨blk, off, none⟩) n cap, .int .i64 n, .int .i64 m, u 19, u 20, u 21, u 22, u 23, u 24, u 25, u 26, u 27, u 28, u 29, u 30, u 31, u 32, u 33, u 34, u 35, u 36, u 37, u 38, u 39, u 40, u 41, u 42, u 43, u 44, u 45, u 46, u 47, u 48, u 49, u 50, u 51, u 52, u 53, u 54, u 55, u 56, u 57, u 58, u 59, u 60, u 61, u 62, u 63, u 64, u 65, u 66, u 67, u 68, u 69, u 70, u 71, u 72, u 73, u 74, u 75, u 76, u 77, u 78, u 79, u 80, u 81, u 82, u 83, u 84, u 85, u 86, u 87, u 88, u 89, u 90, u 91, u 92, u 93, u 94, u 95, u 96, u 97, u 98, u 99, u 100, u 101, u 102, u 103, u 104, u 105, u 106, u 107, u 108, u 109, u 110, u 111, u 112, u 113, u 114, u 115, u 116, u 117, u 118, u 119, u 120, u 121, u 122, u 123, u 124, u 125, u 126, u 127, u 128, u 129, u 130, u 131, u 132, u 133, u 134, u 135, u 136, u 137, u 138, u 139, u 140, u 141, u 142, u 143, u 144, u 145, u 146, u 147, u 148, u 149, u 150, u 151, u 152, u 153, u 154, u 155, u 156, u 157, u 158, u 159, u 160, u 161, u 162, u 163, u 164], []⟩ wr := by
  conv => arg 2; whnf
  have _hn := hn
  have HS := Lib.hid hs
  have hws := hs.only.size
  have hB6 := Blk.new wr 23 (opCells k i q o x)
  have hg := hs.here.lt
  have hv := hs.want.lt
  have hfb := hs.farb
  clear hs
  subst hk
  go_wp2_with fail
  have HS2 := Lib.hid ((HS.out.keep ((Only.refl NoneOf wr).alloc (.cells (opCells 7 i q o x) 23))).keep ((Only.refl NoneOf _).alloc (.cells #[.bool false, .int .i64 0, .int .i64 0, .int .i64 0, .int .i64 0, .int .i64 0] 36)))
  have hB62 := hB6.alloc (.cells #[.bool false, .int .i64 0, .int .i64 0, .int .i64 0, .int .i64 0, .int .i64 0] 36)
  have hB82 := Blk.new' (wr.alloc (.cells (opCells 7 i q o x) 23)) 36 #[.bool false, .int .i64 0, .int .i64 0, .int .i64 0, .int .i64 0, .int .i64 0] (n := wr.heap.size + 1) (by simp)
  generalize (wr.alloc (.cells (opCells 7 i q o x) 23)).alloc (.cells #[.bool false, .int .i64 0, .int .i64 0, .int .i64 0, .int .i64 0, .int .i64 0] 36) = W2 at *
  have D := doc0Cells hB82
  obtain ⟨d0, d1, d2, d3, d4, d5⟩ := id D
  clear e0 e1 e2 e3 e4
  go_region_held3 (fun w' => w'.cell? ⟨wr.heap.size + 1, 0, none⟩ = some (.bool false) ∧ w'.cell? ⟨wr.heap.size + 1, 1, none⟩ = some (.int .i64 0) ∧ w'.cell? ⟨wr.heap.size + 1, 2, none⟩ = some (.int .i64 0) ∧ w'.cell? ⟨wr.heap.size + 1, 3, none⟩ = some (.int .i64 0) ∧ w'.cell? ⟨wr.heap.size + 1, 4, none⟩ = some (.int .i64 0) ∧ w'.cell? ⟨wr.heap.size + 1, 5, none⟩ = some (.int .i64 0))
    (first | exact D | exact D1)
    (first
      | (go_at_call 29; refine (nil29 W2.drew).mono ?_; rintro e w4 ⟨rfl, ho4⟩; have HS4 := Lib.hid ((HS2.out.keep (Only.refl NoneOf W2).drew).keep ho4); have hB64 := hB62.drew.only ho4 (fun h => h); have D1 := doc0Cells (hB82.drew.only ho4 (fun h => h)); clear ho4))
  have c1 := hB64.cellv 1 rfl
  go_wp2_with fail
  refine ⟨?rel, ?measure⟩
  case rel => exact ⟨m + 1, by omega, rfl, rfl, rfl, rfl, rfl, rfl, rfl, ws_num m, _, _, _, HS4.out⟩
  case measure => exact mu_less n m hlt

end

end Go.Proofs.Ytkfihfipnbbfcaa
