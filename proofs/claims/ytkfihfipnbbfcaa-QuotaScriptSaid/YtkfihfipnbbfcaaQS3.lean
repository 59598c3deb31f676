/-
  Layer 15: what an account tells, of one or of none; shown.
-/
import Derived.Test.YtkfihfipnbbfcaaQS2
import Derived.Deep.RegionHeld3
namespace Go.Proofs.Ytkfihfipnbbfcaa
open Go.RowKit

/-- What an account, or none, has used. -/
def Pl.used (x : Pl) : Int := x.ac.live + x.ac.pending

theorem used_any (x : Pl) (w : World) (h : PlIs w x) : Calls Try.prog 18 #[.pointer x.at] w fun e w' => e = .returned (.int .i64 (x.ac.live + x.ac.pending)) ∧ ∃ n, w' = w.drewN n := by
  match x, h with
  | none, _ =>
    go_enter Try.func18, Try.ntmps18
    go_wp2_with fail
    go_ret
    exact ⟨rfl, 0, rfl⟩
  | some (b, s), h => exact used_has b s w (h.cells b s rfl) (h.ok b s rfl)
theorem pending_any (x : Pl) (w : World) (h : PlIs w x) : Calls Try.prog 20 #[.pointer x.at] w fun e w' => e = .returned (.int .i64 x.ac.pending) ∧ w = w' := by
  match x, h with
  | none, _ =>
    go_enter Try.func20, Try.ntmps20
    go_wp2_with fail
    go_ret
    exact ⟨rfl, rfl⟩
  | some (b, s), h => exact pending_has b s w (h.cells b s rfl)
theorem open_any (x : Pl) (w : World) (h : PlIs w x) : Calls Try.prog 29 #[.pointer x.at] w fun e w' => e = .returned (.int .i64 x.ac.opened) ∧ w = w' := by
  match x, h with
  | none, _ =>
    go_enter Try.func29, Try.ntmps29
    go_wp2_with fail
    go_ret
    exact ⟨rfl, rfl⟩
  | some (b, s), h => exact open_has b s w (h.cells b s rfl)

set_option maxHeartbeats 400000 in
theorem rused_any (t : Bool) (s : Ac) (w : World) (h0 : 0 ≤ s.live) (h1 : 0 ≤ s.pending) (h2 : s.live + s.pending ≤ 1048576) : Calls Try.prog 28 #[.agg (docAc t s)] w fun e w' => e = .returned (.int .i64 (s.live + s.pending)) ∧ Only NoneOf w w' := by
  go_enter Try.func28, Try.ntmps28
  go_wp2_with fail
  go_ret
  exact ⟨rfl, by repeat (first | exact Only.refl _ _ | refine Only.drewN ?_ _ | refine Only.alloc ?_ _)⟩

theorem ac_bounds {w : World} {x : Pl} (h : PlIs w x) : 0 ≤ x.ac.live ∧ 0 ≤ x.ac.pending ∧ x.ac.live + x.ac.pending ≤ 1048576 := by
  match x, h with
  | none, _ => exact ⟨Int.le_refl _, Int.le_refl _, by decide⟩
  | some (b, s), h =>
    have ok := h.ok b s rfl
    exact ⟨ok.l0, ok.p0, by have := ok.u1; have := ok.m1; show s.live + s.pending ≤ 1048576; omega⟩

theorem docCells {w : World} {b : Nat} {t : Bool} {s : Ac} (h : Blk w b 36 (docAc t s)) : w.cell? ⟨b, 0, none⟩ = some (.bool t) ∧ w.cell? ⟨b, 1, none⟩ = some (.int .i64 s.most) ∧ w.cell? ⟨b, 2, none⟩ = some (.int .i64 s.mostOpen) ∧ w.cell? ⟨b, 3, none⟩ = some (.int .i64 s.live) ∧ w.cell? ⟨b, 4, none⟩ = some (.int .i64 s.pending) ∧ w.cell? ⟨b, 5, none⟩ = some (.int .i64 s.opened) :=
  ⟨h.cellv 0 rfl, h.cellv 1 rfl, h.cellv 2 rfl, h.cellv 3 rfl, h.cellv 4 rfl, h.cellv 5 rfl⟩

set_option maxRecDepth 100000 in
set_option maxHeartbeats 1000000 in
theorem shown_any (x : Pl) (w : World) (h : PlIs w x) : Calls Try.prog 30 #[.pointer x.at, .agg (docAc x.there x.ac)] w fun e w' => e = .returned (.bool true) ∧ Only NoneOf w w' := by
  obtain ⟨h0, h1, h2⟩ := ac_bounds h
  have HP := Lib.hid (h.only ((Only.refl NoneOf w).alloc (.cells (docAc x.there x.ac) 36)) (fun _ _ h => h))
  have hB := Blk.new w 36 (docAc x.there x.ac)
  have hO := Lib.hid ((Only.refl NoneOf w).alloc (.cells (docAc x.there x.ac) 36))
  generalize x.there = t at *
  have HU := fun u hu => Lib.hid (used_any x u hu)
  have HQ := fun u hu => Lib.hid (pending_any x u hu)
  have HR := fun u hu => Lib.hid (open_any x u hu)
  clear h
  generalize x.at = p at *
  generalize x.ac = s at *
  go_enter Try.func30, Try.ntmps30
  go_wp2_with fail
  generalize w.alloc (.cells (docAc t s) 36) = W at *
  have D := docCells hB
  obtain ⟨b0, b1, b2, b3, b4, b5⟩ := id D
  go_region_held3 (fun w' => w'.cell? ⟨w.heap.size, 0, none⟩ = some (.bool t) ∧ w'.cell? ⟨w.heap.size, 1, none⟩ = some (.int .i64 s.most) ∧ w'.cell? ⟨w.heap.size, 2, none⟩ = some (.int .i64 s.mostOpen) ∧ w'.cell? ⟨w.heap.size, 3, none⟩ = some (.int .i64 s.live) ∧ w'.cell? ⟨w.heap.size, 4, none⟩ = some (.int .i64 s.pending) ∧ w'.cell? ⟨w.heap.size, 5, none⟩ = some (.int .i64 s.opened))
    (first | exact D | exact D1 | exact D2)
    (first
      | (go_at_call 18; refine (HU W.drew (HP.out.only (Only.refl NoneOf W).drew (fun _ _ h => h))).out.mono ?_; rintro e w1 ⟨rfl, n1, rfl⟩; have D1 := docCells (hB.drew.drewN n1); generalize hW1 : W.drew.drewN n1 = W1 at *; have HO1 := Lib.hid ((hO.out.drew).drewN n1); have HP1 := Lib.hid (HP.out.only ((Only.refl NoneOf W).drew.drewN n1) (fun _ _ h => h)); have hB1 := hB.drew.drewN n1; rw [hW1] at HO1 HP1 hB1; clear hW1)
      | (go_at_call 28; refine (rused_any t s W1 h0 h1 h2).mono ?_; rintro e w2 ⟨rfl, ho2⟩; have D2 := docCells (hB1.only ho2 (fun h => h)); have HO2 := Lib.hid (HO1.out.trans ho2); have HP2 := Lib.hid (HP1.out.only ho2 (fun _ _ h => h)); clear ho2)
      | (go_at_call 20; refine (HQ w2 HP2.out).out.mono ?_; rintro e w3 ⟨rfl, rfl⟩)
      | (go_at_call 29; refine (HR w2 HP2.out).out.mono ?_; rintro e w3 ⟨rfl, rfl⟩))
  go_wp2_with fail
  go_ret
  exact ⟨by simp, HO2.out⟩

end Go.Proofs.Ytkfihfipnbbfcaa
