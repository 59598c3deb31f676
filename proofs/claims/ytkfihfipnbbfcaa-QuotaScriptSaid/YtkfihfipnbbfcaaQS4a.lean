/-
  Layer 15: QuotaScript walked.
-/
import Derived.Test.YtkfihfipnbbfcaaQS3
import Derived.Test.YtkfihfipnbbfcaaQ5
namespace Go.Proofs.Ytkfihfipnbbfcaa
open Go.RowKit

abbrev here3 (x0 x1 x2 : Pl) : Array Value := #[.pointer x0.at, .pointer x1.at, .pointer x2.at]
abbrev want3 (x0 x1 x2 : Pl) : Array Value := #[.bool x0.there, .int .i64 x0.ac.most, .int .i64 x0.ac.mostOpen, .int .i64 x0.ac.live, .int .i64 x0.ac.pending, .int .i64 x0.ac.opened, .bool x1.there, .int .i64 x1.ac.most, .int .i64 x1.ac.mostOpen, .int .i64 x1.ac.live, .int .i64 x1.ac.pending, .int .i64 x1.ac.opened, .bool x2.there, .int .i64 x2.ac.most, .int .i64 x2.ac.mostOpen, .int .i64 x2.ac.live, .int .i64 x2.ac.pending, .int .i64 x2.ac.opened]

/-- The three accounts, the program's and the document's. -/
structure ScIs (w W : World) (b3 b4 : Nat) (x0 x1 x2 y0 y1 y2 : Pl) : Prop where
  only : Only NoneOf w W
  here : Blk W b3 34 (here3 x0 x1 x2)
  want : Blk W b4 37 (want3 y0 y1 y2)
  p0 : PlIs W x0
  p1 : PlIs W x1
  p2 : PlIs W x2
  a01 : ∀ k, x0.block = some k → x1.block ≠ some k
  a02 : ∀ k, x0.block = some k → x2.block ≠ some k
  a12 : ∀ k, x1.block = some k → x2.block ≠ some k
  far : ∀ k, x0.block = some k ∨ x1.block = some k ∨ x2.block = some k → w.heap.size ≤ k ∧ k ≠ b3 ∧ k ≠ b4
  farb : w.heap.size ≤ b3 ∧ w.heap.size ≤ b4 ∧ b3 ≠ b4

theorem ScIs.keep {w W W' : World} {b3 b4 : Nat} {x0 x1 x2 y0 y1 y2 : Pl} (h : ScIs w W b3 b4 x0 x1 x2 y0 y1 y2) (ho : Only NoneOf W W') : ScIs w W' b3 b4 x0 x1 x2 y0 y1 y2 :=
  ⟨h.only.trans ho, h.here.only ho (fun h => h), h.want.only ho (fun h => h), h.p0.only ho (fun _ _ h => h), h.p1.only ho (fun _ _ h => h), h.p2.only ho (fun _ _ h => h), h.a01, h.a02, h.a12, h.far, h.farb⟩

theorem Pl.on_at (f : Ac → Ac × Int) (x : Pl) : (x.on f).1.at = x.at := by cases x <;> rfl

theorem ScIs.did0 {w W W' : World} {b3 b4 : Nat} {x0 x1 x2 y0 y1 y2 r : Pl} (h : ScIs w W b3 b4 x0 x1 x2 y0 y1 y2) (hp : PlIs W' r) (hb : r.block = x0.block) (hat : r.at = x0.at) (ho : Only (fun k => x0.block = some k) W W') : ScIs w W' b3 b4 r x1 x2 y0 y1 y2 :=
  ⟨h.only.step ho (fun k hk hh => by have := (h.far k (.inl hh)).1; omega), by have := h.here.only ho (fun hh => (h.far _ (.inl hh)).2.1 rfl); unfold here3 at *; rw [hat]; exact this, h.want.only ho (fun hh => (h.far _ (.inl hh)).2.2 rfl), hp,
    h.p1.only ho (fun k hk hh => h.a01 k hh hk), h.p2.only ho (fun k hk hh => h.a02 k hh hk), by rw [hb]; exact h.a01, by rw [hb]; exact h.a02, h.a12, by rw [hb]; exact h.far, h.farb⟩

theorem one_only {W W' : World} {c i : Nat} {a : Value} (h : Only (· = c) W W') : Only (· = c) W (W'.setCell ⟨c, i, none⟩ a) := h.put (p := ⟨c, i, none⟩) (.inl rfl) a

theorem six_only {W : World} {c i0 i1 i2 i3 i4 i5 : Nat} {a0 a1 a2 a3 a4 a5 : Value} :
    Only (· = c) W ((((((W.setCell ⟨c, i0, none⟩ a0).setCell ⟨c, i1, none⟩ a1).setCell ⟨c, i2, none⟩ a2).setCell ⟨c, i3, none⟩ a3).setCell ⟨c, i4, none⟩ a4).setCell ⟨c, i5, none⟩ a5) :=
  one_only (one_only (one_only (one_only (one_only (one_only (Only.refl _ W))))))

theorem ScIs.aside {w W W' : World} {b3 b4 c : Nat} {x0 x1 x2 y0 y1 y2 : Pl} (h : ScIs w W b3 b4 x0 x1 x2 y0 y1 y2) (hc : w.heap.size ≤ c ∧ b3 ≠ c ∧ b4 ≠ c) (hx : ∀ k, x0.block = some k ∨ x1.block = some k ∨ x2.block = some k → k ≠ c) (ho : Only (· = c) W W') : ScIs w W' b3 b4 x0 x1 x2 y0 y1 y2 :=
  ⟨h.only.step ho (fun k hk hh => by omega), h.here.only ho hc.2.1, h.want.only ho hc.2.2, h.p0.only ho (fun k hk hh => hx k (.inl hk) hh), h.p1.only ho (fun k hk hh => hx k (.inr (.inl hk)) hh), h.p2.only ho (fun k hk hh => hx k (.inr (.inr hk)) hh), h.a01, h.a02, h.a12, h.far, h.farb⟩

theorem ScIs.wrote {w W W' : World} {b3 b4 : Nat} {x0 x1 x2 y0 y1 y2 z0 z1 z2 : Pl} (h : ScIs w W b3 b4 x0 x1 x2 y0 y1 y2) (ho : Only (· = b4) W W') (hw : Blk W' b4 37 (want3 z0 z1 z2)) : ScIs w W' b3 b4 x0 x1 x2 z0 z1 z2 :=
  ⟨h.only.step ho (fun k hk hh => by have := h.farb.2.1; omega), h.here.only ho h.farb.2.2, hw, h.p0.only ho (fun k hk hh => (h.far k (.inl hk)).2.2 hh), h.p1.only ho (fun k hk hh => (h.far k (.inr (.inl hk))).2.2 hh), h.p2.only ho (fun k hk hh => (h.far k (.inr (.inr hk))).2.2 hh), h.a01, h.a02, h.a12, h.far, h.farb⟩

theorem want_put0 {W : World} {b : Nat} {y0 y1 y2 r : Pl} (h : Blk W b 37 (want3 y0 y1 y2)) : Blk ((((((W.setCell ⟨b, 0, none⟩ (.bool r.there)).setCell ⟨b, 1, none⟩ (.int .i64 r.ac.most)).setCell ⟨b, 2, none⟩ (.int .i64 r.ac.mostOpen)).setCell ⟨b, 3, none⟩ (.int .i64 r.ac.live)).setCell ⟨b, 4, none⟩ (.int .i64 r.ac.pending)).setCell ⟨b, 5, none⟩ (.int .i64 r.ac.opened)) b 37 (want3 r y1 y2) := by
  have := (((((h.put 0 (.bool r.there)).put 1 (.int .i64 r.ac.most)).put 2 (.int .i64 r.ac.mostOpen)).put 3 (.int .i64 r.ac.live)).put 4 (.int .i64 r.ac.pending)).put 5 (.int .i64 r.ac.opened)
  simp only [want3, List.setIfInBounds_toArray, List.set_cons_succ, List.set_cons_zero] at this
  exact this

theorem want_put1 {W : World} {b : Nat} {y0 y1 y2 r : Pl} (h : Blk W b 37 (want3 y0 y1 y2)) : Blk ((((((W.setCell ⟨b, 6, none⟩ (.bool r.there)).setCell ⟨b, 7, none⟩ (.int .i64 r.ac.most)).setCell ⟨b, 8, none⟩ (.int .i64 r.ac.mostOpen)).setCell ⟨b, 9, none⟩ (.int .i64 r.ac.live)).setCell ⟨b, 10, none⟩ (.int .i64 r.ac.pending)).setCell ⟨b, 11, none⟩ (.int .i64 r.ac.opened)) b 37 (want3 y0 r y2) := by
  have := (((((h.put 6 (.bool r.there)).put 7 (.int .i64 r.ac.most)).put 8 (.int .i64 r.ac.mostOpen)).put 9 (.int .i64 r.ac.live)).put 10 (.int .i64 r.ac.pending)).put 11 (.int .i64 r.ac.opened)
  simp only [want3, List.setIfInBounds_toArray, List.set_cons_succ, List.set_cons_zero] at this
  exact this

theorem want_put2 {W : World} {b : Nat} {y0 y1 y2 r : Pl} (h : Blk W b 37 (want3 y0 y1 y2)) : Blk ((((((W.setCell ⟨b, 12, none⟩ (.bool r.there)).setCell ⟨b, 13, none⟩ (.int .i64 r.ac.most)).setCell ⟨b, 14, none⟩ (.int .i64 r.ac.mostOpen)).setCell ⟨b, 15, none⟩ (.int .i64 r.ac.live)).setCell ⟨b, 16, none⟩ (.int .i64 r.ac.pending)).setCell ⟨b, 17, none⟩ (.int .i64 r.ac.opened)) b 37 (want3 y0 y1 r) := by
  have := (((((h.put 12 (.bool r.there)).put 13 (.int .i64 r.ac.most)).put 14 (.int .i64 r.ac.mostOpen)).put 15 (.int .i64 r.ac.live)).put 16 (.int .i64 r.ac.pending)).put 17 (.int .i64 r.ac.opened)
  simp only [want3, List.setIfInBounds_toArray, List.set_cons_succ, List.set_cons_zero] at this
  exact this

/-- The place j of three. -/
def pick (j : Nat) (a b c : Pl) : Pl := if j = 0 then a else if j = 1 then b else c
def upd (i j : Nat) (r a : Pl) : Pl := if j = i then r else a

theorem ScIs.here_at {w W : World} {b3 b4 j : Nat} {x0 x1 x2 y0 y1 y2 : Pl} (h : ScIs w W b3 b4 x0 x1 x2 y0 y1 y2) (hj : j < 3) : W.cell? ⟨b3, j, none⟩ = some (.pointer (pick j x0 x1 x2).at) := by
  match j, hj with
  | 0, _ => exact h.here.cellv 0 rfl
  | 1, _ => exact h.here.cellv 1 rfl
  | 2, _ => exact h.here.cellv 2 rfl
theorem ScIs.want_at {w W : World} {b3 b4 j : Nat} {x0 x1 x2 y0 y1 y2 : Pl} (h : ScIs w W b3 b4 x0 x1 x2 y0 y1 y2) (hj : j < 3) :
    W.cell? ⟨b4, j * 6, none⟩ = some (.bool (pick j y0 y1 y2).there) ∧ W.cell? ⟨b4, j * 6 + 1, none⟩ = some (.int .i64 (pick j y0 y1 y2).ac.most) ∧ W.cell? ⟨b4, j * 6 + 2, none⟩ = some (.int .i64 (pick j y0 y1 y2).ac.mostOpen) ∧
      W.cell? ⟨b4, j * 6 + 3, none⟩ = some (.int .i64 (pick j y0 y1 y2).ac.live) ∧ W.cell? ⟨b4, j * 6 + 4, none⟩ = some (.int .i64 (pick j y0 y1 y2).ac.pending) ∧ W.cell? ⟨b4, j * 6 + 5, none⟩ = some (.int .i64 (pick j y0 y1 y2).ac.opened) := by
  match j, hj with
  | 0, _ => exact ⟨h.want.cellv 0 rfl, h.want.cellv 1 rfl, h.want.cellv 2 rfl, h.want.cellv 3 rfl, h.want.cellv 4 rfl, h.want.cellv 5 rfl⟩
  | 1, _ => exact ⟨h.want.cellv 6 rfl, h.want.cellv 7 rfl, h.want.cellv 8 rfl, h.want.cellv 9 rfl, h.want.cellv 10 rfl, h.want.cellv 11 rfl⟩
  | 2, _ => exact ⟨h.want.cellv 12 rfl, h.want.cellv 13 rfl, h.want.cellv 14 rfl, h.want.cellv 15 rfl, h.want.cellv 16 rfl, h.want.cellv 17 rfl⟩
theorem ScIs.pick_is {w W : World} {b3 b4 j : Nat} {x0 x1 x2 y0 y1 y2 : Pl} (h : ScIs w W b3 b4 x0 x1 x2 y0 y1 y2) : PlIs W (pick j x0 x1 x2) := by
  unfold pick
  split
  · exact h.p0
  · split
    · exact h.p1
    · exact h.p2
theorem ScIs.did1 {w W W' : World} {b3 b4 : Nat} {x0 x1 x2 y0 y1 y2 r : Pl} (h : ScIs w W b3 b4 x0 x1 x2 y0 y1 y2) (hp : PlIs W' r) (hb : r.block = x1.block) (hat : r.at = x1.at) (ho : Only (fun k => x1.block = some k) W W') : ScIs w W' b3 b4 x0 r x2 y0 y1 y2 :=
  ⟨h.only.step ho (fun k hk hh => by have := (h.far k (.inr (.inl hh))).1; omega), by have := h.here.only ho (fun hh => (h.far _ (.inr (.inl hh))).2.1 rfl); unfold here3 at *; rw [hat]; exact this, h.want.only ho (fun hh => (h.far _ (.inr (.inl hh))).2.2 rfl),
    h.p0.only ho (fun k hk hh => h.a01 k hk hh), hp, h.p2.only ho (fun k hk hh => h.a12 k hh hk), by rw [hb]; exact h.a01, h.a02, by rw [hb]; exact h.a12, by rw [hb]; exact h.far, h.farb⟩
theorem ScIs.did2 {w W W' : World} {b3 b4 : Nat} {x0 x1 x2 y0 y1 y2 r : Pl} (h : ScIs w W b3 b4 x0 x1 x2 y0 y1 y2) (hp : PlIs W' r) (hb : r.block = x2.block) (hat : r.at = x2.at) (ho : Only (fun k => x2.block = some k) W W') : ScIs w W' b3 b4 x0 x1 r y0 y1 y2 :=
  ⟨h.only.step ho (fun k hk hh => by have := (h.far k (.inr (.inr hh))).1; omega), by have := h.here.only ho (fun hh => (h.far _ (.inr (.inr hh))).2.1 rfl); unfold here3 at *; rw [hat]; exact this, h.want.only ho (fun hh => (h.far _ (.inr (.inr hh))).2.2 rfl),
    h.p0.only ho (fun k hk hh => h.a02 k hk hh), h.p1.only ho (fun k hk hh => h.a12 k hk hh), hp, h.a01, by rw [hb]; exact h.a02, by rw [hb]; exact h.a12, by rw [hb]; exact h.far, h.farb⟩
theorem ScIs.did {w W W' : World} {b3 b4 j : Nat} {x0 x1 x2 y0 y1 y2 r : Pl} (h : ScIs w W b3 b4 x0 x1 x2 y0 y1 y2) (hj : j < 3) (hp : PlIs W' r) (hb : r.block = (pick j x0 x1 x2).block) (hat : r.at = (pick j x0 x1 x2).at) (ho : Only (fun k => (pick j x0 x1 x2).block = some k) W W') :
    ScIs w W' b3 b4 (upd 0 j r x0) (upd 1 j r x1) (upd 2 j r x2) y0 y1 y2 := by
  match j, hj with
  | 0, _ => exact h.did0 hp hb hat ho
  | 1, _ => exact h.did1 hp hb hat ho
  | 2, _ => exact h.did2 hp hb hat ho

/-- The document's account at j, written. -/
theorem ScIs.wrote_at {w W : World} {b3 b4 j : Nat} {x0 x1 x2 y0 y1 y2 r : Pl} (h : ScIs w W b3 b4 x0 x1 x2 y0 y1 y2) (hj : j < 3) : ScIs w ((((((W.setCell ⟨b4, j * 6, none⟩ (.bool r.there)).setCell ⟨b4, j * 6 + 1, none⟩ (.int .i64 r.ac.most)).setCell ⟨b4, j * 6 + 2, none⟩ (.int .i64 r.ac.mostOpen)).setCell ⟨b4, j * 6 + 3, none⟩ (.int .i64 r.ac.live)).setCell ⟨b4, j * 6 + 4, none⟩ (.int .i64 r.ac.pending)).setCell ⟨b4, j * 6 + 5, none⟩ (.int .i64 r.ac.opened)) b3 b4 x0 x1 x2 (upd 0 j r y0) (upd 1 j r y1) (upd 2 j r y2) := by
  match j, hj with
  | 0, _ => exact h.wrote six_only (want_put0 h.want)
  | 1, _ => exact h.wrote six_only (want_put1 h.want)
  | 2, _ => exact h.wrote six_only (want_put2 h.want)

/-- The program's place j, filled anew. -/
theorem ScIs.placed {w W : World} {b3 b4 j : Nat} {x0 x1 x2 y0 y1 y2 r : Pl} (h : ScIs w W b3 b4 x0 x1 x2 y0 y1 y2) (hj : j < 3) (hp : PlIs W r) (hf : ∀ k, r.block = some k → w.heap.size ≤ k ∧ k ≠ b3 ∧ k ≠ b4 ∧ x0.block ≠ some k ∧ x1.block ≠ some k ∧ x2.block ≠ some k) :
    ScIs w (W.setCell ⟨b3, j, none⟩ (.pointer r.at)) b3 b4 (upd 0 j r x0) (upd 1 j r x1) (upd 2 j r x2) y0 y1 y2 := by
  have ho : Only (· = b3) W (W.setCell ⟨b3, j, none⟩ (.pointer r.at)) := one_only (Only.refl _ W)
  have hO := h.only.step ho (fun k hk hh => by have := h.farb.1; omega)
  have hW := h.want.only ho (fun e => h.farb.2.2 e.symm)
  have q0 := h.p0.only ho (fun k hk hh => (h.far k (.inl hk)).2.1 hh)
  have q1 := h.p1.only ho (fun k hk hh => (h.far k (.inr (.inl hk))).2.1 hh)
  have q2 := h.p2.only ho (fun k hk hh => (h.far k (.inr (.inr hk))).2.1 hh)
  have qr := hp.only ho (fun k hk hh => (hf k hk).2.1 hh)
  match j, hj with
  | 0, _ => exact ⟨hO, h.here.put 0 _, hW, qr, q1, q2, fun k hk => (hf k hk).2.2.2.2.1, fun k hk => (hf k hk).2.2.2.2.2, h.a12, fun k hk => by
      rcases hk with hk | hk
      · exact ⟨(hf k hk).1, (hf k hk).2.1, (hf k hk).2.2.1⟩
      · exact h.far k (.inr hk), h.farb⟩
  | 1, _ => exact ⟨hO, h.here.put 1 _, hW, q0, qr, q2, fun k hk hh => (hf k hh).2.2.2.1 hk, h.a02, fun k hk => (hf k hk).2.2.2.2.2, fun k hk => by
      rcases hk with hk | hk | hk
      · exact h.far k (.inl hk)
      · exact ⟨(hf k hk).1, (hf k hk).2.1, (hf k hk).2.2.1⟩
      · exact h.far k (.inr (.inr hk)), h.farb⟩
  | 2, _ => exact ⟨hO, h.here.put 2 _, hW, q0, q1, qr, h.a01, fun k hk hh => (hf k hh).2.2.2.1 hk, fun k hk hh => (hf k hh).2.2.2.2.1 hk, fun k hk => by
      rcases hk with hk | hk | hk
      · exact h.far k (.inl hk)
      · exact h.far k (.inr (.inl hk))
      · exact ⟨(hf k hk).1, (hf k hk).2.1, (hf k hk).2.2.1⟩, h.farb⟩

theorem sc_lt {w W : World} {b3 b4 j : Nat} {x0 x1 x2 y0 y1 y2 r : Pl} (h : ScIs w W b3 b4 x0 x1 x2 y0 y1 y2) (hj : j < 3) (hb : r.block = (pick j x0 x1 x2).block) (k : Nat) (hk : (upd 0 j r x0).block = some k ∨ (upd 1 j r x1).block = some k ∨ (upd 2 j r x2).block = some k) (hge : W.heap.size ≤ k) : False := by
  have h0 := fun hh => PlIs.lt h.p0 k hh
  have h1 := fun hh => PlIs.lt h.p1 k hh
  have h2 := fun hh => PlIs.lt h.p2 k hh
  match j, hj with
  | 0, _ => rcases hk with hk | hk | hk
            · have := h0 (hb ▸ hk); omega
            · have := h1 hk; omega
            · have := h2 hk; omega
  | 1, _ => rcases hk with hk | hk | hk
            · have := h0 hk; omega
            · have := h1 (hb ▸ hk); omega
            · have := h2 hk; omega
  | 2, _ => rcases hk with hk | hk | hk
            · have := h0 hk; omega
            · have := h1 hk; omega
            · have := h2 (hb ▸ hk); omega

theorem upd_same {j : Nat} (hj : j < 3) (x0 x1 x2 : Pl) : upd 0 j (pick j x0 x1 x2) x0 = x0 ∧ upd 1 j (pick j x0 x1 x2) x1 = x1 ∧ upd 2 j (pick j x0 x1 x2) x2 = x2 := by
  match j, hj with
  | 0, _ => exact ⟨rfl, rfl, rfl⟩
  | 1, _ => exact ⟨rfl, rfl, rfl⟩
  | 2, _ => exact ⟨rfl, rfl, rfl⟩

/-- The document's account at j, written as it was. -/
theorem ScIs.same_at {w W' : World} {b3 b4 j : Nat} {x0 x1 x2 y0 y1 y2 : Pl} (hj : j < 3) (h : ScIs w W' b3 b4 x0 x1 x2 (upd 0 j (pick j y0 y1 y2) y0) (upd 1 j (pick j y0 y1 y2) y1) (upd 2 j (pick j y0 y1 y2) y2)) : ScIs w W' b3 b4 x0 x1 x2 y0 y1 y2 := by
  obtain ⟨e0, e1, e2⟩ := upd_same hj y0 y1 y2
  rw [e0, e1, e2] at h
  exact h

end Go.Proofs.Ytkfihfipnbbfcaa
