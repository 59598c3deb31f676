/-
  Layer 4: items made; one field alone.
-/
import Derived.Test.YtimoenpfnaaehaaO1
import Derived.StillTailTactics
import Derived.RegionTactic
import Derived.ChangeAlike
namespace Go.Proofs.Ytimoenpfnaaehaa
open Go.RowKit

/-- An item's cells; and those by its numbers' bits. -/
abbrev itC (k : Int) (b : Bool) (n : Int) (f re im : Nat) (t : ByteArray) : Array Value := #[.int .i64 k, .bool b, .int .i64 n, .float .f64 f, .complex .f64 re im, .string t]
abbrev rwC (k : Int) (b : Bool) (n : Int) (f re im : Nat) (t : ByteArray) : Array Value := #[.int .i64 k, .bool b, .int .i64 n, .int .u64 (f : Int), .int .u64 (re : Int), .int .u64 (im : Int), .string t]

/-- A call that answers; nothing that was there has turned. -/
def Ans (v : Value) (w : World) (e : Ending) (w' : World) : Prop := e = .returned v ∧ Only NoneOf w w'

theorem blk7 {w : World} {b : Nat} {t : TypeId} {c0 c1 c2 c3 c4 c5 c6 : Value} (h : Blk w b t #[c0, c1, c2, c3, c4, c5, c6]) : w.cell? ⟨b, 0, none⟩ = some c0 ∧ w.cell? ⟨b, 1, none⟩ = some c1 ∧ w.cell? ⟨b, 2, none⟩ = some c2 ∧
    w.cell? ⟨b, 3, none⟩ = some c3 ∧ w.cell? ⟨b, 4, none⟩ = some c4 ∧ w.cell? ⟨b, 5, none⟩ = some c5 ∧ w.cell? ⟨b, 6, none⟩ = some c6 :=
  ⟨h.cellv 0 rfl, h.cellv 1 rfl, h.cellv 2 rfl, h.cellv 3 rfl, h.cellv 4 rfl, h.cellv 5 rfl, h.cellv 6 rfl⟩
theorem blk6 {w : World} {b : Nat} {t : TypeId} {c0 c1 c2 c3 c4 c5 : Value} (h : Blk w b t #[c0, c1, c2, c3, c4, c5]) : w.cell? ⟨b, 0, none⟩ = some c0 ∧ w.cell? ⟨b, 1, none⟩ = some c1 ∧ w.cell? ⟨b, 2, none⟩ = some c2 ∧
    w.cell? ⟨b, 3, none⟩ = some c3 ∧ w.cell? ⟨b, 4, none⟩ = some c4 ∧ w.cell? ⟨b, 5, none⟩ = some c5 :=
  ⟨h.cellv 0 rfl, h.cellv 1 rfl, h.cellv 2 rfl, h.cellv 3 rfl, h.cellv 4 rfl, h.cellv 5 rfl⟩

set_option maxHeartbeats 400000 in
theorem doc_is (k : Int) (b : Bool) (n : Int) (f re im : Nat) (t : ByteArray) (w : World) : Calls Try.prog 20 #[.agg (rwC k b n f re im t)] w (Ans (.agg (rwC k b n f re im t)) w) := by
  go_enter Try.func20, Try.ntmps20
  go_wp2_with fail
  exact bodyPost_ret (v := .agg (rwC k b n f re im t)) (by simp [results, Try.results20, go_sem]) rfl
    ⟨rfl, by repeat (first | exact Only.refl _ _ | refine Only.drew ?_ | refine Only.drewN ?_ _ | refine Only.alloc ?_ _ | refine Only.put ?_ (.inr (by simp)) _)⟩

abbrev itZ : Array Value := #[.int .i64 0, .bool false, .int .i64 0, .float .f64 0, .complex .f64 0 0, .string ⟨#[]⟩]
/-- two new blocks -/
theorem new2 (w : World) (t u : TypeId) (c d : Array Value) : Blk ((w.alloc (.cells c t)).alloc (.cells d u)) w.heap.size t c ∧ Blk ((w.alloc (.cells c t)).alloc (.cells d u)) (w.heap.size + 1) u d ∧ Only NoneOf w ((w.alloc (.cells c t)).alloc (.cells d u)) :=
  ⟨(Blk.new w t c).alloc _, Blk.new' _ _ _ (by simp), ((Only.refl _ _).alloc _).alloc _⟩

section
variable {w w' : World} {b g : Nat} {t : TypeId} {cs ds : Array Value} {S : Nat → Prop}
theorem Blk.row (h : Blk w b t cs) (ds : Array Value) : Blk (w.setRow b ds) b t ds := setRow_heap w b cs ds t _ h
theorem Blk.row_far (h : Blk w b t cs) (hne : b ≠ g) (ds : Array Value) : Blk (w.setRow g ds) b t cs := (setRow_other w g b ds hne).trans h
theorem Only.row (h : Only S w w') (hb : S b ∨ w.heap.size ≤ b) (ds : Array Value) : Only S w (w'.setRow b ds) :=
  ⟨h.os, h.tape, h.output, by simpa using h.size, fun i hi hs => (setRow_other w' b i ds (by
    rintro rfl
    rcases hb with hp | hp
    · exact hs hp
    · omega)).trans (h.block i hi hs)⟩
end
theorem info29 : (Try.prog.info? 29).map (·.size) = some 6 := by kernel_rfl
theorem info32 : (Try.prog.info? 32).map (·.size) = some 7 := by kernel_rfl
theorem info25 : (Try.prog.info? 25).map (·.size) = some 7 := by kernel_rfl
theorem one_itC (k : Int) (b : Bool) (n : Int) (f re im : Nat) (t : ByteArray) : (itC k b n f re im t).all (·.oneCell') = true := by simp [Value.oneCell']
theorem one_rwC (k : Int) (b : Bool) (n : Int) (f re im : Nat) (t : ByteArray) : (rwC k b n f re im t).all (·.oneCell') = true := by simp [Value.oneCell']

set_option maxRecDepth 100000 in
set_option maxHeartbeats 400000 in
theorem item_is (k : Int) (b : Bool) (n : Int) (f re im : Nat) (t : ByteArray) (w : World) : Calls Try.prog 18 #[.agg (rwC k b n f re im t)] w (Ans (.agg (itC k b n f re im t)) w) := by
  have e1 := ext45
  obtain ⟨B1, B2, O⟩ := new2 w 25 29 (rwC k b n f re im t) itZ
  have HO := Lib.hid O
  clear O
  go_enter Try.func18, Try.ntmps18
  go_wp2_with fail
  generalize (w.alloc (.cells (rwC k b n f re im t) 25)).alloc (.cells itZ 29) = W at *
  obtain ⟨c0, c1, c2, c3, c4, c5, c6⟩ := blk7 B1
  go_still_tail 19, (by kernel_rfl)
  change wpList _ _ _ _ _ W.drew
  refine wpList_store_row rfl 29 (.tmp 2) (.tmp 21) rfl (w.heap.size + 1) (itC k b n f re im t) rfl rfl 29 itZ B2.drew info29 rfl (one_itC k b n f re im t) ?_
  have HB := B2.drew.row (itC k b n f re im t)
  go_wp2_with fail
  exact bodyPost_ret (v := .agg (itC k b n f re im t)) (results_cell_row rfl _ _ _ 29 _ (0, 0) _ rfl HB Try.underlying29 rfl info29) rfl
    ⟨rfl, HO.out.drew.row (.inr (by omega)) _⟩

/-- An item. -/
structure It where
  k : Int
  b : Bool
  n : Int
  f : Nat
  re : Nat
  im : Nat
  t : ByteArray
abbrev It.c (x : It) : Array Value := itC x.k x.b x.n x.f x.re x.im x.t
abbrev It.r (x : It) : Array Value := rwC x.k x.b x.n x.f x.re x.im x.t
/-- An item with the field alone that its kind names. -/
def It.only (x : It) : It := ⟨x.k, if x.k = 2 then x.b else false, if x.k = 3 then x.n else 0, if x.k = 4 then x.f else 0, if x.k = 5 then x.re else 0, if x.k = 5 then x.im else 0, if x.k = 6 then x.t else ⟨#[]⟩⟩

theorem stF (a : Addr) (k : FloatKind) (n : Nat) (m : Mode) (w : World) : (store a (.float k n) m).run Try.prog w = stored Try.prog w a (.float k n) m := run_store Try.prog w a _ m rfl
theorem stC (a : Addr) (k : FloatKind) (x y : Nat) (m : Mode) (w : World) : (store a (.complex k x y) m).run Try.prog w = stored Try.prog w a (.complex k x y) m := run_store Try.prog w a _ m rfl

theorem new3 (w : World) (t u v : TypeId) (c d e : Array Value) : Blk (((w.alloc (.cells c t)).alloc (.cells d u)).alloc (.cells e v)) w.heap.size t c ∧ Blk (((w.alloc (.cells c t)).alloc (.cells d u)).alloc (.cells e v)) (w.heap.size + 1) u d ∧
    Blk (((w.alloc (.cells c t)).alloc (.cells d u)).alloc (.cells e v)) (w.heap.size + 1 + 1) v e ∧ Only NoneOf w (((w.alloc (.cells c t)).alloc (.cells d u)).alloc (.cells e v)) :=
  ⟨((Blk.new w t c).alloc _).alloc _, (Blk.new' _ _ _ (by simp)).alloc _, Blk.new' _ _ _ (by simp), (((Only.refl _ _).alloc _).alloc _).alloc _⟩

set_option maxHeartbeats 400000 in
theorem only_1 (b : Bool) (n : Int) (f re im : Nat) (t : ByteArray) (w : World) : Calls Try.prog 43 #[.agg (itC 1 b n f re im t)] w (Ans (.agg (itC 1 false 0 0 0 0 ⟨#[]⟩)) w) := by
  obtain ⟨B1, B2, B3, O⟩ := new3 w 29 29 29 (itC 1 b n f re im t) itZ itZ
  have HO := Lib.hid O
  clear O
  go_enter Try.func43, Try.ntmps43
  go_wp2_with (first | (refine wpList_store_row rfl 29 (.tmp 3) (.tmp 6) rfl (w.heap.size + 1 + 1) (itC 1 false 0 0 0 0 ⟨#[]⟩) rfl rfl 29 itZ B3 info29 rfl (one_itC 1 false 0 0 0 0 ⟨#[]⟩) ?_; have E1 := B1.row_far (g := w.heap.size + 1 + 1) (by omega) (itC 1 false 0 0 0 0 ⟨#[]⟩); have E2 := B2.row_far (g := w.heap.size + 1 + 1) (by omega) (itC 1 false 0 0 0 0 ⟨#[]⟩); have E3 := B3.row (itC 1 false 0 0 0 0 ⟨#[]⟩); have HO2 := Lib.hid (HO.out.row (b := w.heap.size + 1 + 1) (.inr (by omega)) (itC 1 false 0 0 0 0 ⟨#[]⟩)); generalize World.setRow _ (w.heap.size + 1 + 1) (itC 1 false 0 0 0 0 ⟨#[]⟩) = W at *; clear B1 B2 B3; obtain ⟨c0, c1, c2, c3, c4, c5⟩ := blk6 E1; have F3 := E3; have F2 := E2; have HO3 := HO2) | (refine wpList_load_row rfl 29 (.tmp 3) rfl (w.heap.size + 1 + 1) rfl 29 _ (0, 0) _ F3 Try.underlying29 rfl info29 ?_; refine wpList_store_row rfl 29 (.tmp 2) (.tmp 34) rfl (w.heap.size + 1) (itC 1 false 0 0 0 0 ⟨#[]⟩) rfl rfl 29 itZ F2 info29 rfl (one_itC 1 false 0 0 0 0 ⟨#[]⟩) ?_; have R2 := F2.row (itC 1 false 0 0 0 0 ⟨#[]⟩); have HO4 := Lib.hid (HO3.out.row (b := w.heap.size + 1) (.inr (by omega)) (itC 1 false 0 0 0 0 ⟨#[]⟩)); generalize World.setRow _ (w.heap.size + 1) (itC 1 false 0 0 0 0 ⟨#[]⟩) = W2 at *))
  exact bodyPost_ret (v := .agg (itC 1 false 0 0 0 0 ⟨#[]⟩)) (results_cell_row rfl _ _ _ 29 _ (0, 0) _ rfl R2 Try.underlying29 rfl info29) rfl ⟨rfl, HO4.out⟩

set_option maxHeartbeats 400000 in
theorem only_2 (b : Bool) (n : Int) (f re im : Nat) (t : ByteArray) (w : World) : Calls Try.prog 43 #[.agg (itC 2 b n f re im t)] w (Ans (.agg (itC 2 b 0 0 0 0 ⟨#[]⟩)) w) := by
  obtain ⟨B1, B2, B3, O⟩ := new3 w 29 29 29 (itC 2 b n f re im t) itZ itZ
  have HO := Lib.hid O
  clear O
  go_enter Try.func43, Try.ntmps43
  go_wp2_with (first | (refine wpList_store_row rfl 29 (.tmp 3) (.tmp 6) rfl (w.heap.size + 1 + 1) (itC 2 false 0 0 0 0 ⟨#[]⟩) rfl rfl 29 itZ B3 info29 rfl (one_itC 2 false 0 0 0 0 ⟨#[]⟩) ?_; have E1 := B1.row_far (g := w.heap.size + 1 + 1) (by omega) (itC 2 false 0 0 0 0 ⟨#[]⟩); have E2 := B2.row_far (g := w.heap.size + 1 + 1) (by omega) (itC 2 false 0 0 0 0 ⟨#[]⟩); have E3 := B3.row (itC 2 false 0 0 0 0 ⟨#[]⟩); have HO2 := Lib.hid (HO.out.row (b := w.heap.size + 1 + 1) (.inr (by omega)) (itC 2 false 0 0 0 0 ⟨#[]⟩)); generalize World.setRow _ (w.heap.size + 1 + 1) (itC 2 false 0 0 0 0 ⟨#[]⟩) = W at *; clear B1 B2 B3; obtain ⟨c0, c1, c2, c3, c4, c5⟩ := blk6 E1; obtain ⟨d0, d1, d2, d3, d4, d5⟩ := blk6 E3; have g1 := E3.free 1; have F3 : Blk (W.setCell ⟨w.heap.size + 1 + 1, 1, none⟩ (.bool b)) (w.heap.size + 1 + 1) 29 (itC 2 b 0 0 0 0 ⟨#[]⟩) := E3.put 1 (.bool b); have F2 : Blk (W.setCell ⟨w.heap.size + 1 + 1, 1, none⟩ (.bool b)) (w.heap.size + 1) 29 itZ := E2.far (p := ⟨w.heap.size + 1 + 1, 1, none⟩) (by simp) _; have HO3 := Lib.hid (show Only NoneOf w (W.setCell ⟨w.heap.size + 1 + 1, 1, none⟩ (.bool b)) from HO2.out.put (.inr (by show w.heap.size ≤ w.heap.size + 1 + 1; omega)) _)) | (refine wpList_load_row rfl 29 (.tmp 3) rfl (w.heap.size + 1 + 1) rfl 29 _ (0, 0) _ F3 Try.underlying29 rfl info29 ?_; refine wpList_store_row rfl 29 (.tmp 2) (.tmp 34) rfl (w.heap.size + 1) (itC 2 b 0 0 0 0 ⟨#[]⟩) rfl rfl 29 itZ F2 info29 rfl (one_itC 2 b 0 0 0 0 ⟨#[]⟩) ?_; have R2 := F2.row (itC 2 b 0 0 0 0 ⟨#[]⟩); have HO4 := Lib.hid (HO3.out.row (b := w.heap.size + 1) (.inr (by omega)) (itC 2 b 0 0 0 0 ⟨#[]⟩)); generalize World.setRow _ (w.heap.size + 1) (itC 2 b 0 0 0 0 ⟨#[]⟩) = W2 at *))
  exact bodyPost_ret (v := .agg (itC 2 b 0 0 0 0 ⟨#[]⟩)) (results_cell_row rfl _ _ _ 29 _ (0, 0) _ rfl R2 Try.underlying29 rfl info29) rfl ⟨rfl, HO4.out⟩

set_option maxHeartbeats 400000 in
theorem only_3 (b : Bool) (n : Int) (f re im : Nat) (t : ByteArray) (w : World) : Calls Try.prog 43 #[.agg (itC 3 b n f re im t)] w (Ans (.agg (itC 3 false n 0 0 0 ⟨#[]⟩)) w) := by
  obtain ⟨B1, B2, B3, O⟩ := new3 w 29 29 29 (itC 3 b n f re im t) itZ itZ
  have HO := Lib.hid O
  clear O
  go_enter Try.func43, Try.ntmps43
  go_wp2_with (first | (refine wpList_store_row rfl 29 (.tmp 3) (.tmp 6) rfl (w.heap.size + 1 + 1) (itC 3 false 0 0 0 0 ⟨#[]⟩) rfl rfl 29 itZ B3 info29 rfl (one_itC 3 false 0 0 0 0 ⟨#[]⟩) ?_; have E1 := B1.row_far (g := w.heap.size + 1 + 1) (by omega) (itC 3 false 0 0 0 0 ⟨#[]⟩); have E2 := B2.row_far (g := w.heap.size + 1 + 1) (by omega) (itC 3 false 0 0 0 0 ⟨#[]⟩); have E3 := B3.row (itC 3 false 0 0 0 0 ⟨#[]⟩); have HO2 := Lib.hid (HO.out.row (b := w.heap.size + 1 + 1) (.inr (by omega)) (itC 3 false 0 0 0 0 ⟨#[]⟩)); generalize World.setRow _ (w.heap.size + 1 + 1) (itC 3 false 0 0 0 0 ⟨#[]⟩) = W at *; clear B1 B2 B3; obtain ⟨c0, c1, c2, c3, c4, c5⟩ := blk6 E1; obtain ⟨d0, d1, d2, d3, d4, d5⟩ := blk6 E3; have g2 := E3.free 2; have F3 : Blk (W.setCell ⟨w.heap.size + 1 + 1, 2, none⟩ (.int .i64 n)) (w.heap.size + 1 + 1) 29 (itC 3 false n 0 0 0 ⟨#[]⟩) := E3.put 2 (.int .i64 n); have F2 : Blk (W.setCell ⟨w.heap.size + 1 + 1, 2, none⟩ (.int .i64 n)) (w.heap.size + 1) 29 itZ := E2.far (p := ⟨w.heap.size + 1 + 1, 2, none⟩) (by simp) _; have HO3 := Lib.hid (show Only NoneOf w (W.setCell ⟨w.heap.size + 1 + 1, 2, none⟩ (.int .i64 n)) from HO2.out.put (.inr (by show w.heap.size ≤ w.heap.size + 1 + 1; omega)) _)) | (refine wpList_load_row rfl 29 (.tmp 3) rfl (w.heap.size + 1 + 1) rfl 29 _ (0, 0) _ F3 Try.underlying29 rfl info29 ?_; refine wpList_store_row rfl 29 (.tmp 2) (.tmp 34) rfl (w.heap.size + 1) (itC 3 false n 0 0 0 ⟨#[]⟩) rfl rfl 29 itZ F2 info29 rfl (one_itC 3 false n 0 0 0 ⟨#[]⟩) ?_; have R2 := F2.row (itC 3 false n 0 0 0 ⟨#[]⟩); have HO4 := Lib.hid (HO3.out.row (b := w.heap.size + 1) (.inr (by omega)) (itC 3 false n 0 0 0 ⟨#[]⟩)); generalize World.setRow _ (w.heap.size + 1) (itC 3 false n 0 0 0 ⟨#[]⟩) = W2 at *))
  exact bodyPost_ret (v := .agg (itC 3 false n 0 0 0 ⟨#[]⟩)) (results_cell_row rfl _ _ _ 29 _ (0, 0) _ rfl R2 Try.underlying29 rfl info29) rfl ⟨rfl, HO4.out⟩

set_option maxHeartbeats 400000 in
theorem only_4 (b : Bool) (n : Int) (f re im : Nat) (t : ByteArray) (w : World) : Calls Try.prog 43 #[.agg (itC 4 b n f re im t)] w (Ans (.agg (itC 4 false 0 f 0 0 ⟨#[]⟩)) w) := by
  have s1 := stF
  obtain ⟨B1, B2, B3, O⟩ := new3 w 29 29 29 (itC 4 b n f re im t) itZ itZ
  have HO := Lib.hid O
  clear O
  go_enter Try.func43, Try.ntmps43
  go_wp2_with (first | (refine wpList_store_row rfl 29 (.tmp 3) (.tmp 6) rfl (w.heap.size + 1 + 1) (itC 4 false 0 0 0 0 ⟨#[]⟩) rfl rfl 29 itZ B3 info29 rfl (one_itC 4 false 0 0 0 0 ⟨#[]⟩) ?_; have E1 := B1.row_far (g := w.heap.size + 1 + 1) (by omega) (itC 4 false 0 0 0 0 ⟨#[]⟩); have E2 := B2.row_far (g := w.heap.size + 1 + 1) (by omega) (itC 4 false 0 0 0 0 ⟨#[]⟩); have E3 := B3.row (itC 4 false 0 0 0 0 ⟨#[]⟩); have HO2 := Lib.hid (HO.out.row (b := w.heap.size + 1 + 1) (.inr (by omega)) (itC 4 false 0 0 0 0 ⟨#[]⟩)); generalize World.setRow _ (w.heap.size + 1 + 1) (itC 4 false 0 0 0 0 ⟨#[]⟩) = W at *; clear B1 B2 B3; obtain ⟨c0, c1, c2, c3, c4, c5⟩ := blk6 E1; obtain ⟨d0, d1, d2, d3, d4, d5⟩ := blk6 E3; have g3 := E3.free 3; have F3 : Blk (W.setCell ⟨w.heap.size + 1 + 1, 3, none⟩ (.float .f64 f)) (w.heap.size + 1 + 1) 29 (itC 4 false 0 f 0 0 ⟨#[]⟩) := E3.put 3 (.float .f64 f); have F2 : Blk (W.setCell ⟨w.heap.size + 1 + 1, 3, none⟩ (.float .f64 f)) (w.heap.size + 1) 29 itZ := E2.far (p := ⟨w.heap.size + 1 + 1, 3, none⟩) (by simp) _; have HO3 := Lib.hid (show Only NoneOf w (W.setCell ⟨w.heap.size + 1 + 1, 3, none⟩ (.float .f64 f)) from HO2.out.put (.inr (by show w.heap.size ≤ w.heap.size + 1 + 1; omega)) _)) | (refine wpList_load_row rfl 29 (.tmp 3) rfl (w.heap.size + 1 + 1) rfl 29 _ (0, 0) _ F3 Try.underlying29 rfl info29 ?_; refine wpList_store_row rfl 29 (.tmp 2) (.tmp 34) rfl (w.heap.size + 1) (itC 4 false 0 f 0 0 ⟨#[]⟩) rfl rfl 29 itZ F2 info29 rfl (one_itC 4 false 0 f 0 0 ⟨#[]⟩) ?_; have R2 := F2.row (itC 4 false 0 f 0 0 ⟨#[]⟩); have HO4 := Lib.hid (HO3.out.row (b := w.heap.size + 1) (.inr (by omega)) (itC 4 false 0 f 0 0 ⟨#[]⟩)); generalize World.setRow _ (w.heap.size + 1) (itC 4 false 0 f 0 0 ⟨#[]⟩) = W2 at *))
  exact bodyPost_ret (v := .agg (itC 4 false 0 f 0 0 ⟨#[]⟩)) (results_cell_row rfl _ _ _ 29 _ (0, 0) _ rfl R2 Try.underlying29 rfl info29) rfl ⟨rfl, HO4.out⟩

set_option maxHeartbeats 400000 in
theorem only_5 (b : Bool) (n : Int) (f re im : Nat) (t : ByteArray) (w : World) : Calls Try.prog 43 #[.agg (itC 5 b n f re im t)] w (Ans (.agg (itC 5 false 0 0 re im ⟨#[]⟩)) w) := by
  have s2 := stC
  obtain ⟨B1, B2, B3, O⟩ := new3 w 29 29 29 (itC 5 b n f re im t) itZ itZ
  have HO := Lib.hid O
  clear O
  go_enter Try.func43, Try.ntmps43
  go_wp2_with (first | (refine wpList_store_row rfl 29 (.tmp 3) (.tmp 6) rfl (w.heap.size + 1 + 1) (itC 5 false 0 0 0 0 ⟨#[]⟩) rfl rfl 29 itZ B3 info29 rfl (one_itC 5 false 0 0 0 0 ⟨#[]⟩) ?_; have E1 := B1.row_far (g := w.heap.size + 1 + 1) (by omega) (itC 5 false 0 0 0 0 ⟨#[]⟩); have E2 := B2.row_far (g := w.heap.size + 1 + 1) (by omega) (itC 5 false 0 0 0 0 ⟨#[]⟩); have E3 := B3.row (itC 5 false 0 0 0 0 ⟨#[]⟩); have HO2 := Lib.hid (HO.out.row (b := w.heap.size + 1 + 1) (.inr (by omega)) (itC 5 false 0 0 0 0 ⟨#[]⟩)); generalize World.setRow _ (w.heap.size + 1 + 1) (itC 5 false 0 0 0 0 ⟨#[]⟩) = W at *; clear B1 B2 B3; obtain ⟨c0, c1, c2, c3, c4, c5⟩ := blk6 E1; obtain ⟨d0, d1, d2, d3, d4, d5⟩ := blk6 E3; have g4 := E3.free 4; have F3 : Blk (W.setCell ⟨w.heap.size + 1 + 1, 4, none⟩ (.complex .f64 re im)) (w.heap.size + 1 + 1) 29 (itC 5 false 0 0 re im ⟨#[]⟩) := E3.put 4 (.complex .f64 re im); have F2 : Blk (W.setCell ⟨w.heap.size + 1 + 1, 4, none⟩ (.complex .f64 re im)) (w.heap.size + 1) 29 itZ := E2.far (p := ⟨w.heap.size + 1 + 1, 4, none⟩) (by simp) _; have HO3 := Lib.hid (show Only NoneOf w (W.setCell ⟨w.heap.size + 1 + 1, 4, none⟩ (.complex .f64 re im)) from HO2.out.put (.inr (by show w.heap.size ≤ w.heap.size + 1 + 1; omega)) _)) | (refine wpList_load_row rfl 29 (.tmp 3) rfl (w.heap.size + 1 + 1) rfl 29 _ (0, 0) _ F3 Try.underlying29 rfl info29 ?_; refine wpList_store_row rfl 29 (.tmp 2) (.tmp 34) rfl (w.heap.size + 1) (itC 5 false 0 0 re im ⟨#[]⟩) rfl rfl 29 itZ F2 info29 rfl (one_itC 5 false 0 0 re im ⟨#[]⟩) ?_; have R2 := F2.row (itC 5 false 0 0 re im ⟨#[]⟩); have HO4 := Lib.hid (HO3.out.row (b := w.heap.size + 1) (.inr (by omega)) (itC 5 false 0 0 re im ⟨#[]⟩)); generalize World.setRow _ (w.heap.size + 1) (itC 5 false 0 0 re im ⟨#[]⟩) = W2 at *))
  exact bodyPost_ret (v := .agg (itC 5 false 0 0 re im ⟨#[]⟩)) (results_cell_row rfl _ _ _ 29 _ (0, 0) _ rfl R2 Try.underlying29 rfl info29) rfl ⟨rfl, HO4.out⟩

set_option maxHeartbeats 400000 in
theorem only_6 (b : Bool) (n : Int) (f re im : Nat) (t : ByteArray) (w : World) : Calls Try.prog 43 #[.agg (itC 6 b n f re im t)] w (Ans (.agg (itC 6 false 0 0 0 0 t)) w) := by
  obtain ⟨B1, B2, B3, O⟩ := new3 w 29 29 29 (itC 6 b n f re im t) itZ itZ
  have HO := Lib.hid O
  clear O
  go_enter Try.func43, Try.ntmps43
  go_wp2_with (first | (refine wpList_store_row rfl 29 (.tmp 3) (.tmp 6) rfl (w.heap.size + 1 + 1) (itC 6 false 0 0 0 0 ⟨#[]⟩) rfl rfl 29 itZ B3 info29 rfl (one_itC 6 false 0 0 0 0 ⟨#[]⟩) ?_; have E1 := B1.row_far (g := w.heap.size + 1 + 1) (by omega) (itC 6 false 0 0 0 0 ⟨#[]⟩); have E2 := B2.row_far (g := w.heap.size + 1 + 1) (by omega) (itC 6 false 0 0 0 0 ⟨#[]⟩); have E3 := B3.row (itC 6 false 0 0 0 0 ⟨#[]⟩); have HO2 := Lib.hid (HO.out.row (b := w.heap.size + 1 + 1) (.inr (by omega)) (itC 6 false 0 0 0 0 ⟨#[]⟩)); generalize World.setRow _ (w.heap.size + 1 + 1) (itC 6 false 0 0 0 0 ⟨#[]⟩) = W at *; clear B1 B2 B3; obtain ⟨c0, c1, c2, c3, c4, c5⟩ := blk6 E1; obtain ⟨d0, d1, d2, d3, d4, d5⟩ := blk6 E3; have g5 := E3.free 5; have F3 : Blk (W.setCell ⟨w.heap.size + 1 + 1, 5, none⟩ (.string t)) (w.heap.size + 1 + 1) 29 (itC 6 false 0 0 0 0 t) := E3.put 5 (.string t); have F2 : Blk (W.setCell ⟨w.heap.size + 1 + 1, 5, none⟩ (.string t)) (w.heap.size + 1) 29 itZ := E2.far (p := ⟨w.heap.size + 1 + 1, 5, none⟩) (by simp) _; have HO3 := Lib.hid (show Only NoneOf w (W.setCell ⟨w.heap.size + 1 + 1, 5, none⟩ (.string t)) from HO2.out.put (.inr (by show w.heap.size ≤ w.heap.size + 1 + 1; omega)) _)) | (refine wpList_load_row rfl 29 (.tmp 3) rfl (w.heap.size + 1 + 1) rfl 29 _ (0, 0) _ F3 Try.underlying29 rfl info29 ?_; refine wpList_store_row rfl 29 (.tmp 2) (.tmp 34) rfl (w.heap.size + 1) (itC 6 false 0 0 0 0 t) rfl rfl 29 itZ F2 info29 rfl (one_itC 6 false 0 0 0 0 t) ?_; have R2 := F2.row (itC 6 false 0 0 0 0 t); have HO4 := Lib.hid (HO3.out.row (b := w.heap.size + 1) (.inr (by omega)) (itC 6 false 0 0 0 0 t)); generalize World.setRow _ (w.heap.size + 1) (itC 6 false 0 0 0 0 t) = W2 at *))
  exact bodyPost_ret (v := .agg (itC 6 false 0 0 0 0 t)) (results_cell_row rfl _ _ _ 29 _ (0, 0) _ rfl R2 Try.underlying29 rfl info29) rfl ⟨rfl, HO4.out⟩

theorem only_is (x : It) (h : 1 ≤ x.k) (h2 : x.k ≤ 6) (w : World) : Calls Try.prog 43 #[.agg x.c] w (Ans (.agg x.only.c) w) := by
  obtain ⟨k, b, n, f, re, im, t⟩ := x
  have : k = 1 ∨ k = 2 ∨ k = 3 ∨ k = 4 ∨ k = 5 ∨ k = 6 := by simp only at h h2; omega
  rcases this with rfl | rfl | rfl | rfl | rfl | rfl
  · exact only_1 b n f re im t w
  · exact only_2 b n f re im t w
  · exact only_3 b n f re im t w
  · exact only_4 b n f re im t w
  · exact only_5 b n f re im t w
  · exact only_6 b n f re im t w

end Go.Proofs.Ytimoenpfnaaehaa
