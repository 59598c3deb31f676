/-
  Layer 14's law: call of a store that is not there; StoreNone.
-/
import Derived.Test.YtnonnencdhogiaaS29
namespace Go.Proofs.Ytnonnencdhogiaa
open Go.RowKit


set_option maxRecDepth 100000 in
set_option maxHeartbeats 4000000 in
theorem calln_0 (w : World) (x : Stp) (A : Option Addr) (cc : Nat) (hk : x.kind = 0) :
    Calls Try.prog 17 #[.pointer none, .agg (stepC x.kind x.key x.st (.slice A x.bs.length cc) x.dead x.tt)] w (CallNil x w) := by
  obtain ⟨kind, key, st, bs, dead, tt⟩ := x
  simp only at hk ⊢
  subst hk
  obtain ⟨nn, hnn⟩ : ∃ nn, bs.length = nn := ⟨_, rfl⟩
  rw [hnn]
  have hO : Only NoneOf w (((w.alloc (.cells (stepC 0 key st (.slice A nn cc) dead tt) 29)).alloc (.cells (tellC 0 0 0 false (.slice none 0 0) (.slice none 0 0) (.slice none 0 0)) 33)).alloc (.cells (tellC 0 0 0 false (.slice none 0 0) (.slice none 0 0) (.slice none 0 0)) 33)) := (((Only.refl _ _).alloc _).alloc _).alloc _
  have hB3 := ((Blk.new w 29 (stepC 0 key st (.slice A nn cc) dead tt)).alloc (.cells (tellC 0 0 0 false (.slice none 0 0) (.slice none 0 0) (.slice none 0 0)) 33)).alloc (.cells (tellC 0 0 0 false (.slice none 0 0) (.slice none 0 0) (.slice none 0 0)) 33)
  have hB4 := (Blk.new' (w.alloc (.cells (stepC 0 key st (.slice A nn cc) dead tt) 29)) 33 (tellC 0 0 0 false (.slice none 0 0) (.slice none 0 0) (.slice none 0 0)) (n := w.heap.size + 1) (by simp)).alloc (.cells (tellC 0 0 0 false (.slice none 0 0) (.slice none 0 0) (.slice none 0 0)) 33)
  have hB5 := Blk.new' ((w.alloc (.cells (stepC 0 key st (.slice A nn cc) dead tt) 29)).alloc (.cells (tellC 0 0 0 false (.slice none 0 0) (.slice none 0 0) (.slice none 0 0)) 33)) 33 (tellC 0 0 0 false (.slice none 0 0) (.slice none 0 0) (.slice none 0 0)) (n := w.heap.size + 1 + 1) (by simp)
  have HO := Lib.hid hO
  have HB4 := Lib.hid hB4
  have HB5 := Lib.hid hB5
  have c0 := hB3.cellv 0 rfl
  have c1 := hB3.cellv 1 rfl
  have c2 := hB3.cellv 2 rfl
  have c3 := hB3.cellv 3 rfl
  have c4 := hB3.cellv 4 rfl
  have c5 := hB3.cellv 5 rfl
  clear hO hB3 hB4 hB5
  go_enter Try.func17, Try.ntmps17
  go_wp2_with fail
  refine (apply_nil2 _ key st A nn cc dead).mono ?_; rintro e w4 ⟨rfl, hO4⟩
  have HO4 := Lib.hid hO4
  have hsz4 := hO4.size
  have B4 := HB4.out.only hO4 (fun h => h)
  have B5 := HB5.out.only hO4 (fun h => h)
  have f0 := B5.free 0
  have k0 := B5.cellv 0 rfl
  have F5 := Lib.hid (B5.put 0 (.int .i64 1))
  have F4 := Lib.hid (B4.far (p := ⟨w.heap.size + 1 + 1, 0, none⟩) (by simp) (.int .i64 1))
  have FR := Lib.hid (F4.out.row #[.int .i64 1, .int .i64 0, .int .i64 0, .bool false, .slice none 0 0, .slice none 0 0, .slice none 0 0])
  have FO := Lib.hid (((Only.refl (fun k => k = w.heap.size + 1 ∨ k = w.heap.size + 1 + 1) w4).put (p := ⟨w.heap.size + 1 + 1, 0, none⟩) (.inl (.inr rfl)) (.int .i64 1)).row (b := w.heap.size + 1) (.inl (.inl rfl)) #[.int .i64 1, .int .i64 0, .int .i64 0, .bool false, .slice none 0 0, .slice none 0 0, .slice none 0 0])
  clear B4 B5 hO4
  go_wp2_with (first | (refine wpList_load_row rfl 33 (.tmp 5) rfl (w.heap.size + 1 + 1) rfl 33 _ (0, 0) _ F5.out Try.underlying33 rfl info33 ?_) | (refine wpList_store_row rfl 33 (.tmp 4) (.tmp 82) rfl (w.heap.size + 1) #[.int .i64 1, .int .i64 0, .int .i64 0, .bool false, .slice none 0 0, .slice none 0 0, .slice none 0 0] rfl rfl 33 (tellC 0 0 0 false (.slice none 0 0) (.slice none 0 0) (.slice none 0 0)) F4.out info33 rfl (by simp [Value.oneCell']) ?_) | fail)
  refine bodyPost_ret (v := .agg #[.int .i64 1, .int .i64 0, .int .i64 0, .bool false, .slice none 0 0, .slice none 0 0, .slice none 0 0]) (results_cell_row rfl _ _ _ 33 _ (0, 0) _ rfl FR.out Try.underlying33 rfl info33) rfl ⟨_, rfl, ?_, ?_⟩
  · exact ⟨_, _, _, rfl, bytesV_nil _, listAt_nil _ _ _, listAt_nil _ _ _⟩
  · exact (HO.out.trans HO4.out).step FO.out (fun k hk e => by have := HO.out.size; omega)

set_option maxRecDepth 100000 in
set_option maxHeartbeats 4000000 in
theorem calln_1 (w : World) (x : Stp) (A : Option Addr) (cc : Nat) (hk : x.kind = 1) :
    Calls Try.prog 17 #[.pointer none, .agg (stepC x.kind x.key x.st (.slice A x.bs.length cc) x.dead x.tt)] w (CallNil x w) := by
  obtain ⟨kind, key, st, bs, dead, tt⟩ := x
  simp only at hk ⊢
  subst hk
  obtain ⟨nn, hnn⟩ : ∃ nn, bs.length = nn := ⟨_, rfl⟩
  rw [hnn]
  have hO : Only NoneOf w (((w.alloc (.cells (stepC 1 key st (.slice A nn cc) dead tt) 29)).alloc (.cells (tellC 0 0 0 false (.slice none 0 0) (.slice none 0 0) (.slice none 0 0)) 33)).alloc (.cells (tellC 0 0 0 false (.slice none 0 0) (.slice none 0 0) (.slice none 0 0)) 33)) := (((Only.refl _ _).alloc _).alloc _).alloc _
  have hB3 := ((Blk.new w 29 (stepC 1 key st (.slice A nn cc) dead tt)).alloc (.cells (tellC 0 0 0 false (.slice none 0 0) (.slice none 0 0) (.slice none 0 0)) 33)).alloc (.cells (tellC 0 0 0 false (.slice none 0 0) (.slice none 0 0) (.slice none 0 0)) 33)
  have hB4 := (Blk.new' (w.alloc (.cells (stepC 1 key st (.slice A nn cc) dead tt) 29)) 33 (tellC 0 0 0 false (.slice none 0 0) (.slice none 0 0) (.slice none 0 0)) (n := w.heap.size + 1) (by simp)).alloc (.cells (tellC 0 0 0 false (.slice none 0 0) (.slice none 0 0) (.slice none 0 0)) 33)
  have hB5 := Blk.new' ((w.alloc (.cells (stepC 1 key st (.slice A nn cc) dead tt) 29)).alloc (.cells (tellC 0 0 0 false (.slice none 0 0) (.slice none 0 0) (.slice none 0 0)) 33)) 33 (tellC 0 0 0 false (.slice none 0 0) (.slice none 0 0) (.slice none 0 0)) (n := w.heap.size + 1 + 1) (by simp)
  have HO := Lib.hid hO
  have HB4 := Lib.hid hB4
  have HB5 := Lib.hid hB5
  have c0 := hB3.cellv 0 rfl
  have c1 := hB3.cellv 1 rfl
  have c2 := hB3.cellv 2 rfl
  have c3 := hB3.cellv 3 rfl
  have c4 := hB3.cellv 4 rfl
  have c5 := hB3.cellv 5 rfl
  clear hO hB3 hB4 hB5
  go_enter Try.func17, Try.ntmps17
  go_wp2_with fail
  refine (get_nil _ key st).mono ?_; rintro e w4 ⟨rfl, hO4⟩
  have HO4 := Lib.hid hO4
  have hsz4 := hO4.size
  have B4 := HB4.out.only hO4 (fun h => h)
  have B5 := HB5.out.only hO4 (fun h => h)
  have f4 := B5.free 4
  have k4 := B5.cellv 4 rfl
  have f3 := B5.free 3
  have k3 := B5.cellv 3 rfl
  have F5 := Lib.hid ((B5.put 4 (.slice none 0 0)).put 3 (.bool false))
  have F4 := Lib.hid ((B4.far (p := ⟨w.heap.size + 1 + 1, 4, none⟩) (by simp) (.slice none 0 0)).far (p := ⟨w.heap.size + 1 + 1, 3, none⟩) (by simp) (.bool false))
  have FR := Lib.hid (F4.out.row #[.int .i64 0, .int .i64 0, .int .i64 0, .bool false, .slice none 0 0, .slice none 0 0, .slice none 0 0])
  have FO := Lib.hid ((((Only.refl (fun k => k = w.heap.size + 1 ∨ k = w.heap.size + 1 + 1) w4).put (p := ⟨w.heap.size + 1 + 1, 4, none⟩) (.inl (.inr rfl)) (.slice none 0 0)).put (p := ⟨w.heap.size + 1 + 1, 3, none⟩) (.inl (.inr rfl)) (.bool false)).row (b := w.heap.size + 1) (.inl (.inl rfl)) #[.int .i64 0, .int .i64 0, .int .i64 0, .bool false, .slice none 0 0, .slice none 0 0, .slice none 0 0])
  clear B4 B5 hO4
  go_wp2_with (first | (refine wpList_load_row rfl 33 (.tmp 5) rfl (w.heap.size + 1 + 1) rfl 33 _ (0, 0) _ F5.out Try.underlying33 rfl info33 ?_) | (refine wpList_store_row rfl 33 (.tmp 4) (.tmp 82) rfl (w.heap.size + 1) #[.int .i64 0, .int .i64 0, .int .i64 0, .bool false, .slice none 0 0, .slice none 0 0, .slice none 0 0] rfl rfl 33 (tellC 0 0 0 false (.slice none 0 0) (.slice none 0 0) (.slice none 0 0)) F4.out info33 rfl (by simp [Value.oneCell']) ?_) | fail)
  refine bodyPost_ret (v := .agg #[.int .i64 0, .int .i64 0, .int .i64 0, .bool false, .slice none 0 0, .slice none 0 0, .slice none 0 0]) (results_cell_row rfl _ _ _ 33 _ (0, 0) _ rfl FR.out Try.underlying33 rfl info33) rfl ⟨_, rfl, ?_, ?_⟩
  · exact ⟨_, _, _, rfl, bytesV_nil _, listAt_nil _ _ _, listAt_nil _ _ _⟩
  · exact (HO.out.trans HO4.out).step FO.out (fun k hk e => by have := HO.out.size; omega)

set_option maxRecDepth 100000 in
set_option maxHeartbeats 4000000 in
theorem calln_2 (w : World) (x : Stp) (A : Option Addr) (cc : Nat) (hk : x.kind = 2) :
    Calls Try.prog 17 #[.pointer none, .agg (stepC x.kind x.key x.st (.slice A x.bs.length cc) x.dead x.tt)] w (CallNil x w) := by
  obtain ⟨kind, key, st, bs, dead, tt⟩ := x
  simp only at hk ⊢
  subst hk
  obtain ⟨nn, hnn⟩ : ∃ nn, bs.length = nn := ⟨_, rfl⟩
  rw [hnn]
  have hO : Only NoneOf w (((w.alloc (.cells (stepC 2 key st (.slice A nn cc) dead tt) 29)).alloc (.cells (tellC 0 0 0 false (.slice none 0 0) (.slice none 0 0) (.slice none 0 0)) 33)).alloc (.cells (tellC 0 0 0 false (.slice none 0 0) (.slice none 0 0) (.slice none 0 0)) 33)) := (((Only.refl _ _).alloc _).alloc _).alloc _
  have hB3 := ((Blk.new w 29 (stepC 2 key st (.slice A nn cc) dead tt)).alloc (.cells (tellC 0 0 0 false (.slice none 0 0) (.slice none 0 0) (.slice none 0 0)) 33)).alloc (.cells (tellC 0 0 0 false (.slice none 0 0) (.slice none 0 0) (.slice none 0 0)) 33)
  have hB4 := (Blk.new' (w.alloc (.cells (stepC 2 key st (.slice A nn cc) dead tt) 29)) 33 (tellC 0 0 0 false (.slice none 0 0) (.slice none 0 0) (.slice none 0 0)) (n := w.heap.size + 1) (by simp)).alloc (.cells (tellC 0 0 0 false (.slice none 0 0) (.slice none 0 0) (.slice none 0 0)) 33)
  have hB5 := Blk.new' ((w.alloc (.cells (stepC 2 key st (.slice A nn cc) dead tt) 29)).alloc (.cells (tellC 0 0 0 false (.slice none 0 0) (.slice none 0 0) (.slice none 0 0)) 33)) 33 (tellC 0 0 0 false (.slice none 0 0) (.slice none 0 0) (.slice none 0 0)) (n := w.heap.size + 1 + 1) (by simp)
  have HO := Lib.hid hO
  have HB4 := Lib.hid hB4
  have HB5 := Lib.hid hB5
  have c0 := hB3.cellv 0 rfl
  have c1 := hB3.cellv 1 rfl
  have c2 := hB3.cellv 2 rfl
  have c3 := hB3.cellv 3 rfl
  have c4 := hB3.cellv 4 rfl
  have c5 := hB3.cellv 5 rfl
  clear hO hB3 hB4 hB5
  go_enter Try.func17, Try.ntmps17
  go_wp2_with fail
  refine (newest_nil _ key).mono ?_; rintro e w4 ⟨rfl, hO4⟩
  have HO4 := Lib.hid hO4
  have hsz4 := hO4.size
  have B4 := HB4.out.only hO4 (fun h => h)
  have B5 := HB5.out.only hO4 (fun h => h)
  have f1 := B5.free 1
  have k1 := B5.cellv 1 rfl
  have f3 := B5.free 3
  have k3 := B5.cellv 3 rfl
  have F5 := Lib.hid ((B5.put 1 (.int .i64 0)).put 3 (.bool false))
  have F4 := Lib.hid ((B4.far (p := ⟨w.heap.size + 1 + 1, 1, none⟩) (by simp) (.int .i64 0)).far (p := ⟨w.heap.size + 1 + 1, 3, none⟩) (by simp) (.bool false))
  have FR := Lib.hid (F4.out.row #[.int .i64 0, .int .i64 0, .int .i64 0, .bool false, .slice none 0 0, .slice none 0 0, .slice none 0 0])
  have FO := Lib.hid ((((Only.refl (fun k => k = w.heap.size + 1 ∨ k = w.heap.size + 1 + 1) w4).put (p := ⟨w.heap.size + 1 + 1, 1, none⟩) (.inl (.inr rfl)) (.int .i64 0)).put (p := ⟨w.heap.size + 1 + 1, 3, none⟩) (.inl (.inr rfl)) (.bool false)).row (b := w.heap.size + 1) (.inl (.inl rfl)) #[.int .i64 0, .int .i64 0, .int .i64 0, .bool false, .slice none 0 0, .slice none 0 0, .slice none 0 0])
  clear B4 B5 hO4
  go_wp2_with (first | (refine wpList_load_row rfl 33 (.tmp 5) rfl (w.heap.size + 1 + 1) rfl 33 _ (0, 0) _ F5.out Try.underlying33 rfl info33 ?_) | (refine wpList_store_row rfl 33 (.tmp 4) (.tmp 82) rfl (w.heap.size + 1) #[.int .i64 0, .int .i64 0, .int .i64 0, .bool false, .slice none 0 0, .slice none 0 0, .slice none 0 0] rfl rfl 33 (tellC 0 0 0 false (.slice none 0 0) (.slice none 0 0) (.slice none 0 0)) F4.out info33 rfl (by simp [Value.oneCell']) ?_) | fail)
  refine bodyPost_ret (v := .agg #[.int .i64 0, .int .i64 0, .int .i64 0, .bool false, .slice none 0 0, .slice none 0 0, .slice none 0 0]) (results_cell_row rfl _ _ _ 33 _ (0, 0) _ rfl FR.out Try.underlying33 rfl info33) rfl ⟨_, rfl, ?_, ?_⟩
  · exact ⟨_, _, _, rfl, bytesV_nil _, listAt_nil _ _ _, listAt_nil _ _ _⟩
  · exact (HO.out.trans HO4.out).step FO.out (fun k hk e => by have := HO.out.size; omega)

set_option maxRecDepth 100000 in
set_option maxHeartbeats 4000000 in
theorem calln_3 (w : World) (x : Stp) (A : Option Addr) (cc : Nat) (hk : x.kind = 3) :
    Calls Try.prog 17 #[.pointer none, .agg (stepC x.kind x.key x.st (.slice A x.bs.length cc) x.dead x.tt)] w (CallNil x w) := by
  obtain ⟨kind, key, st, bs, dead, tt⟩ := x
  simp only at hk ⊢
  subst hk
  obtain ⟨nn, hnn⟩ : ∃ nn, bs.length = nn := ⟨_, rfl⟩
  rw [hnn]
  have hO : Only NoneOf w (((w.alloc (.cells (stepC 3 key st (.slice A nn cc) dead tt) 29)).alloc (.cells (tellC 0 0 0 false (.slice none 0 0) (.slice none 0 0) (.slice none 0 0)) 33)).alloc (.cells (tellC 0 0 0 false (.slice none 0 0) (.slice none 0 0) (.slice none 0 0)) 33)) := (((Only.refl _ _).alloc _).alloc _).alloc _
  have hB3 := ((Blk.new w 29 (stepC 3 key st (.slice A nn cc) dead tt)).alloc (.cells (tellC 0 0 0 false (.slice none 0 0) (.slice none 0 0) (.slice none 0 0)) 33)).alloc (.cells (tellC 0 0 0 false (.slice none 0 0) (.slice none 0 0) (.slice none 0 0)) 33)
  have hB4 := (Blk.new' (w.alloc (.cells (stepC 3 key st (.slice A nn cc) dead tt) 29)) 33 (tellC 0 0 0 false (.slice none 0 0) (.slice none 0 0) (.slice none 0 0)) (n := w.heap.size + 1) (by simp)).alloc (.cells (tellC 0 0 0 false (.slice none 0 0) (.slice none 0 0) (.slice none 0 0)) 33)
  have hB5 := Blk.new' ((w.alloc (.cells (stepC 3 key st (.slice A nn cc) dead tt) 29)).alloc (.cells (tellC 0 0 0 false (.slice none 0 0) (.slice none 0 0) (.slice none 0 0)) 33)) 33 (tellC 0 0 0 false (.slice none 0 0) (.slice none 0 0) (.slice none 0 0)) (n := w.heap.size + 1 + 1) (by simp)
  have HO := Lib.hid hO
  have HB4 := Lib.hid hB4
  have HB5 := Lib.hid hB5
  have c0 := hB3.cellv 0 rfl
  have c1 := hB3.cellv 1 rfl
  have c2 := hB3.cellv 2 rfl
  have c3 := hB3.cellv 3 rfl
  have c4 := hB3.cellv 4 rfl
  have c5 := hB3.cellv 5 rfl
  clear hO hB3 hB4 hB5
  go_enter Try.func17, Try.ntmps17
  go_wp2_with fail
  refine (scanned_nil _ key tt st).mono ?_; rintro e w4 ⟨⟨Ap, cp, rfl⟩, hO4⟩
  have HO4 := Lib.hid hO4
  have hsz4 := hO4.size
  have B4 := HB4.out.only hO4 (fun h => h)
  have B5 := HB5.out.only hO4 (fun h => h)
  have f5 := B5.free 5
  have k5 := B5.cellv 5 rfl
  have F5 := Lib.hid (B5.put 5 (.slice Ap 0 cp))
  have F4 := Lib.hid (B4.far (p := ⟨w.heap.size + 1 + 1, 5, none⟩) (by simp) (.slice Ap 0 cp))
  have FR := Lib.hid (F4.out.row #[.int .i64 0, .int .i64 0, .int .i64 0, .bool false, .slice none 0 0, .slice Ap 0 cp, .slice none 0 0])
  have FO := Lib.hid (((Only.refl (fun k => k = w.heap.size + 1 ∨ k = w.heap.size + 1 + 1) w4).put (p := ⟨w.heap.size + 1 + 1, 5, none⟩) (.inl (.inr rfl)) (.slice Ap 0 cp)).row (b := w.heap.size + 1) (.inl (.inl rfl)) #[.int .i64 0, .int .i64 0, .int .i64 0, .bool false, .slice none 0 0, .slice Ap 0 cp, .slice none 0 0])
  clear B4 B5 hO4
  go_wp2_with (first | (refine wpList_load_row rfl 33 (.tmp 5) rfl (w.heap.size + 1 + 1) rfl 33 _ (0, 0) _ F5.out Try.underlying33 rfl info33 ?_) | (refine wpList_store_row rfl 33 (.tmp 4) (.tmp 82) rfl (w.heap.size + 1) #[.int .i64 0, .int .i64 0, .int .i64 0, .bool false, .slice none 0 0, .slice Ap 0 cp, .slice none 0 0] rfl rfl 33 (tellC 0 0 0 false (.slice none 0 0) (.slice none 0 0) (.slice none 0 0)) F4.out info33 rfl (by simp [Value.oneCell']) ?_) | fail)
  refine bodyPost_ret (v := .agg #[.int .i64 0, .int .i64 0, .int .i64 0, .bool false, .slice none 0 0, .slice Ap 0 cp, .slice none 0 0]) (results_cell_row rfl _ _ _ 33 _ (0, 0) _ rfl FR.out Try.underlying33 rfl info33) rfl ⟨_, rfl, ?_, ?_⟩
  · exact ⟨_, _, _, rfl, bytesV_nil _, (show ListAt 2 PairE _ _ [] from ⟨Ap, cp, rfl, fun i c h => by simp at h⟩), listAt_nil _ _ _⟩
  · exact (HO.out.trans HO4.out).step FO.out (fun k hk e => by have := HO.out.size; omega)

set_option maxRecDepth 100000 in
set_option maxHeartbeats 4000000 in
theorem calln_4 (w : World) (x : Stp) (A : Option Addr) (cc : Nat) (hk : x.kind = 4) :
    Calls Try.prog 17 #[.pointer none, .agg (stepC x.kind x.key x.st (.slice A x.bs.length cc) x.dead x.tt)] w (CallNil x w) := by
  obtain ⟨kind, key, st, bs, dead, tt⟩ := x
  simp only at hk ⊢
  subst hk
  obtain ⟨nn, hnn⟩ : ∃ nn, bs.length = nn := ⟨_, rfl⟩
  rw [hnn]
  have hO : Only NoneOf w (((w.alloc (.cells (stepC 4 key st (.slice A nn cc) dead tt) 29)).alloc (.cells (tellC 0 0 0 false (.slice none 0 0) (.slice none 0 0) (.slice none 0 0)) 33)).alloc (.cells (tellC 0 0 0 false (.slice none 0 0) (.slice none 0 0) (.slice none 0 0)) 33)) := (((Only.refl _ _).alloc _).alloc _).alloc _
  have hB3 := ((Blk.new w 29 (stepC 4 key st (.slice A nn cc) dead tt)).alloc (.cells (tellC 0 0 0 false (.slice none 0 0) (.slice none 0 0) (.slice none 0 0)) 33)).alloc (.cells (tellC 0 0 0 false (.slice none 0 0) (.slice none 0 0) (.slice none 0 0)) 33)
  have hB4 := (Blk.new' (w.alloc (.cells (stepC 4 key st (.slice A nn cc) dead tt) 29)) 33 (tellC 0 0 0 false (.slice none 0 0) (.slice none 0 0) (.slice none 0 0)) (n := w.heap.size + 1) (by simp)).alloc (.cells (tellC 0 0 0 false (.slice none 0 0) (.slice none 0 0) (.slice none 0 0)) 33)
  have hB5 := Blk.new' ((w.alloc (.cells (stepC 4 key st (.slice A nn cc) dead tt) 29)).alloc (.cells (tellC 0 0 0 false (.slice none 0 0) (.slice none 0 0) (.slice none 0 0)) 33)) 33 (tellC 0 0 0 false (.slice none 0 0) (.slice none 0 0) (.slice none 0 0)) (n := w.heap.size + 1 + 1) (by simp)
  have HO := Lib.hid hO
  have HB4 := Lib.hid hB4
  have HB5 := Lib.hid hB5
  have c0 := hB3.cellv 0 rfl
  have c1 := hB3.cellv 1 rfl
  have c2 := hB3.cellv 2 rfl
  have c3 := hB3.cellv 3 rfl
  have c4 := hB3.cellv 4 rfl
  have c5 := hB3.cellv 5 rfl
  clear hO hB3 hB4 hB5
  go_enter Try.func17, Try.ntmps17
  go_wp2_with fail
  refine (vacuum_nil2 _ st).mono ?_; rintro e w4 ⟨rfl, hO4⟩
  have HO4 := Lib.hid hO4
  have hsz4 := hO4.size
  have B4 := HB4.out.only hO4 (fun h => h)
  have B5 := HB5.out.only hO4 (fun h => h)
  have f1 := B5.free 1
  have k1 := B5.cellv 1 rfl
  have F5 := Lib.hid (B5.put 1 (.int .i64 0))
  have F4 := Lib.hid (B4.far (p := ⟨w.heap.size + 1 + 1, 1, none⟩) (by simp) (.int .i64 0))
  have FR := Lib.hid (F4.out.row #[.int .i64 0, .int .i64 0, .int .i64 0, .bool false, .slice none 0 0, .slice none 0 0, .slice none 0 0])
  have FO := Lib.hid (((Only.refl (fun k => k = w.heap.size + 1 ∨ k = w.heap.size + 1 + 1) w4).put (p := ⟨w.heap.size + 1 + 1, 1, none⟩) (.inl (.inr rfl)) (.int .i64 0)).row (b := w.heap.size + 1) (.inl (.inl rfl)) #[.int .i64 0, .int .i64 0, .int .i64 0, .bool false, .slice none 0 0, .slice none 0 0, .slice none 0 0])
  clear B4 B5 hO4
  go_wp2_with (first | (refine wpList_load_row rfl 33 (.tmp 5) rfl (w.heap.size + 1 + 1) rfl 33 _ (0, 0) _ F5.out Try.underlying33 rfl info33 ?_) | (refine wpList_store_row rfl 33 (.tmp 4) (.tmp 82) rfl (w.heap.size + 1) #[.int .i64 0, .int .i64 0, .int .i64 0, .bool false, .slice none 0 0, .slice none 0 0, .slice none 0 0] rfl rfl 33 (tellC 0 0 0 false (.slice none 0 0) (.slice none 0 0) (.slice none 0 0)) F4.out info33 rfl (by simp [Value.oneCell']) ?_) | fail)
  refine bodyPost_ret (v := .agg #[.int .i64 0, .int .i64 0, .int .i64 0, .bool false, .slice none 0 0, .slice none 0 0, .slice none 0 0]) (results_cell_row rfl _ _ _ 33 _ (0, 0) _ rfl FR.out Try.underlying33 rfl info33) rfl ⟨_, rfl, ?_, ?_⟩
  · exact ⟨_, _, _, rfl, bytesV_nil _, listAt_nil _ _ _, listAt_nil _ _ _⟩
  · exact (HO.out.trans HO4.out).step FO.out (fun k hk e => by have := HO.out.size; omega)

set_option maxRecDepth 100000 in
set_option maxHeartbeats 4000000 in
theorem calln_5 (w : World) (x : Stp) (A : Option Addr) (cc : Nat) (hk : x.kind = 5) :
    Calls Try.prog 17 #[.pointer none, .agg (stepC x.kind x.key x.st (.slice A x.bs.length cc) x.dead x.tt)] w (CallNil x w) := by
  obtain ⟨kind, key, st, bs, dead, tt⟩ := x
  simp only at hk ⊢
  subst hk
  obtain ⟨nn, hnn⟩ : ∃ nn, bs.length = nn := ⟨_, rfl⟩
  rw [hnn]
  have hO : Only NoneOf w (((w.alloc (.cells (stepC 5 key st (.slice A nn cc) dead tt) 29)).alloc (.cells (tellC 0 0 0 false (.slice none 0 0) (.slice none 0 0) (.slice none 0 0)) 33)).alloc (.cells (tellC 0 0 0 false (.slice none 0 0) (.slice none 0 0) (.slice none 0 0)) 33)) := (((Only.refl _ _).alloc _).alloc _).alloc _
  have hB3 := ((Blk.new w 29 (stepC 5 key st (.slice A nn cc) dead tt)).alloc (.cells (tellC 0 0 0 false (.slice none 0 0) (.slice none 0 0) (.slice none 0 0)) 33)).alloc (.cells (tellC 0 0 0 false (.slice none 0 0) (.slice none 0 0) (.slice none 0 0)) 33)
  have hB4 := (Blk.new' (w.alloc (.cells (stepC 5 key st (.slice A nn cc) dead tt) 29)) 33 (tellC 0 0 0 false (.slice none 0 0) (.slice none 0 0) (.slice none 0 0)) (n := w.heap.size + 1) (by simp)).alloc (.cells (tellC 0 0 0 false (.slice none 0 0) (.slice none 0 0) (.slice none 0 0)) 33)
  have hB5 := Blk.new' ((w.alloc (.cells (stepC 5 key st (.slice A nn cc) dead tt) 29)).alloc (.cells (tellC 0 0 0 false (.slice none 0 0) (.slice none 0 0) (.slice none 0 0)) 33)) 33 (tellC 0 0 0 false (.slice none 0 0) (.slice none 0 0) (.slice none 0 0)) (n := w.heap.size + 1 + 1) (by simp)
  have HO := Lib.hid hO
  have HB4 := Lib.hid hB4
  have HB5 := Lib.hid hB5
  have c0 := hB3.cellv 0 rfl
  have c1 := hB3.cellv 1 rfl
  have c2 := hB3.cellv 2 rfl
  have c3 := hB3.cellv 3 rfl
  have c4 := hB3.cellv 4 rfl
  have c5 := hB3.cellv 5 rfl
  clear hO hB3 hB4 hB5
  go_enter Try.func17, Try.ntmps17
  go_wp2_with fail
  refine (live_nil2 _).mono ?_; rintro e w4 ⟨rfl, hO4⟩
  have HO4 := Lib.hid hO4
  have hsz4 := hO4.size
  have B4 := HB4.out.only hO4 (fun h => h)
  have B5 := HB5.out.only hO4 (fun h => h)
  have f1 := B5.free 1
  have k1 := B5.cellv 1 rfl
  have F5 := Lib.hid (B5.put 1 (.int .i64 0))
  have F4 := Lib.hid (B4.far (p := ⟨w.heap.size + 1 + 1, 1, none⟩) (by simp) (.int .i64 0))
  have FR := Lib.hid (F4.out.row #[.int .i64 0, .int .i64 0, .int .i64 0, .bool false, .slice none 0 0, .slice none 0 0, .slice none 0 0])
  have FO := Lib.hid (((Only.refl (fun k => k = w.heap.size + 1 ∨ k = w.heap.size + 1 + 1) w4).put (p := ⟨w.heap.size + 1 + 1, 1, none⟩) (.inl (.inr rfl)) (.int .i64 0)).row (b := w.heap.size + 1) (.inl (.inl rfl)) #[.int .i64 0, .int .i64 0, .int .i64 0, .bool false, .slice none 0 0, .slice none 0 0, .slice none 0 0])
  clear B4 B5 hO4
  go_wp2_with (first | (refine wpList_load_row rfl 33 (.tmp 5) rfl (w.heap.size + 1 + 1) rfl 33 _ (0, 0) _ F5.out Try.underlying33 rfl info33 ?_) | (refine wpList_store_row rfl 33 (.tmp 4) (.tmp 82) rfl (w.heap.size + 1) #[.int .i64 0, .int .i64 0, .int .i64 0, .bool false, .slice none 0 0, .slice none 0 0, .slice none 0 0] rfl rfl 33 (tellC 0 0 0 false (.slice none 0 0) (.slice none 0 0) (.slice none 0 0)) F4.out info33 rfl (by simp [Value.oneCell']) ?_) | fail)
  refine bodyPost_ret (v := .agg #[.int .i64 0, .int .i64 0, .int .i64 0, .bool false, .slice none 0 0, .slice none 0 0, .slice none 0 0]) (results_cell_row rfl _ _ _ 33 _ (0, 0) _ rfl FR.out Try.underlying33 rfl info33) rfl ⟨_, rfl, ?_, ?_⟩
  · exact ⟨_, _, _, rfl, bytesV_nil _, listAt_nil _ _ _, listAt_nil _ _ _⟩
  · exact (HO.out.trans HO4.out).step FO.out (fun k hk e => by have := HO.out.size; omega)

set_option maxRecDepth 100000 in
set_option maxHeartbeats 4000000 in
theorem calln_6 (w : World) (x : Stp) (A : Option Addr) (cc : Nat) (hk : x.kind = 6) :
    Calls Try.prog 17 #[.pointer none, .agg (stepC x.kind x.key x.st (.slice A x.bs.length cc) x.dead x.tt)] w (CallNil x w) := by
  obtain ⟨kind, key, st, bs, dead, tt⟩ := x
  simp only at hk ⊢
  subst hk
  obtain ⟨nn, hnn⟩ : ∃ nn, bs.length = nn := ⟨_, rfl⟩
  rw [hnn]
  have hO : Only NoneOf w (((w.alloc (.cells (stepC 6 key st (.slice A nn cc) dead tt) 29)).alloc (.cells (tellC 0 0 0 false (.slice none 0 0) (.slice none 0 0) (.slice none 0 0)) 33)).alloc (.cells (tellC 0 0 0 false (.slice none 0 0) (.slice none 0 0) (.slice none 0 0)) 33)) := (((Only.refl _ _).alloc _).alloc _).alloc _
  have hB3 := ((Blk.new w 29 (stepC 6 key st (.slice A nn cc) dead tt)).alloc (.cells (tellC 0 0 0 false (.slice none 0 0) (.slice none 0 0) (.slice none 0 0)) 33)).alloc (.cells (tellC 0 0 0 false (.slice none 0 0) (.slice none 0 0) (.slice none 0 0)) 33)
  have hB4 := (Blk.new' (w.alloc (.cells (stepC 6 key st (.slice A nn cc) dead tt) 29)) 33 (tellC 0 0 0 false (.slice none 0 0) (.slice none 0 0) (.slice none 0 0)) (n := w.heap.size + 1) (by simp)).alloc (.cells (tellC 0 0 0 false (.slice none 0 0) (.slice none 0 0) (.slice none 0 0)) 33)
  have hB5 := Blk.new' ((w.alloc (.cells (stepC 6 key st (.slice A nn cc) dead tt) 29)).alloc (.cells (tellC 0 0 0 false (.slice none 0 0) (.slice none 0 0) (.slice none 0 0)) 33)) 33 (tellC 0 0 0 false (.slice none 0 0) (.slice none 0 0) (.slice none 0 0)) (n := w.heap.size + 1 + 1) (by simp)
  have HO := Lib.hid hO
  have HB4 := Lib.hid hB4
  have HB5 := Lib.hid hB5
  have c0 := hB3.cellv 0 rfl
  have c1 := hB3.cellv 1 rfl
  have c2 := hB3.cellv 2 rfl
  have c3 := hB3.cellv 3 rfl
  have c4 := hB3.cellv 4 rfl
  have c5 := hB3.cellv 5 rfl
  clear hO hB3 hB4 hB5
  go_enter Try.func17, Try.ntmps17
  go_wp2_with fail
  refine (len_nil2 _).mono ?_; rintro e w4 ⟨rfl, hO4⟩
  have HO4 := Lib.hid hO4
  have hsz4 := hO4.size
  have B4 := HB4.out.only hO4 (fun h => h)
  have B5 := HB5.out.only hO4 (fun h => h)
  have f1 := B5.free 1
  have k1 := B5.cellv 1 rfl
  have f2 := B5.free 2
  have k2 := B5.cellv 2 rfl
  have F5 := Lib.hid ((B5.put 1 (.int .i64 0)).put 2 (.int .i64 0))
  have F4 := Lib.hid ((B4.far (p := ⟨w.heap.size + 1 + 1, 1, none⟩) (by simp) (.int .i64 0)).far (p := ⟨w.heap.size + 1 + 1, 2, none⟩) (by simp) (.int .i64 0))
  have FR := Lib.hid (F4.out.row #[.int .i64 0, .int .i64 0, .int .i64 0, .bool false, .slice none 0 0, .slice none 0 0, .slice none 0 0])
  have FO := Lib.hid ((((Only.refl (fun k => k = w.heap.size + 1 ∨ k = w.heap.size + 1 + 1) w4).put (p := ⟨w.heap.size + 1 + 1, 1, none⟩) (.inl (.inr rfl)) (.int .i64 0)).put (p := ⟨w.heap.size + 1 + 1, 2, none⟩) (.inl (.inr rfl)) (.int .i64 0)).row (b := w.heap.size + 1) (.inl (.inl rfl)) #[.int .i64 0, .int .i64 0, .int .i64 0, .bool false, .slice none 0 0, .slice none 0 0, .slice none 0 0])
  clear B4 B5 hO4
  go_wp2_with (first | (refine wpList_load_row rfl 33 (.tmp 5) rfl (w.heap.size + 1 + 1) rfl 33 _ (0, 0) _ F5.out Try.underlying33 rfl info33 ?_) | (refine wpList_store_row rfl 33 (.tmp 4) (.tmp 82) rfl (w.heap.size + 1) #[.int .i64 0, .int .i64 0, .int .i64 0, .bool false, .slice none 0 0, .slice none 0 0, .slice none 0 0] rfl rfl 33 (tellC 0 0 0 false (.slice none 0 0) (.slice none 0 0) (.slice none 0 0)) F4.out info33 rfl (by simp [Value.oneCell']) ?_) | fail)
  refine bodyPost_ret (v := .agg #[.int .i64 0, .int .i64 0, .int .i64 0, .bool false, .slice none 0 0, .slice none 0 0, .slice none 0 0]) (results_cell_row rfl _ _ _ 33 _ (0, 0) _ rfl FR.out Try.underlying33 rfl info33) rfl ⟨_, rfl, ?_, ?_⟩
  · exact ⟨_, _, _, rfl, bytesV_nil _, listAt_nil _ _ _, listAt_nil _ _ _⟩
  · exact (HO.out.trans HO4.out).step FO.out (fun k hk e => by have := HO.out.size; omega)

set_option maxRecDepth 100000 in
set_option maxHeartbeats 4000000 in
theorem calln_7 (w : World) (x : Stp) (A : Option Addr) (cc : Nat) (hk : x.kind = 7) :
    Calls Try.prog 17 #[.pointer none, .agg (stepC x.kind x.key x.st (.slice A x.bs.length cc) x.dead x.tt)] w (CallNil x w) := by
  obtain ⟨kind, key, st, bs, dead, tt⟩ := x
  simp only at hk ⊢
  subst hk
  obtain ⟨nn, hnn⟩ : ∃ nn, bs.length = nn := ⟨_, rfl⟩
  rw [hnn]
  have hO : Only NoneOf w (((w.alloc (.cells (stepC 7 key st (.slice A nn cc) dead tt) 29)).alloc (.cells (tellC 0 0 0 false (.slice none 0 0) (.slice none 0 0) (.slice none 0 0)) 33)).alloc (.cells (tellC 0 0 0 false (.slice none 0 0) (.slice none 0 0) (.slice none 0 0)) 33)) := (((Only.refl _ _).alloc _).alloc _).alloc _
  have hB3 := ((Blk.new w 29 (stepC 7 key st (.slice A nn cc) dead tt)).alloc (.cells (tellC 0 0 0 false (.slice none 0 0) (.slice none 0 0) (.slice none 0 0)) 33)).alloc (.cells (tellC 0 0 0 false (.slice none 0 0) (.slice none 0 0) (.slice none 0 0)) 33)
  have hB4 := (Blk.new' (w.alloc (.cells (stepC 7 key st (.slice A nn cc) dead tt) 29)) 33 (tellC 0 0 0 false (.slice none 0 0) (.slice none 0 0) (.slice none 0 0)) (n := w.heap.size + 1) (by simp)).alloc (.cells (tellC 0 0 0 false (.slice none 0 0) (.slice none 0 0) (.slice none 0 0)) 33)
  have hB5 := Blk.new' ((w.alloc (.cells (stepC 7 key st (.slice A nn cc) dead tt) 29)).alloc (.cells (tellC 0 0 0 false (.slice none 0 0) (.slice none 0 0) (.slice none 0 0)) 33)) 33 (tellC 0 0 0 false (.slice none 0 0) (.slice none 0 0) (.slice none 0 0)) (n := w.heap.size + 1 + 1) (by simp)
  have HO := Lib.hid hO
  have HB4 := Lib.hid hB4
  have HB5 := Lib.hid hB5
  have c0 := hB3.cellv 0 rfl
  have c1 := hB3.cellv 1 rfl
  have c2 := hB3.cellv 2 rfl
  have c3 := hB3.cellv 3 rfl
  have c4 := hB3.cellv 4 rfl
  have c5 := hB3.cellv 5 rfl
  clear hO hB3 hB4 hB5
  go_enter Try.func17, Try.ntmps17
  go_wp2_with fail
  refine (versions_nil _).mono ?_; rintro e w4 ⟨rfl, hO4⟩
  have HO4 := Lib.hid hO4
  have hsz4 := hO4.size
  have B4 := HB4.out.only hO4 (fun h => h)
  have B5 := HB5.out.only hO4 (fun h => h)
  have f6 := B5.free 6
  have k6 := B5.cellv 6 rfl
  have F5 := Lib.hid (B5.put 6 (.slice none 0 0))
  have F4 := Lib.hid (B4.far (p := ⟨w.heap.size + 1 + 1, 6, none⟩) (by simp) (.slice none 0 0))
  have FR := Lib.hid (F4.out.row #[.int .i64 0, .int .i64 0, .int .i64 0, .bool false, .slice none 0 0, .slice none 0 0, .slice none 0 0])
  have FO := Lib.hid (((Only.refl (fun k => k = w.heap.size + 1 ∨ k = w.heap.size + 1 + 1) w4).put (p := ⟨w.heap.size + 1 + 1, 6, none⟩) (.inl (.inr rfl)) (.slice none 0 0)).row (b := w.heap.size + 1) (.inl (.inl rfl)) #[.int .i64 0, .int .i64 0, .int .i64 0, .bool false, .slice none 0 0, .slice none 0 0, .slice none 0 0])
  clear B4 B5 hO4
  go_wp2_with (first | (refine wpList_load_row rfl 33 (.tmp 5) rfl (w.heap.size + 1 + 1) rfl 33 _ (0, 0) _ F5.out Try.underlying33 rfl info33 ?_) | (refine wpList_store_row rfl 33 (.tmp 4) (.tmp 82) rfl (w.heap.size + 1) #[.int .i64 0, .int .i64 0, .int .i64 0, .bool false, .slice none 0 0, .slice none 0 0, .slice none 0 0] rfl rfl 33 (tellC 0 0 0 false (.slice none 0 0) (.slice none 0 0) (.slice none 0 0)) F4.out info33 rfl (by simp [Value.oneCell']) ?_) | fail)
  refine bodyPost_ret (v := .agg #[.int .i64 0, .int .i64 0, .int .i64 0, .bool false, .slice none 0 0, .slice none 0 0, .slice none 0 0]) (results_cell_row rfl _ _ _ 33 _ (0, 0) _ rfl FR.out Try.underlying33 rfl info33) rfl ⟨_, rfl, ?_, ?_⟩
  · exact ⟨_, _, _, rfl, bytesV_nil _, listAt_nil _ _ _, listAt_nil _ _ _⟩
  · exact (HO.out.trans HO4.out).step FO.out (fun k hk e => by have := HO.out.size; omega)


theorem call_nil (w : World) (x : Stp) (A : Option Addr) (cc : Nat) : Calls Try.prog 17 #[.pointer none, .agg (stepC x.kind x.key x.st (.slice A x.bs.length cc) x.dead x.tt)] w (CallNil x w) := by
  by_cases k0 : x.kind = 0
  · exact calln_0 w x A cc k0
  by_cases k1 : x.kind = 1
  · exact calln_1 w x A cc k1
  by_cases k2 : x.kind = 2
  · exact calln_2 w x A cc k2
  by_cases k3 : x.kind = 3
  · exact calln_3 w x A cc k3
  by_cases k4 : x.kind = 4
  · exact calln_4 w x A cc k4
  by_cases k5 : x.kind = 5
  · exact calln_5 w x A cc k5
  by_cases k6 : x.kind = 6
  · exact calln_6 w x A cc k6
  by_cases k7 : x.kind = 7
  · exact calln_7 w x A cc k7
  refine (call_other w _ _ x ⟨k0, k1, k2, k3, k4, k5, k6, k7⟩).mono ?_
  rintro e w' ⟨rfl, ho⟩
  have e1 : ansN x = {} := by simp [ansN, k0]
  exact ⟨zeroT, rfl, by rw [e1]; exact ⟨_, _, _, rfl, bytesV_nil _, listAt_nil _ _ _, listAt_nil _ _ _⟩, ho⟩

end Go.Proofs.Ytnonnencdhogiaa
