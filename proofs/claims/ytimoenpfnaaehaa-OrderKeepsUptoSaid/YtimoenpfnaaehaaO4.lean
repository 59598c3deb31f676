/-
  Layer 4: Check of every item; Clean.
-/
import Derived.Test.YtimoenpfnaaehaaO3
namespace Go.Proofs.Ytimoenpfnaaehaa
open Go.RowKit

theorem check_is (x : It) (w : World) : Calls Try.prog 21 #[.agg x.c] w (Ans (.int .i64 (if x.ok then 0 else 40)) w) := by
  obtain ⟨k, b, n, f, re, im, t⟩ := x
  by_cases h0 : 1 ≤ k
  · by_cases h1 : k ≤ 6
    · exact check_mid k b n f re im t w h0 h1 _ rfl
    · have e : It.ok ⟨k, b, n, f, re, im, t⟩ = false := by simp [It.ok]; omega
      rw [e]
      exact check_high k b n f re im t w h0 (by omega)
  · have e : It.ok ⟨k, b, n, f, re, im, t⟩ = false := by simp [It.ok]; omega
    rw [e]
    exact check_low k b n f re im t w (by omega)

/-- The item in its one form. -/
def It.clean (x : It) : It := if x.ok then { x.only with f := cln x.only.f, re := cln x.only.re, im := cln x.only.im } else x

theorem ok_kind {x : It} (h : x.ok = true) : 1 ≤ x.k ∧ x.k ≤ 6 := by
  unfold It.ok at h
  simp only [Bool.and_eq_true, decide_eq_true_eq] at h
  exact ⟨h.1.1.1.1.1.1, h.1.1.1.1.1.2⟩

theorem still_same {f : FuncId} {args : Array Value} {v : Value} {w : World} (h : Calls Try.prog f args w (Same v w)) : Calls Try.prog f args w fun e w'' => e = .returned v ∧ w'' = w := same_still h

set_option maxHeartbeats 400000 in
theorem clean_no (x : It) (h : x.ok = false) (w : World) : Calls Try.prog 17 #[.agg x.c] w (Ans (.agg x.c) w) := by
  have HC := fun u => Lib.hid (check_is x u)
  simp only [h] at HC
  clear h
  obtain ⟨k, b, n, f, re, im, t⟩ := x
  obtain ⟨B1, B2, O⟩ := new2 w 29 29 (itC k b n f re im t) itZ
  have HO := Lib.hid O
  clear O
  go_enter Try.func17, Try.ntmps17
  go_wp2_with (refine wpList_load_row rfl 29 (.tmp 1) rfl w.heap.size rfl 29 _ (0, 0) _ B1 Try.underlying29 rfl info29 ?_)
  generalize (w.alloc (.cells (itC k b n f re im t) 29)).alloc (.cells itZ 29) = W at *
  refine (HC _).out.mono ?_; rintro e w1 ⟨rfl, ho1⟩
  have E1 := B1.only ho1 (fun h => h)
  have E2 := B2.only ho1 (fun h => h)
  have R2 := E2.row (itC k b n f re im t)
  have HO2 := Lib.hid ((HO.out.trans ho1).row (b := w.heap.size + 1) (.inr (by omega)) (itC k b n f re im t))
  clear ho1
  go_wp2_with (refine wpList_load_row rfl 29 (.tmp 1) rfl w.heap.size rfl 29 _ (0, 0) _ E1 Try.underlying29 rfl info29 ?_; refine wpList_store_row rfl 29 (.tmp 2) (.tmp 7) rfl (w.heap.size + 1) (itC k b n f re im t) rfl rfl 29 itZ E2 info29 rfl (one_itC k b n f re im t) ?_)
  exact bodyPost_ret (v := .agg (itC k b n f re im t)) (results_cell_row rfl _ _ _ 29 _ (0, 0) _ rfl R2 Try.underlying29 rfl info29) rfl ⟨rfl, HO2.out⟩

set_option maxRecDepth 100000 in
set_option maxHeartbeats 1000000 in
theorem clean_ok (x : It) (h : x.ok = true) (w : World) : Calls Try.prog 17 #[.agg x.c] w (Ans (.agg (It.c { x.only with f := cln x.only.f, re := cln x.only.re, im := cln x.only.im })) w) := by
  have HC := fun u => Lib.hid (check_is x u)
  have HN := fun u => Lib.hid (only_is x (ok_kind h).1 (ok_kind h).2 u)
  simp only [h] at HC
  clear h
  generalize x.only = y at *
  obtain ⟨k, b, n, f, re, im, t⟩ := x
  obtain ⟨k', b', n', f', re', im', t'⟩ := y
  obtain ⟨B1, B2, O⟩ := new2 w 29 29 (itC k b n f re im t) itZ
  have HO := Lib.hid O
  clear O
  have s1 := stF
  have s2 := stC
  go_enter Try.func17, Try.ntmps17
  go_wp2_with (refine wpList_load_row rfl 29 (.tmp 1) rfl w.heap.size rfl 29 _ (0, 0) _ B1 Try.underlying29 rfl info29 ?_)
  generalize (w.alloc (.cells (itC k b n f re im t) 29)).alloc (.cells itZ 29) = W at *
  refine (HC _).out.mono ?_; rintro e w1 ⟨rfl, ho1⟩
  have E1 := B1.only ho1 (fun h => h)
  have E2 := B2.only ho1 (fun h => h)
  have HO1 := Lib.hid (HO.out.trans ho1)
  clear ho1 B1 B2
  go_wp2_with (refine wpList_load_row rfl 29 (.tmp 1) rfl w.heap.size rfl 29 _ (0, 0) _ E1 Try.underlying29 rfl info29 ?_)
  refine (HN _).out.mono ?_; rintro e w2 ⟨rfl, ho2⟩
  have F2 := (E2.only ho2 (fun h => h)).alloc (.cells itZ 29)
  have F3 := Blk.new w2 29 itZ
  have hl := E2.lt
  have hs := ho2.size
  have HO2 := Lib.hid ((HO1.out.trans ho2).alloc (.cells itZ 29))
  clear ho2
  go_wp2_with (refine wpList_store_row rfl 29 (.tmp 3) (.tmp 9) rfl w2.heap.size (itC k' b' n' f' re' im' t') rfl rfl 29 itZ F3 info29 rfl (one_itC k' b' n' f' re' im' t') ?_; have G2 := F2.row_far (g := w2.heap.size) (by omega) (itC k' b' n' f' re' im' t'); have G3 := F3.row (itC k' b' n' f' re' im' t'); have HO3 := Lib.hid (HO2.out.row (b := w2.heap.size) (.inr (by omega)) (itC k' b' n' f' re' im' t')); generalize World.setRow _ w2.heap.size (itC k' b' n' f' re' im' t') = W3 at *; have k3 := G3.cellv 3 rfl)
  refine (clean_is f' _).mono ?_; rintro e w3 ⟨rfl, rfl⟩
  have f3 := G3.free 3
  have J3 : Blk (W3.setCell ⟨w2.heap.size, 3, none⟩ (.float .f64 (cln f'))) w2.heap.size 29 (itC k' b' n' (cln f') re' im' t') := G3.put 3 _
  have J2 : Blk (W3.setCell ⟨w2.heap.size, 3, none⟩ (.float .f64 (cln f'))) (w.heap.size + 1) 29 itZ := G2.far (p := ⟨w2.heap.size, 3, none⟩) (by dsimp only; omega) _
  have HO4 := Lib.hid (show Only NoneOf w (W3.setCell ⟨w2.heap.size, 3, none⟩ (.float .f64 (cln f'))) from HO3.out.put (.inr (by dsimp only; omega)) _)
  go_wp2_with fail
  generalize W3.setCell ⟨w2.heap.size, 3, none⟩ (.float .f64 (cln f')) = W4 at *
  have k4 := J3.cellv 4 rfl
  have f4 := J3.free 4
  clear k3 f3 G3 G2
  refine wp_region_still_tail 9 (by kernel_rfl) (by kernel_rfl) ?_
  simp only [List.take_succ_cons, List.take_zero, List.drop_succ_cons, List.drop_zero]
  change wpStill _ _ W4.drew _ _ _
  still_step
  still_step
  still_step
  still_call (still_same (clean_is re' _))
  still_step
  still_step
  still_step
  still_call (still_same (clean_is im' _))
  still_step
  refine wpStill_nil ?_
  change wpList _ _ _ _ _ W4.drew
  have M3 : Blk (W4.setCell ⟨w2.heap.size, 4, none⟩ (.complex .f64 (cln re') (cln im'))).drew w2.heap.size 29 (itC k' b' n' (cln f') (cln re') (cln im') t') := (J3.put 4 _).drew
  have M2 : Blk (W4.setCell ⟨w2.heap.size, 4, none⟩ (.complex .f64 (cln re') (cln im'))).drew (w.heap.size + 1) 29 itZ := (J2.far (p := ⟨w2.heap.size, 4, none⟩) (by dsimp only; omega) _).drew
  have HO5 := Lib.hid (show Only NoneOf w (W4.setCell ⟨w2.heap.size, 4, none⟩ (.complex .f64 (cln re') (cln im'))).drew from (HO4.out.put (.inr (by dsimp only; omega)) _).drew)
  have R2 := M2.row (itC k' b' n' (cln f') (cln re') (cln im') t')
  have HO6 := Lib.hid (HO5.out.row (b := w.heap.size + 1) (.inr (by omega)) (itC k' b' n' (cln f') (cln re') (cln im') t'))
  go_wp2_with (refine wpList_load_row rfl 29 (.tmp 3) rfl w2.heap.size rfl 29 _ (0, 0) _ M3 Try.underlying29 rfl info29 ?_; refine wpList_store_row rfl 29 (.tmp 2) (.tmp 24) rfl (w.heap.size + 1) (itC k' b' n' (cln f') (cln re') (cln im') t') rfl rfl 29 itZ M2 info29 rfl (one_itC k' b' n' (cln f') (cln re') (cln im') t') ?_)
  exact bodyPost_ret (v := .agg (itC k' b' n' (cln f') (cln re') (cln im') t')) (results_cell_row rfl _ _ _ 29 _ (0, 0) _ rfl R2 Try.underlying29 rfl info29) rfl ⟨rfl, HO6.out⟩

theorem clean_item (x : It) (w : World) : Calls Try.prog 17 #[.agg x.c] w (Ans (.agg x.clean.c) w) := by
  unfold It.clean
  cases h : x.ok
  · exact clean_no x h w
  · exact clean_ok x h w

end Go.Proofs.Ytimoenpfnaaehaa
