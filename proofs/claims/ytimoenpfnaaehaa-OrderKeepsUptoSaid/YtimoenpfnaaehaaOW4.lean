/-
  Layer 4: the reference's one (function 63): complex numbers, texts, what is no item.
-/
import Derived.Test.YtimoenpfnaaehaaOW3
namespace Go.Proofs.Ytimoenpfnaaehaa
open Go.RowKit

set_option maxRecDepth 100000 in
set_option maxHeartbeats 4000000 in
theorem one_5 (s : ByteArray) (p : Nat) (w : World) (hs : s.size ≤ 1073741824) (hp : p < s.size) (h : s[p] = 5) : Calls Try.prog 63 #[.string s, .int .i64 p] w (OnePost (rone 5 (s.data.toList.drop (p + 1))) s p w) := by
  have q1 : (s[p].toNat : Int) = 5 := by rw [h]; rfl
  clear h
  obtain ⟨R, HRS⟩ : ∃ R, Hid (rone 5 (s.data.toList.drop (p + 1)) = R) := ⟨_, Lib.hid rfl⟩
  rw [HRS.out]
  have HDL := Lib.hid fun q => drop_len s q
  obtain ⟨B4, B6, O⟩ := new2 w 32 32 rwZ rwZ
  have E6 := B6.row (rwC 5 false 0 0 0 0 E0)
  have E4 := B4.row_far (g := w.heap.size + 1) (by omega) (rwC 5 false 0 0 0 0 E0)
  have HO := Lib.hid (O.row (b := w.heap.size + 1) (.inr (by omega)) (rwC 5 false 0 0 0 0 E0))
  clear O B4
  go_enter Try.func63, Try.ntmps63
  go_upto_region 5 with (refine wpList_store_row rfl 32 (.tmp 6) (.tmp 13) rfl (w.heap.size + 1) (rwC 5 false 0 0 0 0 E0) rfl rfl 32 rwZ B6 info32 rfl (one_rwC _ _ _ _ _ _ _) ?_)
  generalize World.setRow _ (w.heap.size + 1) (rwC 5 false 0 0 0 0 E0) = W at *
  clear B6
  obtain ⟨c0, c1, c2, c3, c4, c5, c6⟩ := blk7 E6
  have f6 := fun i => E6.free i
  have hl6 := E6.lt
  by_cases h8 : 8 ≤ s.size - (p + 1)
  rotate_left
  · have HR := Lib.hid (show R = none by rw [← HRS.out, rone_5, if_pos (by rw [drop_len]; omega)])
    have HN := fun u => Lib.hid (number_short s (p + 1) u hs (by omega) (by omega))
    have HU := fun u => Lib.hid (unfloat_is 0 false u (by omega))
    go_wp2_with fail
    refine (HN _).out.mono ?_; rintro e w1 ⟨rfl, rfl⟩
    go_wp2_with fail
    refine (HU _).out.mono ?_; rintro e w1 ⟨rfl, rfl⟩
    generalize unturn 0 = v
    rw [Bool.false_and]
    have F61 : Blk (World.setCell W ⟨w.heap.size + 1, 4, none⟩ (.int .u64 (v : Nat))) (w.heap.size + 1) 32 (rwC 5 false 0 0 v 0 E0) := E6.put 4 (.int .u64 (v : Nat))
    have F41 : Blk (World.setCell W ⟨w.heap.size + 1, 4, none⟩ (.int .u64 (v : Nat))) w.heap.size 32 rwZ := E4.far (p := ⟨w.heap.size + 1, 4, none⟩) (by dsimp only; omega) _
    have HO1 := Lib.hid (show Only NoneOf w (World.setCell W ⟨w.heap.size + 1, 4, none⟩ (.int .u64 (v : Nat))) from HO.out.put (.inr (by dsimp only; omega)) _)
    have g1 := f6 4
    go_wp2_with (refine wpList_store_row rfl 32 (.tmp 4) (.tmp 116) rfl w.heap.size rwZ rfl rfl 32 rwZ F41 info32 rfl (one_rwC _ _ _ _ _ _ _) ?_)
    exact one_ret rwZ _ (F41.row rwZ) rfl rfl rfl (one_none HR.out (HO1.out.row (.inr (by omega)) _))
  have HN := fun u => Lib.hid (number_is s (p + 1) u hs (by omega) (by omega))
  have hb := num8 (s.data.toList.drop (p + 1))
  have HRQ := Lib.hid (show R = if cln (unturn (numB ((s.data.toList.drop (p + 1)).take 8))) = unturn (numB ((s.data.toList.drop (p + 1)).take 8)) then
      (if s.size - (p + 9) < 8 then none else if cln (unturn (numB ((s.data.toList.drop (p + 9)).take 8))) = unturn (numB ((s.data.toList.drop (p + 9)).take 8)) then some (⟨5, false, 0, 0, unturn (numB ((s.data.toList.drop (p + 1)).take 8)), unturn (numB ((s.data.toList.drop (p + 9)).take 8)), E0⟩, s.data.toList.drop (p + 17)) else none) else none by
    rw [← HRS.out, rone_5, if_neg (by rw [drop_len]; omega), List.drop_drop, List.drop_drop]
    simp only [show ((s.data.toList.drop (p + 1)).length < 16) = (s.size - (p + 9) < 8) from propext (by rw [drop_len]; omega)])
  have hb2 := num8 (s.data.toList.drop (p + 9))
  have HN2 := fun (h : 8 ≤ s.size - (p + 9)) u => Lib.hid (number_is s (p + 9) u hs (by omega) h)
  generalize numB ((s.data.toList.drop (p + 1)).take 8) = n at *
  generalize numB ((s.data.toList.drop (p + 9)).take 8) = n2 at *
  have HU := fun u => Lib.hid (unfloat_is n true u hb)
  have HU2 := fun u => Lib.hid (unfloat_is n2 true u hb2)
  clear hb hb2
  generalize unturn n = v at *
  generalize unturn n2 = v2 at *
  go_wp2_with fail
  refine (HN _).out.mono ?_; rintro e w1 ⟨rfl, rfl⟩
  go_wp2_with fail
  refine (HU _).out.mono ?_; rintro e w1 ⟨rfl, rfl⟩
  rw [Bool.true_and]
  have F61 : Blk (World.setCell W ⟨w.heap.size + 1, 4, none⟩ (.int .u64 (v : Nat))) (w.heap.size + 1) 32 (rwC 5 false 0 0 v 0 E0) := E6.put 4 (.int .u64 (v : Nat))
  have F41 : Blk (World.setCell W ⟨w.heap.size + 1, 4, none⟩ (.int .u64 (v : Nat))) w.heap.size 32 rwZ := E4.far (p := ⟨w.heap.size + 1, 4, none⟩) (by dsimp only; omega) _
  have HO1 := Lib.hid (show Only NoneOf w (World.setCell W ⟨w.heap.size + 1, 4, none⟩ (.int .u64 (v : Nat))) from HO.out.put (.inr (by dsimp only; omega)) _)
  have g1 := f6 4
  by_cases hc : cln v = v
  rotate_left
  · have HR := Lib.hid (HRQ.out.trans (if_neg hc))
    rw [show (cln v == v) = false from beq_eq_false_iff_ne.2 hc]
    go_wp2_with (refine wpList_store_row rfl 32 (.tmp 4) (.tmp 116) rfl w.heap.size rwZ rfl rfl 32 rwZ F41 info32 rfl (one_rwC _ _ _ _ _ _ _) ?_)
    exact one_ret rwZ _ (F41.row rwZ) rfl rfl rfl (one_none HR.out (HO1.out.row (.inr (by omega)) _))
  have HRQ2 := Lib.hid (HRQ.out.trans (if_pos hc))
  rw [show (cln v == v) = true from beq_iff_eq.2 hc]
  clear hc HRQ
  by_cases h16 : 8 ≤ s.size - (p + 9)
  rotate_left
  · have HR := Lib.hid (HRQ2.out.trans (if_pos (by omega)))
    have HM := fun u => Lib.hid (number_short s (p + 9) u hs (by omega) (by omega))
    have HV := fun u => Lib.hid (unfloat_is 0 false u (by omega))
    generalize unturn 0 = v3 at *
    go_wp2_with fail
    refine (HM _).out.mono ?_; rintro e w1 ⟨rfl, rfl⟩
    generalize World.setCell W ⟨w.heap.size + 1, 4, none⟩ (.int .u64 (v : Nat)) = W1 at *
    clear c0 c1 c2 c3 c4 c5 c6
    obtain ⟨c0, c1, c2, c3, c4, c5, c6⟩ := blk7 F61
    have f6 := fun i => F61.free i
    go_wp2_with fail
    refine (HV _).out.mono ?_; rintro e w1 ⟨rfl, rfl⟩
    rw [Bool.false_and]
    have F62 : Blk (World.setCell W1 ⟨w.heap.size + 1, 5, none⟩ (.int .u64 (v3 : Nat))) (w.heap.size + 1) 32 (rwC 5 false 0 0 v v3 E0) := F61.put 5 (.int .u64 (v3 : Nat))
    have F42 : Blk (World.setCell W1 ⟨w.heap.size + 1, 5, none⟩ (.int .u64 (v3 : Nat))) w.heap.size 32 rwZ := F41.far (p := ⟨w.heap.size + 1, 5, none⟩) (by dsimp only; omega) _
    have HO2 := Lib.hid (show Only NoneOf w (World.setCell W1 ⟨w.heap.size + 1, 5, none⟩ (.int .u64 (v3 : Nat))) from HO1.out.put (.inr (by dsimp only; omega)) _)
    have g2 := f6 5
    go_wp2_with (refine wpList_store_row rfl 32 (.tmp 4) (.tmp 116) rfl w.heap.size rwZ rfl rfl 32 rwZ F42 info32 rfl (one_rwC _ _ _ _ _ _ _) ?_)
    exact one_ret rwZ _ (F42.row rwZ) rfl rfl rfl (one_none HR.out (HO2.out.row (.inr (by omega)) _))
  have HM := fun u => HN2 h16 u
  have HRQ := Lib.hid (HRQ2.out.trans (if_neg (by omega)))
  go_wp2_with fail
  refine (HM _).out.mono ?_; rintro e w1 ⟨rfl, rfl⟩
  generalize World.setCell W ⟨w.heap.size + 1, 4, none⟩ (.int .u64 (v : Nat)) = W1 at *
  clear c0 c1 c2 c3 c4 c5 c6
  obtain ⟨c0, c1, c2, c3, c4, c5, c6⟩ := blk7 F61
  have f6 := fun i => F61.free i
  go_wp2_with fail
  refine (HU2 _).out.mono ?_; rintro e w1 ⟨rfl, rfl⟩
  rw [Bool.true_and]
  have F62 : Blk (World.setCell W1 ⟨w.heap.size + 1, 5, none⟩ (.int .u64 (v2 : Nat))) (w.heap.size + 1) 32 (rwC 5 false 0 0 v v2 E0) := F61.put 5 (.int .u64 (v2 : Nat))
  have F42 : Blk (World.setCell W1 ⟨w.heap.size + 1, 5, none⟩ (.int .u64 (v2 : Nat))) w.heap.size 32 rwZ := F41.far (p := ⟨w.heap.size + 1, 5, none⟩) (by dsimp only; omega) _
  have HO2 := Lib.hid (show Only NoneOf w (World.setCell W1 ⟨w.heap.size + 1, 5, none⟩ (.int .u64 (v2 : Nat))) from HO1.out.put (.inr (by dsimp only; omega)) _)
  have g2 := f6 5
  by_cases hc : cln v2 = v2
  rotate_left
  · have HR := Lib.hid (HRQ.out.trans (if_neg hc))
    rw [show (cln v2 == v2) = false from beq_eq_false_iff_ne.2 hc]
    go_wp2_with (refine wpList_store_row rfl 32 (.tmp 4) (.tmp 116) rfl w.heap.size rwZ rfl rfl 32 rwZ F42 info32 rfl (one_rwC _ _ _ _ _ _ _) ?_)
    exact one_ret rwZ _ (F42.row rwZ) rfl rfl rfl (one_none HR.out (HO2.out.row (.inr (by omega)) _))
  have HR := Lib.hid (HRQ.out.trans (if_pos hc))
  rw [show (cln v2 == v2) = true from beq_iff_eq.2 hc]
  go_wp2_with (first | (refine wpList_load_row rfl 32 (.tmp 6) rfl (w.heap.size + 1) rfl 32 _ (0, 0) _ F62 Try.underlying32 rfl info32 ?_) | (refine wpList_store_row rfl 32 (.tmp 4) (.tmp 117) rfl w.heap.size (It.r ⟨5, false, 0, 0, v, v2, E0⟩) rfl rfl 32 rwZ F42 info32 rfl (one_rwC _ _ _ _ _ _ _) ?_))
  exact one_ret (It.r ⟨5, false, 0, 0, v, v2, E0⟩) _ (F42.row (It.r ⟨5, false, 0, 0, v, v2, E0⟩)) rfl rfl rfl (one_some ⟨5, false, 0, 0, v, v2, E0⟩ (p + 17) HR.out (by omega) (by omega) (HO2.out.row (.inr (by omega)) _))

set_option maxRecDepth 100000 in
set_option maxHeartbeats 4000000 in
theorem one_6 (s : ByteArray) (p : Nat) (w : World) (hs : s.size ≤ 1073741824) (hp : p < s.size) (h : s[p] = 6) : Calls Try.prog 63 #[.string s, .int .i64 p] w (OnePost (rone 6 (s.data.toList.drop (p + 1))) s p w) := by
  have q1 : (s[p].toNat : Int) = 6 := by rw [h]; rfl
  clear h
  obtain ⟨R, HRS⟩ : ∃ R, Hid (rone 6 (s.data.toList.drop (p + 1)) = R) := ⟨_, Lib.hid rfl⟩
  rw [HRS.out]
  have HDL := Lib.hid fun q => drop_len s q
  obtain ⟨B4, B6, O⟩ := new2 w 32 32 rwZ rwZ
  have E6 := B6.row (rwC 6 false 0 0 0 0 E0)
  have E4 := B4.row_far (g := w.heap.size + 1) (by omega) (rwC 6 false 0 0 0 0 E0)
  have HO := Lib.hid (O.row (b := w.heap.size + 1) (.inr (by omega)) (rwC 6 false 0 0 0 0 E0))
  clear O B4
  go_enter Try.func63, Try.ntmps63
  go_upto_region 5 with (refine wpList_store_row rfl 32 (.tmp 6) (.tmp 13) rfl (w.heap.size + 1) (rwC 6 false 0 0 0 0 E0) rfl rfl 32 rwZ B6 info32 rfl (one_rwC _ _ _ _ _ _ _) ?_)
  generalize World.setRow _ (w.heap.size + 1) (rwC 6 false 0 0 0 0 E0) = W at *
  clear B6
  obtain ⟨c0, c1, c2, c3, c4, c5, c6⟩ := blk7 E6
  have f6 := fun i => E6.free i
  have hl6 := E6.lt
  have hlen := fun t r => @untextL_len (s.data.toList.drop (p + 1)) t r
  have HU := fun u => Lib.hid (untext_is s (p + 1) u hs (by omega))
  have HRR := Lib.hid (HRS.out.symm.trans (rone_6 _))
  generalize untextL (s.data.toList.drop (p + 1)) = Q at *
  go_wp2_with fail
  refine (HU _).out.mono ?_; rintro e w1 ⟨h1, ho1⟩
  have G6 := E6.only ho1 (fun h => h)
  have G4 := E4.only ho1 (fun h => h)
  have HO0 := Lib.hid (HO.out.trans ho1)
  clear ho1 c0 c1 c2 c3 c4 c5 c6 f6
  obtain ⟨c0, c1, c2, c3, c4, c5, c6⟩ := blk7 G6
  have f6 := fun i => G6.free i
  have hl6 := G6.lt
  cases Q with
  | none =>
    simp only at h1
    subst h1
    have HR := Lib.hid (show R = none from HRR.out)
    have F61 : Blk (World.setCell w1 ⟨w.heap.size + 1, 6, none⟩ (.string ⟨#[]⟩)) (w.heap.size + 1) 32 (rwC 6 false 0 0 0 0 ⟨#[]⟩) := G6.put 6 (.string ⟨#[]⟩)
    have F41 : Blk (World.setCell w1 ⟨w.heap.size + 1, 6, none⟩ (.string ⟨#[]⟩)) w.heap.size 32 rwZ := G4.far (p := ⟨w.heap.size + 1, 6, none⟩) (by dsimp only; omega) _
    have HO1 := Lib.hid (show Only NoneOf w (World.setCell w1 ⟨w.heap.size + 1, 6, none⟩ (.string ⟨#[]⟩)) from HO0.out.put (.inr (by dsimp only; omega)) _)
    have g1 := f6 6
    go_wp2_with (refine wpList_store_row rfl 32 (.tmp 4) (.tmp 116) rfl w.heap.size rwZ rfl rfl 32 rwZ F41 info32 rfl (one_rwC _ _ _ _ _ _ _) ?_)
    exact one_ret rwZ _ (F41.row rwZ) rfl rfl rfl (one_none HR.out (HO1.out.row (.inr (by omega)) _))
  | some tr =>
    obtain ⟨t, r⟩ := tr
    obtain ⟨q, rfl, hq, rfl⟩ := h1
    have hl := hlen t _ rfl
    rw [drop_len, drop_len] at hl
    have hpq : p < q := by omega
    clear hlen hl
    have HR := Lib.hid (show R = some (⟨6, false, 0, 0, 0, 0, ⟨t.toArray⟩⟩, s.data.toList.drop q) from HRR.out)
    have HPQ := Lib.hid hpq
    have HQ := Lib.hid hq
    clear hpq hq
    have F61 : Blk (World.setCell w1 ⟨w.heap.size + 1, 6, none⟩ (.string ⟨t.toArray⟩)) (w.heap.size + 1) 32 (rwC 6 false 0 0 0 0 ⟨t.toArray⟩) := G6.put 6 (.string ⟨t.toArray⟩)
    have F41 : Blk (World.setCell w1 ⟨w.heap.size + 1, 6, none⟩ (.string ⟨t.toArray⟩)) w.heap.size 32 rwZ := G4.far (p := ⟨w.heap.size + 1, 6, none⟩) (by dsimp only; omega) _
    have HO1 := Lib.hid (show Only NoneOf w (World.setCell w1 ⟨w.heap.size + 1, 6, none⟩ (.string ⟨t.toArray⟩)) from HO0.out.put (.inr (by dsimp only; omega)) _)
    have g1 := f6 6
    go_wp2_with (first | (refine wpList_load_row rfl 32 (.tmp 6) rfl (w.heap.size + 1) rfl 32 _ (0, 0) _ F61 Try.underlying32 rfl info32 ?_) | (refine wpList_store_row rfl 32 (.tmp 4) (.tmp 117) rfl w.heap.size (It.r ⟨6, false, 0, 0, 0, 0, ⟨t.toArray⟩⟩) rfl rfl 32 rwZ F41 info32 rfl (one_rwC _ _ _ _ _ _ _) ?_))
    exact one_ret (It.r ⟨6, false, 0, 0, 0, 0, ⟨t.toArray⟩⟩) _ (F41.row (It.r ⟨6, false, 0, 0, 0, 0, ⟨t.toArray⟩⟩)) rfl rfl rfl (one_some ⟨6, false, 0, 0, 0, 0, ⟨t.toArray⟩⟩ q HR.out HQ.out HPQ.out (HO1.out.row (.inr (by omega)) _))

set_option maxRecDepth 100000 in
set_option maxHeartbeats 4000000 in
theorem one_x (s : ByteArray) (p : Nat) (w : World) (hs : s.size ≤ 1073741824) (hp : p < s.size) (h1 : s[p] ≠ 1) (h2 : s[p] ≠ 2) (h3 : s[p] ≠ 3) (h4 : s[p] ≠ 4) (h5 : s[p] ≠ 5) (h6 : s[p] ≠ 6) : Calls Try.prog 63 #[.string s, .int .i64 p] w (OnePost none s p w) := by
  have hw : wrap64 (s[p].toNat : Int) = (s[p].toNat : Int) := by
    have := s[p].toNat_lt
    unfold wrap64
    omega
  have q1 : ((s[p].toNat : Int) == 1) = false := (nz (d := 1) h1).1
  have q2 : ((s[p].toNat : Int) == 2) = false := (nz (d := 2) h2).1
  have q3 : ((s[p].toNat : Int) == 3) = false := (nz (d := 3) h3).1
  have q4 : ((s[p].toNat : Int) == 4) = false := (nz (d := 4) h4).1
  have q5 : ((s[p].toNat : Int) == 5) = false := (nz (d := 5) h5).1
  have q6 : ((s[p].toNat : Int) == 6) = false := (nz (d := 6) h6).1
  clear h1 h2 h3 h4 h5 h6
  obtain ⟨B4, B6, O⟩ := new2 w 32 32 rwZ rwZ
  have E6 := B6.row (rwC (s[p].toNat : Int) false 0 0 0 0 E0)
  have E4 := B4.row_far (g := w.heap.size + 1) (by omega) (rwC (s[p].toNat : Int) false 0 0 0 0 E0)
  have HO := Lib.hid (O.row (b := w.heap.size + 1) (.inr (by omega)) (rwC (s[p].toNat : Int) false 0 0 0 0 E0))
  clear O B4
  go_enter Try.func63, Try.ntmps63
  go_upto_region 5 with (refine wpList_store_row rfl 32 (.tmp 6) (.tmp 13) rfl (w.heap.size + 1) (rwC (s[p].toNat : Int) false 0 0 0 0 E0) rfl rfl 32 rwZ B6 info32 rfl (one_rwC _ _ _ _ _ _ _) ?_)
  generalize World.setRow _ (w.heap.size + 1) (rwC (s[p].toNat : Int) false 0 0 0 0 E0) = W at *
  clear B6
  obtain ⟨c0, c1, c2, c3, c4, c5, c6⟩ := blk7 E6
  go_wp2_with (refine wpList_store_row rfl 32 (.tmp 4) (.tmp 116) rfl w.heap.size rwZ rfl rfl 32 rwZ E4 info32 rfl (one_rwC _ _ _ _ _ _ _) ?_)
  exact one_ret rwZ _ (E4.row rwZ) rfl rfl rfl (one_none rfl (HO.out.row (.inr (by omega)) _))

theorem one_is (s : ByteArray) (p : Nat) (w : World) (hs : s.size ≤ 1073741824) (hp : p < s.size) : Calls Try.prog 63 #[.string s, .int .i64 p] w (OnePost (rone s[p] (s.data.toList.drop (p + 1))) s p w) := by
  by_cases h1 : s[p] = 1
  · rw [h1]; exact one_1 s p w hs hp h1
  by_cases h2 : s[p] = 2
  · rw [h2]; exact one_2 s p w hs hp h2
  by_cases h3 : s[p] = 3
  · rw [h3]; exact one_3 s p w hs hp h3
  by_cases h4 : s[p] = 4
  · rw [h4]; exact one_4 s p w hs hp h4
  by_cases h5 : s[p] = 5
  · rw [h5]; exact one_5 s p w hs hp h5
  by_cases h6 : s[p] = 6
  · rw [h6]; exact one_6 s p w hs hp h6
  · have : rone s[p] (s.data.toList.drop (p + 1)) = none := by
      unfold rone unitem
      rw [if_neg h1, if_neg h2, if_neg h3, if_neg h4, if_neg h5, if_neg h6]
    rw [this]
    exact one_x s p w hs hp h1 h2 h3 h4 h5 h6

end Go.Proofs.Ytimoenpfnaaehaa
