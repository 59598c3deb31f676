/-
  Layer 4: the reference's one (function 63).
-/
import Derived.Test.YtimoenpfnaaehaaOW2
import Derived.Test.YtimoenpfnaaehaaOM2
namespace Go.Proofs.Ytimoenpfnaaehaa
open Go.RowKit

def OnePost (R : Option (It × List UInt8)) (s : ByteArray) (p : Nat) (w : World) (e : Ending) (w' : World) : Prop :=
  (match R with
    | none => e = .returned (.tuple #[.agg rwZ, .int .i64 (-1)])
    | some (x, r) => ∃ q : Nat, e = .returned (.tuple #[.agg x.r, .int .i64 q]) ∧ q ≤ s.size ∧ p < q ∧ r = s.data.toList.drop q) ∧ Only NoneOf w w'

theorem results_one {tmps : Array Value} {w : World} {g : Nat} {cs : Array Value} (hb : Blk w g 32 cs) (hs : cs.size = 7) (hp : tmps.getD 4 undef = .pointer (some ⟨g, 0, none⟩)) :
    (results Try.f63 tmps).run Try.prog w = .ok (.tuple #[.agg cs, tmps.getD 5 undef]) w := by
  have h := run_loadVar_row (P := Try.prog) w g 32 32 cs (0, 0) _ hb Try.underlying32 rfl (by rw [hs]; exact info32)
  have hp' : tmps[4]?.getD undef = .pointer (some ⟨g, 0, none⟩) := by simpa using hp
  simp [results, hp', asAddr, h]
theorem one_ret {tmps : Array Value} {W : World} {g : Nat} (cs : Array Value) (i : Int) {R : Ending → World → Prop} (hb : Blk W g 32 cs) (hs : cs.size = 7) (hp : tmps.getD 4 undef = .pointer (some ⟨g, 0, none⟩)) (h5 : tmps.getD 5 undef = .int .i64 i)
    (h : R (.returned (.tuple #[.agg cs, .int .i64 i])) W) : bodyPost Try.prog Try.f63 R .ret ⟨tmps, []⟩ W :=
  bodyPost_ret (v := .tuple #[.agg cs, .int .i64 i]) (by rw [results_one hb hs hp, h5]) rfl h
theorem one_none {R : Option (It × List UInt8)} {s : ByteArray} {p : Nat} {w w' : World} (hR : R = none) (h : Only NoneOf w w') : OnePost R s p w (.returned (.tuple #[.agg rwZ, .int .i64 (-1)])) w' := by
  subst hR
  exact ⟨rfl, h⟩
theorem one_some (x : It) (q : Nat) {R : Option (It × List UInt8)} {s : ByteArray} {p : Nat} {w w' : World} (hR : R = some (x, s.data.toList.drop q)) (hq : q ≤ s.size) (hp : p < q) (h : Only NoneOf w w') : OnePost R s p w (.returned (.tuple #[.agg x.r, .int .i64 q])) w' := by
  subst hR
  exact ⟨⟨q, rfl, hq, hp, rfl⟩, h⟩
theorem drop_len (s : ByteArray) (p : Nat) : (s.data.toList.drop p).length = s.size - p := by
  rw [List.length_drop]
  simp

theorem rone_1 (l : List UInt8) : rone 1 l = some (⟨1, false, 0, 0, 0, 0, E0⟩, l) := rfl
theorem rone_2 (d : UInt8) (l : List UInt8) : rone 2 (d :: l) = if d.toNat ≤ 1 then some (⟨2, d == 1, 0, 0, 0, 0, E0⟩, l) else none := by
  unfold rone
  rw [show unitem 2 (d :: l) = if d.toNat ≤ 1 then some (⟨2, d == 1, 0, 0, 0, 0, E0⟩, l) else none from rfl]
  by_cases h : d.toNat ≤ 1
  · rw [if_pos h]
    rfl
  · rw [if_neg h]
theorem rone_3 (l : List UInt8) : rone 3 l = if l.length < 8 then none else some (⟨3, false, (numB (l.take 8) : Int) - 9223372036854775808, 0, 0, 0, E0⟩, l.drop 8) := by
  unfold rone
  rw [unitem_3]
  by_cases h : l.length < 8
  · rw [if_pos h]
  · rw [if_neg h]
    rfl
theorem rone_4 (l : List UInt8) : rone 4 l = if l.length < 8 then none else if cln (unturn (numB (l.take 8))) = unturn (numB (l.take 8)) then some (⟨4, false, 0, unturn (numB (l.take 8)), 0, 0, E0⟩, l.drop 8) else none := by
  unfold rone
  rw [unitem_4]
  by_cases h : l.length < 8
  · rw [if_pos h, if_pos h]
  · rw [if_neg h, if_neg h]
    simp only
    by_cases h2 : cln (unturn (numB (l.take 8))) = unturn (numB (l.take 8))
    · rw [if_pos ⟨h2, cln_zero', cln_zero'⟩, if_pos h2]
    · rw [if_neg (fun h => h2 h.1), if_neg h2]
theorem rone_5 (l : List UInt8) : rone 5 l = if l.length < 8 then none else if cln (unturn (numB (l.take 8))) = unturn (numB (l.take 8)) then
    (if l.length < 16 then none else if cln (unturn (numB ((l.drop 8).take 8))) = unturn (numB ((l.drop 8).take 8)) then some (⟨5, false, 0, 0, unturn (numB (l.take 8)), unturn (numB ((l.drop 8).take 8)), E0⟩, l.drop 16) else none) else none := by
  unfold rone
  rw [unitem_5]
  by_cases h : l.length < 8
  · rw [if_pos h, if_pos h]
  · rw [if_neg h, if_neg h]
    by_cases h16 : l.length < 16
    · rw [if_pos h16, if_pos h16]
      by_cases h2 : cln (unturn (numB (l.take 8))) = unturn (numB (l.take 8))
      · rw [if_pos h2]
      · rw [if_neg h2]
    · rw [if_neg h16, if_neg h16]
      simp only
      by_cases h2 : cln (unturn (numB (l.take 8))) = unturn (numB (l.take 8))
      · rw [if_pos h2]
        by_cases h3 : cln (unturn (numB ((l.drop 8).take 8))) = unturn (numB ((l.drop 8).take 8))
        · rw [if_pos ⟨cln_zero', h2, h3⟩, if_pos h3]
        · rw [if_neg (fun h => h3 h.2.2), if_neg h3]
      · rw [if_neg (fun h => h2 h.2.1), if_neg h2]
theorem rone_6 (l : List UInt8) : rone 6 l = (untextL l).map fun (t, r) => (⟨6, false, 0, 0, 0, 0, ⟨t.toArray⟩⟩, r) := by
  unfold rone
  rw [unitem_6]
  cases untextL l with
  | none => rfl
  | some p => rfl

set_option maxRecDepth 100000 in
set_option maxHeartbeats 4000000 in
theorem one_1 (s : ByteArray) (p : Nat) (w : World) (hs : s.size ≤ 1073741824) (hp : p < s.size) (h : s[p] = 1) : Calls Try.prog 63 #[.string s, .int .i64 p] w (OnePost (rone 1 (s.data.toList.drop (p + 1))) s p w) := by
  have q1 : (s[p].toNat : Int) = 1 := by rw [h]; rfl
  clear h
  obtain ⟨R, HRS⟩ : ∃ R, Hid (rone 1 (s.data.toList.drop (p + 1)) = R) := ⟨_, Lib.hid rfl⟩
  rw [HRS.out]
  have HDL := Lib.hid fun q => drop_len s q
  obtain ⟨B4, B6, O⟩ := new2 w 32 32 rwZ rwZ
  have E6 := B6.row (rwC 1 false 0 0 0 0 E0)
  have E4 := B4.row_far (g := w.heap.size + 1) (by omega) (rwC 1 false 0 0 0 0 E0)
  have HO := Lib.hid (O.row (b := w.heap.size + 1) (.inr (by omega)) (rwC 1 false 0 0 0 0 E0))
  clear O B4
  go_enter Try.func63, Try.ntmps63
  go_upto_region 5 with (refine wpList_store_row rfl 32 (.tmp 6) (.tmp 13) rfl (w.heap.size + 1) (rwC 1 false 0 0 0 0 E0) rfl rfl 32 rwZ B6 info32 rfl (one_rwC _ _ _ _ _ _ _) ?_)
  generalize World.setRow _ (w.heap.size + 1) (rwC 1 false 0 0 0 0 E0) = W at *
  clear B6
  obtain ⟨c0, c1, c2, c3, c4, c5, c6⟩ := blk7 E6
  have f6 := fun i => E6.free i
  have hl6 := E6.lt
  have HR := Lib.hid (HRS.out.symm.trans (rone_1 _))
  go_wp2_with (first | (refine wpList_load_row rfl 32 (.tmp 6) rfl (w.heap.size + 1) rfl 32 _ (0, 0) _ E6 Try.underlying32 rfl info32 ?_) | (refine wpList_store_row rfl 32 (.tmp 4) (.tmp 117) rfl w.heap.size (It.r ⟨1, false, 0, 0, 0, 0, E0⟩) rfl rfl 32 rwZ E4 info32 rfl (one_rwC _ _ _ _ _ _ _) ?_))
  exact one_ret (It.r ⟨1, false, 0, 0, 0, 0, E0⟩) _ (E4.row (It.r ⟨1, false, 0, 0, 0, 0, E0⟩)) rfl rfl rfl (one_some ⟨1, false, 0, 0, 0, 0, E0⟩ (p + 1) HR.out (by omega) (by omega) (HO.out.row (.inr (by omega)) _))

set_option maxRecDepth 100000 in
set_option maxHeartbeats 4000000 in
theorem one_2 (s : ByteArray) (p : Nat) (w : World) (hs : s.size ≤ 1073741824) (hp : p < s.size) (h : s[p] = 2) : Calls Try.prog 63 #[.string s, .int .i64 p] w (OnePost (rone 2 (s.data.toList.drop (p + 1))) s p w) := by
  have q1 : (s[p].toNat : Int) = 2 := by rw [h]; rfl
  clear h
  obtain ⟨R, HRS⟩ : ∃ R, Hid (rone 2 (s.data.toList.drop (p + 1)) = R) := ⟨_, Lib.hid rfl⟩
  rw [HRS.out]
  have HDL := Lib.hid fun q => drop_len s q
  obtain ⟨B4, B6, O⟩ := new2 w 32 32 rwZ rwZ
  have E6 := B6.row (rwC 2 false 0 0 0 0 E0)
  have E4 := B4.row_far (g := w.heap.size + 1) (by omega) (rwC 2 false 0 0 0 0 E0)
  have HO := Lib.hid (O.row (b := w.heap.size + 1) (.inr (by omega)) (rwC 2 false 0 0 0 0 E0))
  clear O B4
  go_enter Try.func63, Try.ntmps63
  go_upto_region 5 with (refine wpList_store_row rfl 32 (.tmp 6) (.tmp 13) rfl (w.heap.size + 1) (rwC 2 false 0 0 0 0 E0) rfl rfl 32 rwZ B6 info32 rfl (one_rwC _ _ _ _ _ _ _) ?_)
  generalize World.setRow _ (w.heap.size + 1) (rwC 2 false 0 0 0 0 E0) = W at *
  clear B6
  obtain ⟨c0, c1, c2, c3, c4, c5, c6⟩ := blk7 E6
  have f6 := fun i => E6.free i
  have hl6 := E6.lt
  by_cases h1 : p + 1 < s.size
  rotate_left
  · have HR := Lib.hid (show R = none by
      rw [← HRS.out, List.drop_of_length_le (by simp; omega)]
      rfl)
    go_wp2_with (refine wpList_store_row rfl 32 (.tmp 4) (.tmp 32) rfl w.heap.size rwZ rfl rfl 32 rwZ E4 info32 rfl (one_rwC _ _ _ _ _ _ _) ?_)
    exact one_ret rwZ _ (E4.row rwZ) rfl rfl rfl (one_none HR.out (HO.out.row (.inr (by omega)) _))
  have HD := Lib.hid (drop_get s (p + 1) h1)
  by_cases h2 : s[p + 1].toNat ≤ 1
  rotate_left
  · have HR := Lib.hid (show R = none by rw [← HRS.out, HD.out, rone_2, if_neg h2])
    have h3 : decide (1 < (s[p + 1].toNat : Int)) = true := decide_eq_true (by omega)
    clear h2
    go_wp2_with (refine wpList_store_row rfl 32 (.tmp 4) (.tmp 32) rfl w.heap.size rwZ rfl rfl 32 rwZ E4 info32 rfl (one_rwC _ _ _ _ _ _ _) ?_)
    exact one_ret rwZ _ (E4.row rwZ) rfl rfl rfl (one_none HR.out (HO.out.row (.inr (by omega)) _))
  have HR := Lib.hid (show R = some (⟨2, s[p + 1] == 1, 0, 0, 0, 0, E0⟩, s.data.toList.drop (p + 2)) by rw [← HRS.out, HD.out, rone_2, if_pos h2])
  have h3 : decide (1 < (s[p + 1].toNat : Int)) = false := decide_eq_false (by omega)
  have h4 : ((s[p + 1].toNat : Int) == 1) = (s[p + 1] == 1) := by
    rw [Bool.eq_iff_iff, beq_iff_eq, beq_iff_eq, ← UInt8.toNat_inj]
    show (s[p + 1].toNat : Int) = 1 ↔ s[p + 1].toNat = 1
    omega
  clear h2
  have F6 := E6.put 1 (.bool (s[p + 1] == 1))
  have F4 : Blk (World.setCell W ⟨w.heap.size + 1, 1, none⟩ (.bool (s[p + 1] == 1))) w.heap.size 32 rwZ := E4.far (p := ⟨w.heap.size + 1, 1, none⟩) (by dsimp only; omega) _
  have HO2 := Lib.hid (show Only NoneOf w (World.setCell W ⟨w.heap.size + 1, 1, none⟩ (.bool (s[p + 1] == 1))) from HO.out.put (.inr (by dsimp only; omega)) _)
  go_wp2_with (first | (refine wpList_load_row rfl 32 (.tmp 6) rfl (w.heap.size + 1) rfl 32 _ (0, 0) _ F6 Try.underlying32 rfl info32 ?_) | (refine wpList_store_row rfl 32 (.tmp 4) (.tmp 117) rfl w.heap.size (It.r ⟨2, s[p + 1] == 1, 0, 0, 0, 0, E0⟩) rfl rfl 32 rwZ F4 info32 rfl (one_rwC _ _ _ _ _ _ _) ?_))
  exact one_ret (It.r ⟨2, s[p + 1] == 1, 0, 0, 0, 0, E0⟩) _ (F4.row (It.r ⟨2, s[p + 1] == 1, 0, 0, 0, 0, E0⟩)) rfl rfl rfl (one_some ⟨2, s[p + 1] == 1, 0, 0, 0, 0, E0⟩ (p + 2) HR.out (by omega) (by omega) (HO2.out.row (.inr (by omega)) _))

set_option maxRecDepth 100000 in
set_option maxHeartbeats 4000000 in
theorem one_3 (s : ByteArray) (p : Nat) (w : World) (hs : s.size ≤ 1073741824) (hp : p < s.size) (h : s[p] = 3) : Calls Try.prog 63 #[.string s, .int .i64 p] w (OnePost (rone 3 (s.data.toList.drop (p + 1))) s p w) := by
  have q1 : (s[p].toNat : Int) = 3 := by rw [h]; rfl
  clear h
  obtain ⟨R, HRS⟩ : ∃ R, Hid (rone 3 (s.data.toList.drop (p + 1)) = R) := ⟨_, Lib.hid rfl⟩
  rw [HRS.out]
  have HDL := Lib.hid fun q => drop_len s q
  obtain ⟨B4, B6, O⟩ := new2 w 32 32 rwZ rwZ
  have E6 := B6.row (rwC 3 false 0 0 0 0 E0)
  have E4 := B4.row_far (g := w.heap.size + 1) (by omega) (rwC 3 false 0 0 0 0 E0)
  have HO := Lib.hid (O.row (b := w.heap.size + 1) (.inr (by omega)) (rwC 3 false 0 0 0 0 E0))
  clear O B4
  go_enter Try.func63, Try.ntmps63
  go_upto_region 5 with (refine wpList_store_row rfl 32 (.tmp 6) (.tmp 13) rfl (w.heap.size + 1) (rwC 3 false 0 0 0 0 E0) rfl rfl 32 rwZ B6 info32 rfl (one_rwC _ _ _ _ _ _ _) ?_)
  generalize World.setRow _ (w.heap.size + 1) (rwC 3 false 0 0 0 0 E0) = W at *
  clear B6
  obtain ⟨c0, c1, c2, c3, c4, c5, c6⟩ := blk7 E6
  have f6 := fun i => E6.free i
  have hl6 := E6.lt
  by_cases h8 : 8 ≤ s.size - (p + 1)
  rotate_left
  · have HR := Lib.hid (show R = none by rw [← HRS.out, rone_3, if_pos (by rw [drop_len]; omega)])
    have HN := fun u => Lib.hid (number_short s (p + 1) u hs (by omega) (by omega))
    go_wp2_with fail
    refine (HN _).out.mono ?_; rintro e w1 ⟨rfl, rfl⟩
    have F61 : Blk (World.setCell W ⟨w.heap.size + 1, 2, none⟩ (.int .i64 (wrap64 (IntKind.u64.wrap (-9223372036854775808))))) (w.heap.size + 1) 32 (rwC 3 false (wrap64 (IntKind.u64.wrap (-9223372036854775808))) 0 0 0 E0) := E6.put 2 (.int .i64 (wrap64 (IntKind.u64.wrap (-9223372036854775808))))
    have F41 : Blk (World.setCell W ⟨w.heap.size + 1, 2, none⟩ (.int .i64 (wrap64 (IntKind.u64.wrap (-9223372036854775808))))) w.heap.size 32 rwZ := E4.far (p := ⟨w.heap.size + 1, 2, none⟩) (by dsimp only; omega) _
    have HO1 := Lib.hid (show Only NoneOf w (World.setCell W ⟨w.heap.size + 1, 2, none⟩ (.int .i64 (wrap64 (IntKind.u64.wrap (-9223372036854775808))))) from HO.out.put (.inr (by dsimp only; omega)) _)
    have g1 := f6 2
    go_wp2_with (refine wpList_store_row rfl 32 (.tmp 4) (.tmp 116) rfl w.heap.size rwZ rfl rfl 32 rwZ F41 info32 rfl (one_rwC _ _ _ _ _ _ _) ?_)
    exact one_ret rwZ _ (F41.row rwZ) rfl rfl rfl (one_none HR.out (HO1.out.row (.inr (by omega)) _))
  have HN := fun u => Lib.hid (number_is s (p + 1) u hs (by omega) (by omega))
  have HB := Lib.hid (num8 (s.data.toList.drop (p + 1)))
  have HR := Lib.hid (show R = some (⟨3, false, (numB ((s.data.toList.drop (p + 1)).take 8) : Int) - 9223372036854775808, 0, 0, 0, E0⟩, s.data.toList.drop (p + 9)) by
    rw [← HRS.out, rone_3, if_neg (by rw [drop_len]; omega), List.drop_drop])
  generalize numB ((s.data.toList.drop (p + 1)).take 8) = n at *
  have HV := Lib.hid (show wrap64 (IntKind.u64.wrap ((n : Int) - 9223372036854775808)) = (n : Int) - 9223372036854775808 by
    have := HB.out
    rw [IntKind.wrap_u64]
    unfold wrap64
    omega)
  rw [← HV.out] at HR
  go_wp2_with fail
  refine (HN _).out.mono ?_; rintro e w1 ⟨rfl, rfl⟩
  have F61 : Blk (World.setCell W ⟨w.heap.size + 1, 2, none⟩ (.int .i64 (wrap64 (IntKind.u64.wrap ((n : Int) - 9223372036854775808))))) (w.heap.size + 1) 32 (It.r ⟨3, false, wrap64 (IntKind.u64.wrap ((n : Int) - 9223372036854775808)), 0, 0, 0, E0⟩) := E6.put 2 (.int .i64 (wrap64 (IntKind.u64.wrap ((n : Int) - 9223372036854775808))))
  have F41 : Blk (World.setCell W ⟨w.heap.size + 1, 2, none⟩ (.int .i64 (wrap64 (IntKind.u64.wrap ((n : Int) - 9223372036854775808))))) w.heap.size 32 rwZ := E4.far (p := ⟨w.heap.size + 1, 2, none⟩) (by dsimp only; omega) _
  have HO1 := Lib.hid (show Only NoneOf w (World.setCell W ⟨w.heap.size + 1, 2, none⟩ (.int .i64 (wrap64 (IntKind.u64.wrap ((n : Int) - 9223372036854775808))))) from HO.out.put (.inr (by dsimp only; omega)) _)
  have g1 := f6 2
  go_wp2_with (first | (refine wpList_load_row rfl 32 (.tmp 6) rfl (w.heap.size + 1) rfl 32 _ (0, 0) _ F61 Try.underlying32 rfl info32 ?_) | (refine wpList_store_row rfl 32 (.tmp 4) (.tmp 117) rfl w.heap.size (It.r ⟨3, false, wrap64 (IntKind.u64.wrap ((n : Int) - 9223372036854775808)), 0, 0, 0, E0⟩) rfl rfl 32 rwZ F41 info32 rfl (one_rwC _ _ _ _ _ _ _) ?_))
  exact one_ret (It.r ⟨3, false, wrap64 (IntKind.u64.wrap ((n : Int) - 9223372036854775808)), 0, 0, 0, E0⟩) _ (F41.row (It.r ⟨3, false, wrap64 (IntKind.u64.wrap ((n : Int) - 9223372036854775808)), 0, 0, 0, E0⟩)) rfl rfl rfl (one_some ⟨3, false, wrap64 (IntKind.u64.wrap ((n : Int) - 9223372036854775808)), 0, 0, 0, E0⟩ (p + 9) HR.out (by omega) (by omega) (HO1.out.row (.inr (by omega)) _))

set_option maxRecDepth 100000 in
set_option maxHeartbeats 4000000 in
theorem one_4 (s : ByteArray) (p : Nat) (w : World) (hs : s.size ≤ 1073741824) (hp : p < s.size) (h : s[p] = 4) : Calls Try.prog 63 #[.string s, .int .i64 p] w (OnePost (rone 4 (s.data.toList.drop (p + 1))) s p w) := by
  have q1 : (s[p].toNat : Int) = 4 := by rw [h]; rfl
  clear h
  obtain ⟨R, HRS⟩ : ∃ R, Hid (rone 4 (s.data.toList.drop (p + 1)) = R) := ⟨_, Lib.hid rfl⟩
  rw [HRS.out]
  have HDL := Lib.hid fun q => drop_len s q
  obtain ⟨B4, B6, O⟩ := new2 w 32 32 rwZ rwZ
  have E6 := B6.row (rwC 4 false 0 0 0 0 E0)
  have E4 := B4.row_far (g := w.heap.size + 1) (by omega) (rwC 4 false 0 0 0 0 E0)
  have HO := Lib.hid (O.row (b := w.heap.size + 1) (.inr (by omega)) (rwC 4 false 0 0 0 0 E0))
  clear O B4
  go_enter Try.func63, Try.ntmps63
  go_upto_region 5 with (refine wpList_store_row rfl 32 (.tmp 6) (.tmp 13) rfl (w.heap.size + 1) (rwC 4 false 0 0 0 0 E0) rfl rfl 32 rwZ B6 info32 rfl (one_rwC _ _ _ _ _ _ _) ?_)
  generalize World.setRow _ (w.heap.size + 1) (rwC 4 false 0 0 0 0 E0) = W at *
  clear B6
  obtain ⟨c0, c1, c2, c3, c4, c5, c6⟩ := blk7 E6
  have f6 := fun i => E6.free i
  have hl6 := E6.lt
  by_cases h8 : 8 ≤ s.size - (p + 1)
  rotate_left
  · have HR := Lib.hid (show R = none by rw [← HRS.out, rone_4, if_pos (by rw [drop_len]; omega)])
    have HN := fun u => Lib.hid (number_short s (p + 1) u hs (by omega) (by omega))
    have HU := fun u => Lib.hid (unfloat_is 0 false u (by omega))
    go_wp2_with fail
    refine (HN _).out.mono ?_; rintro e w1 ⟨rfl, rfl⟩
    go_wp2_with fail
    refine (HU _).out.mono ?_; rintro e w1 ⟨rfl, rfl⟩
    generalize unturn 0 = v
    rw [Bool.false_and]
    have F61 : Blk (World.setCell W ⟨w.heap.size + 1, 3, none⟩ (.int .u64 (v : Nat))) (w.heap.size + 1) 32 (rwC 4 false 0 v 0 0 E0) := E6.put 3 (.int .u64 (v : Nat))
    have F41 : Blk (World.setCell W ⟨w.heap.size + 1, 3, none⟩ (.int .u64 (v : Nat))) w.heap.size 32 rwZ := E4.far (p := ⟨w.heap.size + 1, 3, none⟩) (by dsimp only; omega) _
    have HO1 := Lib.hid (show Only NoneOf w (World.setCell W ⟨w.heap.size + 1, 3, none⟩ (.int .u64 (v : Nat))) from HO.out.put (.inr (by dsimp only; omega)) _)
    have g1 := f6 3
    go_wp2_with (refine wpList_store_row rfl 32 (.tmp 4) (.tmp 116) rfl w.heap.size rwZ rfl rfl 32 rwZ F41 info32 rfl (one_rwC _ _ _ _ _ _ _) ?_)
    exact one_ret rwZ _ (F41.row rwZ) rfl rfl rfl (one_none HR.out (HO1.out.row (.inr (by omega)) _))
  have HN := fun u => Lib.hid (number_is s (p + 1) u hs (by omega) (by omega))
  have hb := num8 (s.data.toList.drop (p + 1))
  have HRQ := Lib.hid (show R = if cln (unturn (numB ((s.data.toList.drop (p + 1)).take 8))) = unturn (numB ((s.data.toList.drop (p + 1)).take 8)) then some (⟨4, false, 0, unturn (numB ((s.data.toList.drop (p + 1)).take 8)), 0, 0, E0⟩, s.data.toList.drop (p + 9)) else none by
    rw [← HRS.out, rone_4, if_neg (by rw [drop_len]; omega), List.drop_drop])
  generalize numB ((s.data.toList.drop (p + 1)).take 8) = n at *
  have HU := fun u => Lib.hid (unfloat_is n true u hb)
  clear hb
  generalize unturn n = v at *
  go_wp2_with fail
  refine (HN _).out.mono ?_; rintro e w1 ⟨rfl, rfl⟩
  go_wp2_with fail
  refine (HU _).out.mono ?_; rintro e w1 ⟨rfl, rfl⟩
  rw [Bool.true_and]
  have F61 : Blk (World.setCell W ⟨w.heap.size + 1, 3, none⟩ (.int .u64 (v : Nat))) (w.heap.size + 1) 32 (rwC 4 false 0 v 0 0 E0) := E6.put 3 (.int .u64 (v : Nat))
  have F41 : Blk (World.setCell W ⟨w.heap.size + 1, 3, none⟩ (.int .u64 (v : Nat))) w.heap.size 32 rwZ := E4.far (p := ⟨w.heap.size + 1, 3, none⟩) (by dsimp only; omega) _
  have HO1 := Lib.hid (show Only NoneOf w (World.setCell W ⟨w.heap.size + 1, 3, none⟩ (.int .u64 (v : Nat))) from HO.out.put (.inr (by dsimp only; omega)) _)
  have g1 := f6 3
  by_cases hc : cln v = v
  rotate_left
  · have HR := Lib.hid (HRQ.out.trans (if_neg hc))
    rw [show (cln v == v) = false from beq_eq_false_iff_ne.2 hc]
    go_wp2_with (refine wpList_store_row rfl 32 (.tmp 4) (.tmp 116) rfl w.heap.size rwZ rfl rfl 32 rwZ F41 info32 rfl (one_rwC _ _ _ _ _ _ _) ?_)
    exact one_ret rwZ _ (F41.row rwZ) rfl rfl rfl (one_none HR.out (HO1.out.row (.inr (by omega)) _))
  have HR := Lib.hid (HRQ.out.trans (if_pos hc))
  rw [show (cln v == v) = true from beq_iff_eq.2 hc]
  go_wp2_with (first | (refine wpList_load_row rfl 32 (.tmp 6) rfl (w.heap.size + 1) rfl 32 _ (0, 0) _ F61 Try.underlying32 rfl info32 ?_) | (refine wpList_store_row rfl 32 (.tmp 4) (.tmp 117) rfl w.heap.size (It.r ⟨4, false, 0, v, 0, 0, E0⟩) rfl rfl 32 rwZ F41 info32 rfl (one_rwC _ _ _ _ _ _ _) ?_))
  exact one_ret (It.r ⟨4, false, 0, v, 0, 0, E0⟩) _ (F41.row (It.r ⟨4, false, 0, v, 0, 0, E0⟩)) rfl rfl rfl (one_some ⟨4, false, 0, v, 0, 0, E0⟩ (p + 9) HR.out (by omega) (by omega) (HO1.out.row (.inr (by omega)) _))

end Go.Proofs.Ytimoenpfnaaehaa
