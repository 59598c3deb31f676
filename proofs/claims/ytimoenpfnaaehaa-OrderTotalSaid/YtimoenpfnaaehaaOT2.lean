/-
  Layer 4's law OrderTotal, walked.
-/
import Derived.Test.YtimoenpfnaaehaaOT1
namespace Go.Proofs.Ytimoenpfnaaehaa
open Go.RowKit

/-- What the region of OrderTotal that makes the items leaves in its slots. -/
def ToT (n : Nat) (xr xc yr yc zr zc : Array Value) : Nat → Value → World → Prop
  | 0, v, _ => v = .agg xr
  | 1, v, _ => v = .agg xc
  | 2, v, _ => v = .agg yr
  | 3, v, _ => v = .agg yc
  | 4, v, _ => v = .agg zr
  | 5, v, _ => v = .agg zc
  | 6, v, w => ∃ b, v = .pointer (some ⟨b, 0, none⟩) ∧ Blk w b 29 itZ ∧ n ≤ b
  | 7, v, w => ∃ b, v = .pointer (some ⟨b, 0, none⟩) ∧ Blk w b 29 itZ ∧ n ≤ b
  | 8, v, w => ∃ b, v = .pointer (some ⟨b, 0, none⟩) ∧ Blk w b 29 itZ ∧ n ≤ b
  | _, _, _ => False
def isAl678 (i : Nat) : Bool := i == 6 || i == 7 || i == 8

theorem ToT_keep (n : Nat) (xr xc yr yc zr zc : Array Value) (i : Nat) (v : Value) (w w' : World) (h : ToT n xr xc yr yc zr zc i v w) (ho : Only NoneOf w w') : ToT n xr xc yr yc zr zc i v w' :=
  match i, h with
  | 0, h | 1, h | 2, h | 3, h | 4, h | 5, h => h
  | 6, ⟨b, h1, h2, h3⟩ | 7, ⟨b, h1, h2, h3⟩ | 8, ⟨b, h1, h2, h3⟩ => ⟨b, h1, h2.only ho (fun h => h), h3⟩
theorem ToT_al (n : Nat) (xr xc yr yc zr zc : Array Value) (i : Nat) (v : Value) (w : World) (ha : isAl678 i = true) (h : ToT n xr xc yr yc zr zc i v w) : ∃ b, v = .pointer (some ⟨b, 0, none⟩) ∧ b < w.heap.size := by
  have : (i = 6 ∨ i = 7) ∨ i = 8 := by simpa [isAl678] using ha
  rcases this with (rfl | rfl) | rfl
  all_goals
    obtain ⟨b, h1, h2, _⟩ := h
    exact ⟨b, h1, h2.lt⟩

/-- three new blocks -/
theorem new3' (w : World) (t : TypeId) (c d e : Array Value) : Blk (((w.alloc (.cells c t)).alloc (.cells d t)).alloc (.cells e t)) w.heap.size t c ∧ Blk (((w.alloc (.cells c t)).alloc (.cells d t)).alloc (.cells e t)) (w.heap.size + 1) t d ∧
    Blk (((w.alloc (.cells c t)).alloc (.cells d t)).alloc (.cells e t)) (w.heap.size + 2) t e ∧ Only NoneOf w (((w.alloc (.cells c t)).alloc (.cells d t)).alloc (.cells e t)) :=
  ⟨((Blk.new w t c).alloc _).alloc _, (Blk.new' _ _ _ (by simp)).alloc _, Blk.new' _ _ _ (by simp), (((Only.refl _ _).alloc _).alloc _).alloc _⟩

set_option maxRecDepth 100000 in
set_option maxHeartbeats 1000000 in
theorem total_x (x y z : It) (hx : x.ok = false) (w : World) : Calls Try.prog 12 #[.agg x.r, .agg y.r, .agg z.r] w (Ans (.bool true) w) := by
  have HA := fun u => Lib.hid (awake_is u)
  have HX := fun u => Lib.hid (check_is x u)
  have HY := fun u => Lib.hid (check_is y u)
  have HZ := fun u => Lib.hid (check_is z u)
  rw [hx] at HX
  clear hx HY HZ
  obtain ⟨k, b, n, f, re, im, t⟩ := x
  obtain ⟨k', b', n', f', re', im', t'⟩ := y
  obtain ⟨k'', b'', n'', f'', re'', im'', t''⟩ := z
  have HI := fun u => Lib.hid (item_is k b n f re im t u)
  have HJ := fun u => Lib.hid (item_is k' b' n' f' re' im' t' u)
  have HK := fun u => Lib.hid (item_is k'' b'' n'' f'' re'' im'' t'' u)
  obtain ⟨B1, B2, B3, O⟩ := new3' w 25 (rwC k b n f re im t) (rwC k' b' n' f' re' im' t') (rwC k'' b'' n'' f'' re'' im'' t'')
  have HO := Lib.hid O
  clear O
  go_enter Try.func12, Try.ntmps12
  go_wp2_with fail
  generalize ((w.alloc (.cells (rwC k b n f re im t) 25)).alloc (.cells (rwC k' b' n' f' re' im' t') 25)).alloc (.cells (rwC k'' b'' n'' f'' re'' im'' t'') 25) = W0 at *
  refine (HA _).out.mono ?_; rintro e W ⟨rfl, ho1⟩
  have B1 := B1.only ho1 (fun h => h)
  have B2 := B2.only ho1 (fun h => h)
  have B3 := B3.only ho1 (fun h => h)
  have HO := Lib.hid (HO.out.trans ho1)
  have hsz : w.heap.size + 2 < W.heap.size := B3.lt
  clear ho1
  go_upto_region 3 with (fail)
  refine wp_region_head 9 87 (ToT W.heap.size (rwC k b n f re im t) (itC k b n f re im t) (rwC k' b' n' f' re' im' t') (itC k' b' n' f' re' im' t') (rwC k'' b'' n'' f'' re'' im'' t'') (itC k'' b'' n'' f'' re'' im'' t'')) isAl678 rfl (by kernel_rfl) (by kernel_rfl) (ToT_keep _ _ _ _ _ _ _) (ToT_al _ _ _ _ _ _ _) ?_ ?_
  · intro i o hi ho a u hu hs ht
    have e1 : a.tmps.getD 3 undef = .pointer (some ⟨w.heap.size, 0, none⟩) := hs 3 (of_decide_eq_true (by kernel_rfl))
    have e2 : a.tmps.getD 4 undef = .pointer (some ⟨w.heap.size + 1, 0, none⟩) := hs 4 (of_decide_eq_true (by kernel_rfl))
    have e3 : a.tmps.getD 5 undef = .pointer (some ⟨w.heap.size + 2, 0, none⟩) := hs 5 (of_decide_eq_true (by kernel_rfl))
    have : i = 0 ∨ i = 1 ∨ i = 2 ∨ i = 3 ∨ i = 4 ∨ i = 5 ∨ i = 6 ∨ i = 7 ∨ i = 8 := by omega
    rcases this with rfl | rfl | rfl | rfl | rfl | rfl | rfl | rfl | rfl
    · obtain rfl := Option.some.inj (ho : some _ = some o)
      exact left_load 25 (.tmp 3) (w.heap.size) 25 _ _ rfl e1 (B1.only hu (fun h => h)) Try.underlying25 rfl info25 rfl rfl
    · obtain rfl := Option.some.inj (ho : some _ = some o)
      have s0 : a.tmps.getD 16 undef = .agg (rwC k b n f re im t) := ht 0 (by omega) (by kernel_rfl)
      exact left_call 18 _ _ (by simp [go_sem, s0]) HI rfl (fun _ => rfl)
    · obtain rfl := Option.some.inj (ho : some _ = some o)
      exact left_load 25 (.tmp 4) (w.heap.size + 1) 25 _ _ rfl e2 (B2.only hu (fun h => h)) Try.underlying25 rfl info25 rfl rfl
    · obtain rfl := Option.some.inj (ho : some _ = some o)
      have s0 : a.tmps.getD 18 undef = .agg (rwC k' b' n' f' re' im' t') := ht 2 (by omega) (by kernel_rfl)
      exact left_call 18 _ _ (by simp [go_sem, s0]) HJ rfl (fun _ => rfl)
    · obtain rfl := Option.some.inj (ho : some _ = some o)
      exact left_load 25 (.tmp 5) (w.heap.size + 2) 25 _ _ rfl e3 (B3.only hu (fun h => h)) Try.underlying25 rfl info25 rfl rfl
    · obtain rfl := Option.some.inj (ho : some _ = some o)
      have s0 : a.tmps.getD 20 undef = .agg (rwC k'' b'' n'' f'' re'' im'' t'') := ht 4 (by omega) (by kernel_rfl)
      exact left_call 18 _ _ (by simp [go_sem, s0]) HK rfl (fun _ => rfl)
    · obtain rfl := Option.some.inj (ho : some _ = some o)
      exact left_alloc itZ 29 (by simp [go_sem]) ⟨_, rfl, Blk.new _ _ _, hu.size⟩
    · obtain rfl := Option.some.inj (ho : some _ = some o)
      exact left_alloc itZ 29 (by simp [go_sem]) ⟨_, rfl, Blk.new _ _ _, hu.size⟩
    · obtain rfl := Option.some.inj (ho : some _ = some o)
      exact left_alloc itZ 29 (by simp [go_sem]) ⟨_, rfl, Blk.new _ _ _, hu.size⟩
  · intro V u hu hV hne
    have v0 : V 0 = .agg (rwC k b n f re im t) := hV 0 (by omega)
    have v1 : V 1 = .agg (itC k b n f re im t) := hV 1 (by omega)
    have v2 : V 2 = .agg (rwC k' b' n' f' re' im' t') := hV 2 (by omega)
    have v3 : V 3 = .agg (itC k' b' n' f' re' im' t') := hV 3 (by omega)
    have v4 : V 4 = .agg (rwC k'' b'' n'' f'' re'' im'' t'') := hV 4 (by omega)
    have v5 : V 5 = .agg (itC k'' b'' n'' f'' re'' im'' t'') := hV 5 (by omega)
    obtain ⟨b7, v6, E7, l7⟩ : ∃ b, V 6 = .pointer (some ⟨b, 0, none⟩) ∧ Blk u b 29 itZ ∧ W.heap.size ≤ b := hV 6 (by omega)
    obtain ⟨b8, v7, E8, l8⟩ : ∃ b, V 7 = .pointer (some ⟨b, 0, none⟩) ∧ Blk u b 29 itZ ∧ W.heap.size ≤ b := hV 7 (by omega)
    obtain ⟨b9, v8, E9, l9⟩ : ∃ b, V 8 = .pointer (some ⟨b, 0, none⟩) ∧ Blk u b 29 itZ ∧ W.heap.size ≤ b := hV 8 (by omega)
    have h78 : b7 ≠ b8 := fun h => hne 6 7 (by omega) (by omega) (by omega) rfl rfl (by rw [v6, v7, h])
    have h79 : b7 ≠ b9 := fun h => hne 6 8 (by omega) (by omega) (by omega) rfl rfl (by rw [v6, v8, h])
    have h89 : b8 ≠ b9 := fun h => hne 7 8 (by omega) (by omega) (by omega) rfl rfl (by rw [v7, v8, h])
    change wpList _ _ _ _ (Act.put (Act.put (Act.put (Act.put (Act.put (Act.put (Act.put (Act.put (Act.put _ (some 16) (V 0)) (some 17) (V 1)) (some 18) (V 2)) (some 19) (V 3)) (some 20) (V 4)) (some 21) (V 5)) (some 7) (V 6)) (some 8) (V 7)) (some 9) (V 8)) _
    rw [v0, v1, v2, v3, v4, v5, v6, v7, v8]
    simp only [Act.put, List.setIfInBounds_toArray, List.set_cons_zero, List.set_cons_succ]
    simp only [List.drop_succ_cons, List.drop_zero]
    refine wpList_store_row rfl 29 (.tmp 7) (.tmp 17) rfl b7 (itC k b n f re im t) rfl rfl 29 itZ E7 info29 rfl (one_itC k b n f re im t) ?_
    refine wpList_store_row rfl 29 (.tmp 8) (.tmp 19) rfl b8 (itC k' b' n' f' re' im' t') rfl rfl 29 itZ (E8.row_far (Ne.symm h78) _) info29 rfl (one_itC k' b' n' f' re' im' t') ?_
    refine wpList_store_row rfl 29 (.tmp 9) (.tmp 21) rfl b9 (itC k'' b'' n'' f'' re'' im'' t'') rfl rfl 29 itZ ((E9.row_far (Ne.symm h79) _).row_far (Ne.symm h89) _) info29 rfl (one_itC k'' b'' n'' f'' re'' im'' t'') ?_
    have F7 : Blk (((u.setRow b7 (itC k b n f re im t)).setRow b8 (itC k' b' n' f' re' im' t')).setRow b9 (itC k'' b'' n'' f'' re'' im'' t'')) b7 29 (itC k b n f re im t) := ((E7.row _).row_far h78 _).row_far h79 _
    have F8 : Blk (((u.setRow b7 (itC k b n f re im t)).setRow b8 (itC k' b' n' f' re' im' t')).setRow b9 (itC k'' b'' n'' f'' re'' im'' t'')) b8 29 (itC k' b' n' f' re' im' t') := ((E8.row_far (Ne.symm h78) _).row _).row_far h89 _
    have F9 : Blk (((u.setRow b7 (itC k b n f re im t)).setRow b8 (itC k' b' n' f' re' im' t')).setRow b9 (itC k'' b'' n'' f'' re'' im'' t'')) b9 29 (itC k'' b'' n'' f'' re'' im'' t'') := ((E9.row_far (Ne.symm h79) _).row_far (Ne.symm h89) _).row _
    have HO2 : Hid (Only NoneOf w (((u.setRow b7 (itC k b n f re im t)).setRow b8 (itC k' b' n' f' re' im' t')).setRow b9 (itC k'' b'' n'' f'' re'' im'' t''))) := Lib.hid ((((HO.out.trans hu).row (.inr (by omega)) _).row (.inr (by omega)) _).row (.inr (by omega)) _)
    generalize ((u.setRow b7 (itC k b n f re im t)).setRow b8 (itC k' b' n' f' re' im' t')).setRow b9 (itC k'' b'' n'' f'' re'' im'' t'') = W2 at *
    clear E7 E8 E9 B1 B2 B3 hu hV hne HI HJ HK HA HO
    obtain ⟨p0, p1, p2, p3, p4, p5⟩ := blk6 F7
    obtain ⟨q0, q1, q2, q3, q4, q5⟩ := blk6 F8
    obtain ⟨r0, r1, r2, r3, r4, r5⟩ := blk6 F9
    go_wp2_with fail
    refine (HX _).out.mono ?_; rintro e W3 ⟨rfl, ho1⟩
    clear p0 p1 p2 p3 p4 p5 q0 q1 q2 q3 q4 q5 r0 r1 r2 r3 r4 r5
    have F7 := F7.only ho1 (fun h => h)
    have F8 := F8.only ho1 (fun h => h)
    have F9 := F9.only ho1 (fun h => h)
    have HO2 := Lib.hid (HO2.out.trans ho1)
    clear ho1
    go_wp2_with fail
    go_ret
    exact ⟨rfl, HO2.out⟩

set_option maxRecDepth 100000 in
set_option maxHeartbeats 1000000 in
theorem total_y (x y z : It) (hx : x.ok = true) (hy : y.ok = false) (w : World) : Calls Try.prog 12 #[.agg x.r, .agg y.r, .agg z.r] w (Ans (.bool true) w) := by
  have HA := fun u => Lib.hid (awake_is u)
  have HX := fun u => Lib.hid (check_is x u)
  have HY := fun u => Lib.hid (check_is y u)
  have HZ := fun u => Lib.hid (check_is z u)
  rw [hx] at HX
  rw [hy] at HY
  clear hx hy HZ
  obtain ⟨k, b, n, f, re, im, t⟩ := x
  obtain ⟨k', b', n', f', re', im', t'⟩ := y
  obtain ⟨k'', b'', n'', f'', re'', im'', t''⟩ := z
  have HI := fun u => Lib.hid (item_is k b n f re im t u)
  have HJ := fun u => Lib.hid (item_is k' b' n' f' re' im' t' u)
  have HK := fun u => Lib.hid (item_is k'' b'' n'' f'' re'' im'' t'' u)
  obtain ⟨B1, B2, B3, O⟩ := new3' w 25 (rwC k b n f re im t) (rwC k' b' n' f' re' im' t') (rwC k'' b'' n'' f'' re'' im'' t'')
  have HO := Lib.hid O
  clear O
  go_enter Try.func12, Try.ntmps12
  go_wp2_with fail
  generalize ((w.alloc (.cells (rwC k b n f re im t) 25)).alloc (.cells (rwC k' b' n' f' re' im' t') 25)).alloc (.cells (rwC k'' b'' n'' f'' re'' im'' t'') 25) = W0 at *
  refine (HA _).out.mono ?_; rintro e W ⟨rfl, ho1⟩
  have B1 := B1.only ho1 (fun h => h)
  have B2 := B2.only ho1 (fun h => h)
  have B3 := B3.only ho1 (fun h => h)
  have HO := Lib.hid (HO.out.trans ho1)
  have hsz : w.heap.size + 2 < W.heap.size := B3.lt
  clear ho1
  go_upto_region 3 with (fail)
  refine wp_region_head 9 87 (ToT W.heap.size (rwC k b n f re im t) (itC k b n f re im t) (rwC k' b' n' f' re' im' t') (itC k' b' n' f' re' im' t') (rwC k'' b'' n'' f'' re'' im'' t'') (itC k'' b'' n'' f'' re'' im'' t'')) isAl678 rfl (by kernel_rfl) (by kernel_rfl) (ToT_keep _ _ _ _ _ _ _) (ToT_al _ _ _ _ _ _ _) ?_ ?_
  · intro i o hi ho a u hu hs ht
    have e1 : a.tmps.getD 3 undef = .pointer (some ⟨w.heap.size, 0, none⟩) := hs 3 (of_decide_eq_true (by kernel_rfl))
    have e2 : a.tmps.getD 4 undef = .pointer (some ⟨w.heap.size + 1, 0, none⟩) := hs 4 (of_decide_eq_true (by kernel_rfl))
    have e3 : a.tmps.getD 5 undef = .pointer (some ⟨w.heap.size + 2, 0, none⟩) := hs 5 (of_decide_eq_true (by kernel_rfl))
    have : i = 0 ∨ i = 1 ∨ i = 2 ∨ i = 3 ∨ i = 4 ∨ i = 5 ∨ i = 6 ∨ i = 7 ∨ i = 8 := by omega
    rcases this with rfl | rfl | rfl | rfl | rfl | rfl | rfl | rfl | rfl
    · obtain rfl := Option.some.inj (ho : some _ = some o)
      exact left_load 25 (.tmp 3) (w.heap.size) 25 _ _ rfl e1 (B1.only hu (fun h => h)) Try.underlying25 rfl info25 rfl rfl
    · obtain rfl := Option.some.inj (ho : some _ = some o)
      have s0 : a.tmps.getD 16 undef = .agg (rwC k b n f re im t) := ht 0 (by omega) (by kernel_rfl)
      exact left_call 18 _ _ (by simp [go_sem, s0]) HI rfl (fun _ => rfl)
    · obtain rfl := Option.some.inj (ho : some _ = some o)
      exact left_load 25 (.tmp 4) (w.heap.size + 1) 25 _ _ rfl e2 (B2.only hu (fun h => h)) Try.underlying25 rfl info25 rfl rfl
    · obtain rfl := Option.some.inj (ho : some _ = some o)
      have s0 : a.tmps.getD 18 undef = .agg (rwC k' b' n' f' re' im' t') := ht 2 (by omega) (by kernel_rfl)
      exact left_call 18 _ _ (by simp [go_sem, s0]) HJ rfl (fun _ => rfl)
    · obtain rfl := Option.some.inj (ho : some _ = some o)
      exact left_load 25 (.tmp 5) (w.heap.size + 2) 25 _ _ rfl e3 (B3.only hu (fun h => h)) Try.underlying25 rfl info25 rfl rfl
    · obtain rfl := Option.some.inj (ho : some _ = some o)
      have s0 : a.tmps.getD 20 undef = .agg (rwC k'' b'' n'' f'' re'' im'' t'') := ht 4 (by omega) (by kernel_rfl)
      exact left_call 18 _ _ (by simp [go_sem, s0]) HK rfl (fun _ => rfl)
    · obtain rfl := Option.some.inj (ho : some _ = some o)
      exact left_alloc itZ 29 (by simp [go_sem]) ⟨_, rfl, Blk.new _ _ _, hu.size⟩
    · obtain rfl := Option.some.inj (ho : some _ = some o)
      exact left_alloc itZ 29 (by simp [go_sem]) ⟨_, rfl, Blk.new _ _ _, hu.size⟩
    · obtain rfl := Option.some.inj (ho : some _ = some o)
      exact left_alloc itZ 29 (by simp [go_sem]) ⟨_, rfl, Blk.new _ _ _, hu.size⟩
  · intro V u hu hV hne
    have v0 : V 0 = .agg (rwC k b n f re im t) := hV 0 (by omega)
    have v1 : V 1 = .agg (itC k b n f re im t) := hV 1 (by omega)
    have v2 : V 2 = .agg (rwC k' b' n' f' re' im' t') := hV 2 (by omega)
    have v3 : V 3 = .agg (itC k' b' n' f' re' im' t') := hV 3 (by omega)
    have v4 : V 4 = .agg (rwC k'' b'' n'' f'' re'' im'' t'') := hV 4 (by omega)
    have v5 : V 5 = .agg (itC k'' b'' n'' f'' re'' im'' t'') := hV 5 (by omega)
    obtain ⟨b7, v6, E7, l7⟩ : ∃ b, V 6 = .pointer (some ⟨b, 0, none⟩) ∧ Blk u b 29 itZ ∧ W.heap.size ≤ b := hV 6 (by omega)
    obtain ⟨b8, v7, E8, l8⟩ : ∃ b, V 7 = .pointer (some ⟨b, 0, none⟩) ∧ Blk u b 29 itZ ∧ W.heap.size ≤ b := hV 7 (by omega)
    obtain ⟨b9, v8, E9, l9⟩ : ∃ b, V 8 = .pointer (some ⟨b, 0, none⟩) ∧ Blk u b 29 itZ ∧ W.heap.size ≤ b := hV 8 (by omega)
    have h78 : b7 ≠ b8 := fun h => hne 6 7 (by omega) (by omega) (by omega) rfl rfl (by rw [v6, v7, h])
    have h79 : b7 ≠ b9 := fun h => hne 6 8 (by omega) (by omega) (by omega) rfl rfl (by rw [v6, v8, h])
    have h89 : b8 ≠ b9 := fun h => hne 7 8 (by omega) (by omega) (by omega) rfl rfl (by rw [v7, v8, h])
    change wpList _ _ _ _ (Act.put (Act.put (Act.put (Act.put (Act.put (Act.put (Act.put (Act.put (Act.put _ (some 16) (V 0)) (some 17) (V 1)) (some 18) (V 2)) (some 19) (V 3)) (some 20) (V 4)) (some 21) (V 5)) (some 7) (V 6)) (some 8) (V 7)) (some 9) (V 8)) _
    rw [v0, v1, v2, v3, v4, v5, v6, v7, v8]
    simp only [Act.put, List.setIfInBounds_toArray, List.set_cons_zero, List.set_cons_succ]
    simp only [List.drop_succ_cons, List.drop_zero]
    refine wpList_store_row rfl 29 (.tmp 7) (.tmp 17) rfl b7 (itC k b n f re im t) rfl rfl 29 itZ E7 info29 rfl (one_itC k b n f re im t) ?_
    refine wpList_store_row rfl 29 (.tmp 8) (.tmp 19) rfl b8 (itC k' b' n' f' re' im' t') rfl rfl 29 itZ (E8.row_far (Ne.symm h78) _) info29 rfl (one_itC k' b' n' f' re' im' t') ?_
    refine wpList_store_row rfl 29 (.tmp 9) (.tmp 21) rfl b9 (itC k'' b'' n'' f'' re'' im'' t'') rfl rfl 29 itZ ((E9.row_far (Ne.symm h79) _).row_far (Ne.symm h89) _) info29 rfl (one_itC k'' b'' n'' f'' re'' im'' t'') ?_
    have F7 : Blk (((u.setRow b7 (itC k b n f re im t)).setRow b8 (itC k' b' n' f' re' im' t')).setRow b9 (itC k'' b'' n'' f'' re'' im'' t'')) b7 29 (itC k b n f re im t) := ((E7.row _).row_far h78 _).row_far h79 _
    have F8 : Blk (((u.setRow b7 (itC k b n f re im t)).setRow b8 (itC k' b' n' f' re' im' t')).setRow b9 (itC k'' b'' n'' f'' re'' im'' t'')) b8 29 (itC k' b' n' f' re' im' t') := ((E8.row_far (Ne.symm h78) _).row _).row_far h89 _
    have F9 : Blk (((u.setRow b7 (itC k b n f re im t)).setRow b8 (itC k' b' n' f' re' im' t')).setRow b9 (itC k'' b'' n'' f'' re'' im'' t'')) b9 29 (itC k'' b'' n'' f'' re'' im'' t'') := ((E9.row_far (Ne.symm h79) _).row_far (Ne.symm h89) _).row _
    have HO2 : Hid (Only NoneOf w (((u.setRow b7 (itC k b n f re im t)).setRow b8 (itC k' b' n' f' re' im' t')).setRow b9 (itC k'' b'' n'' f'' re'' im'' t''))) := Lib.hid ((((HO.out.trans hu).row (.inr (by omega)) _).row (.inr (by omega)) _).row (.inr (by omega)) _)
    generalize ((u.setRow b7 (itC k b n f re im t)).setRow b8 (itC k' b' n' f' re' im' t')).setRow b9 (itC k'' b'' n'' f'' re'' im'' t'') = W2 at *
    clear E7 E8 E9 B1 B2 B3 hu hV hne HI HJ HK HA HO
    obtain ⟨p0, p1, p2, p3, p4, p5⟩ := blk6 F7
    obtain ⟨q0, q1, q2, q3, q4, q5⟩ := blk6 F8
    obtain ⟨r0, r1, r2, r3, r4, r5⟩ := blk6 F9
    go_wp2_with fail
    refine (HX _).out.mono ?_; rintro e W3 ⟨rfl, ho1⟩
    clear p0 p1 p2 p3 p4 p5 q0 q1 q2 q3 q4 q5 r0 r1 r2 r3 r4 r5
    have F7 := F7.only ho1 (fun h => h)
    have F8 := F8.only ho1 (fun h => h)
    have F9 := F9.only ho1 (fun h => h)
    have HO2 := Lib.hid (HO2.out.trans ho1)
    clear ho1
    obtain ⟨p0, p1, p2, p3, p4, p5⟩ := blk6 F7
    obtain ⟨q0, q1, q2, q3, q4, q5⟩ := blk6 F8
    obtain ⟨r0, r1, r2, r3, r4, r5⟩ := blk6 F9
    go_wp2_with fail
    refine (HY _).out.mono ?_; rintro e W3 ⟨rfl, ho1⟩
    clear p0 p1 p2 p3 p4 p5 q0 q1 q2 q3 q4 q5 r0 r1 r2 r3 r4 r5
    have F7 := F7.only ho1 (fun h => h)
    have F8 := F8.only ho1 (fun h => h)
    have F9 := F9.only ho1 (fun h => h)
    have HO2 := Lib.hid (HO2.out.trans ho1)
    clear ho1
    go_wp2_with fail
    go_ret
    exact ⟨rfl, HO2.out⟩

set_option maxRecDepth 100000 in
set_option maxHeartbeats 1000000 in
theorem total_z (x y z : It) (hx : x.ok = true) (hy : y.ok = true) (hz : z.ok = false) (w : World) : Calls Try.prog 12 #[.agg x.r, .agg y.r, .agg z.r] w (Ans (.bool true) w) := by
  have HA := fun u => Lib.hid (awake_is u)
  have HX := fun u => Lib.hid (check_is x u)
  have HY := fun u => Lib.hid (check_is y u)
  have HZ := fun u => Lib.hid (check_is z u)
  rw [hx] at HX
  rw [hy] at HY
  rw [hz] at HZ
  clear hx hy hz
  obtain ⟨k, b, n, f, re, im, t⟩ := x
  obtain ⟨k', b', n', f', re', im', t'⟩ := y
  obtain ⟨k'', b'', n'', f'', re'', im'', t''⟩ := z
  have HI := fun u => Lib.hid (item_is k b n f re im t u)
  have HJ := fun u => Lib.hid (item_is k' b' n' f' re' im' t' u)
  have HK := fun u => Lib.hid (item_is k'' b'' n'' f'' re'' im'' t'' u)
  obtain ⟨B1, B2, B3, O⟩ := new3' w 25 (rwC k b n f re im t) (rwC k' b' n' f' re' im' t') (rwC k'' b'' n'' f'' re'' im'' t'')
  have HO := Lib.hid O
  clear O
  go_enter Try.func12, Try.ntmps12
  go_wp2_with fail
  generalize ((w.alloc (.cells (rwC k b n f re im t) 25)).alloc (.cells (rwC k' b' n' f' re' im' t') 25)).alloc (.cells (rwC k'' b'' n'' f'' re'' im'' t'') 25) = W0 at *
  refine (HA _).out.mono ?_; rintro e W ⟨rfl, ho1⟩
  have B1 := B1.only ho1 (fun h => h)
  have B2 := B2.only ho1 (fun h => h)
  have B3 := B3.only ho1 (fun h => h)
  have HO := Lib.hid (HO.out.trans ho1)
  have hsz : w.heap.size + 2 < W.heap.size := B3.lt
  clear ho1
  go_upto_region 3 with (fail)
  refine wp_region_head 9 87 (ToT W.heap.size (rwC k b n f re im t) (itC k b n f re im t) (rwC k' b' n' f' re' im' t') (itC k' b' n' f' re' im' t') (rwC k'' b'' n'' f'' re'' im'' t'') (itC k'' b'' n'' f'' re'' im'' t'')) isAl678 rfl (by kernel_rfl) (by kernel_rfl) (ToT_keep _ _ _ _ _ _ _) (ToT_al _ _ _ _ _ _ _) ?_ ?_
  · intro i o hi ho a u hu hs ht
    have e1 : a.tmps.getD 3 undef = .pointer (some ⟨w.heap.size, 0, none⟩) := hs 3 (of_decide_eq_true (by kernel_rfl))
    have e2 : a.tmps.getD 4 undef = .pointer (some ⟨w.heap.size + 1, 0, none⟩) := hs 4 (of_decide_eq_true (by kernel_rfl))
    have e3 : a.tmps.getD 5 undef = .pointer (some ⟨w.heap.size + 2, 0, none⟩) := hs 5 (of_decide_eq_true (by kernel_rfl))
    have : i = 0 ∨ i = 1 ∨ i = 2 ∨ i = 3 ∨ i = 4 ∨ i = 5 ∨ i = 6 ∨ i = 7 ∨ i = 8 := by omega
    rcases this with rfl | rfl | rfl | rfl | rfl | rfl | rfl | rfl | rfl
    · obtain rfl := Option.some.inj (ho : some _ = some o)
      exact left_load 25 (.tmp 3) (w.heap.size) 25 _ _ rfl e1 (B1.only hu (fun h => h)) Try.underlying25 rfl info25 rfl rfl
    · obtain rfl := Option.some.inj (ho : some _ = some o)
      have s0 : a.tmps.getD 16 undef = .agg (rwC k b n f re im t) := ht 0 (by omega) (by kernel_rfl)
      exact left_call 18 _ _ (by simp [go_sem, s0]) HI rfl (fun _ => rfl)
    · obtain rfl := Option.some.inj (ho : some _ = some o)
      exact left_load 25 (.tmp 4) (w.heap.size + 1) 25 _ _ rfl e2 (B2.only hu (fun h => h)) Try.underlying25 rfl info25 rfl rfl
    · obtain rfl := Option.some.inj (ho : some _ = some o)
      have s0 : a.tmps.getD 18 undef = .agg (rwC k' b' n' f' re' im' t') := ht 2 (by omega) (by kernel_rfl)
      exact left_call 18 _ _ (by simp [go_sem, s0]) HJ rfl (fun _ => rfl)
    · obtain rfl := Option.some.inj (ho : some _ = some o)
      exact left_load 25 (.tmp 5) (w.heap.size + 2) 25 _ _ rfl e3 (B3.only hu (fun h => h)) Try.underlying25 rfl info25 rfl rfl
    · obtain rfl := Option.some.inj (ho : some _ = some o)
      have s0 : a.tmps.getD 20 undef = .agg (rwC k'' b'' n'' f'' re'' im'' t'') := ht 4 (by omega) (by kernel_rfl)
      exact left_call 18 _ _ (by simp [go_sem, s0]) HK rfl (fun _ => rfl)
    · obtain rfl := Option.some.inj (ho : some _ = some o)
      exact left_alloc itZ 29 (by simp [go_sem]) ⟨_, rfl, Blk.new _ _ _, hu.size⟩
    · obtain rfl := Option.some.inj (ho : some _ = some o)
      exact left_alloc itZ 29 (by simp [go_sem]) ⟨_, rfl, Blk.new _ _ _, hu.size⟩
    · obtain rfl := Option.some.inj (ho : some _ = some o)
      exact left_alloc itZ 29 (by simp [go_sem]) ⟨_, rfl, Blk.new _ _ _, hu.size⟩
  · intro V u hu hV hne
    have v0 : V 0 = .agg (rwC k b n f re im t) := hV 0 (by omega)
    have v1 : V 1 = .agg (itC k b n f re im t) := hV 1 (by omega)
    have v2 : V 2 = .agg (rwC k' b' n' f' re' im' t') := hV 2 (by omega)
    have v3 : V 3 = .agg (itC k' b' n' f' re' im' t') := hV 3 (by omega)
    have v4 : V 4 = .agg (rwC k'' b'' n'' f'' re'' im'' t'') := hV 4 (by omega)
    have v5 : V 5 = .agg (itC k'' b'' n'' f'' re'' im'' t'') := hV 5 (by omega)
    obtain ⟨b7, v6, E7, l7⟩ : ∃ b, V 6 = .pointer (some ⟨b, 0, none⟩) ∧ Blk u b 29 itZ ∧ W.heap.size ≤ b := hV 6 (by omega)
    obtain ⟨b8, v7, E8, l8⟩ : ∃ b, V 7 = .pointer (some ⟨b, 0, none⟩) ∧ Blk u b 29 itZ ∧ W.heap.size ≤ b := hV 7 (by omega)
    obtain ⟨b9, v8, E9, l9⟩ : ∃ b, V 8 = .pointer (some ⟨b, 0, none⟩) ∧ Blk u b 29 itZ ∧ W.heap.size ≤ b := hV 8 (by omega)
    have h78 : b7 ≠ b8 := fun h => hne 6 7 (by omega) (by omega) (by omega) rfl rfl (by rw [v6, v7, h])
    have h79 : b7 ≠ b9 := fun h => hne 6 8 (by omega) (by omega) (by omega) rfl rfl (by rw [v6, v8, h])
    have h89 : b8 ≠ b9 := fun h => hne 7 8 (by omega) (by omega) (by omega) rfl rfl (by rw [v7, v8, h])
    change wpList _ _ _ _ (Act.put (Act.put (Act.put (Act.put (Act.put (Act.put (Act.put (Act.put (Act.put _ (some 16) (V 0)) (some 17) (V 1)) (some 18) (V 2)) (some 19) (V 3)) (some 20) (V 4)) (some 21) (V 5)) (some 7) (V 6)) (some 8) (V 7)) (some 9) (V 8)) _
    rw [v0, v1, v2, v3, v4, v5, v6, v7, v8]
    simp only [Act.put, List.setIfInBounds_toArray, List.set_cons_zero, List.set_cons_succ]
    simp only [List.drop_succ_cons, List.drop_zero]
    refine wpList_store_row rfl 29 (.tmp 7) (.tmp 17) rfl b7 (itC k b n f re im t) rfl rfl 29 itZ E7 info29 rfl (one_itC k b n f re im t) ?_
    refine wpList_store_row rfl 29 (.tmp 8) (.tmp 19) rfl b8 (itC k' b' n' f' re' im' t') rfl rfl 29 itZ (E8.row_far (Ne.symm h78) _) info29 rfl (one_itC k' b' n' f' re' im' t') ?_
    refine wpList_store_row rfl 29 (.tmp 9) (.tmp 21) rfl b9 (itC k'' b'' n'' f'' re'' im'' t'') rfl rfl 29 itZ ((E9.row_far (Ne.symm h79) _).row_far (Ne.symm h89) _) info29 rfl (one_itC k'' b'' n'' f'' re'' im'' t'') ?_
    have F7 : Blk (((u.setRow b7 (itC k b n f re im t)).setRow b8 (itC k' b' n' f' re' im' t')).setRow b9 (itC k'' b'' n'' f'' re'' im'' t'')) b7 29 (itC k b n f re im t) := ((E7.row _).row_far h78 _).row_far h79 _
    have F8 : Blk (((u.setRow b7 (itC k b n f re im t)).setRow b8 (itC k' b' n' f' re' im' t')).setRow b9 (itC k'' b'' n'' f'' re'' im'' t'')) b8 29 (itC k' b' n' f' re' im' t') := ((E8.row_far (Ne.symm h78) _).row _).row_far h89 _
    have F9 : Blk (((u.setRow b7 (itC k b n f re im t)).setRow b8 (itC k' b' n' f' re' im' t')).setRow b9 (itC k'' b'' n'' f'' re'' im'' t'')) b9 29 (itC k'' b'' n'' f'' re'' im'' t'') := ((E9.row_far (Ne.symm h79) _).row_far (Ne.symm h89) _).row _
    have HO2 : Hid (Only NoneOf w (((u.setRow b7 (itC k b n f re im t)).setRow b8 (itC k' b' n' f' re' im' t')).setRow b9 (itC k'' b'' n'' f'' re'' im'' t''))) := Lib.hid ((((HO.out.trans hu).row (.inr (by omega)) _).row (.inr (by omega)) _).row (.inr (by omega)) _)
    generalize ((u.setRow b7 (itC k b n f re im t)).setRow b8 (itC k' b' n' f' re' im' t')).setRow b9 (itC k'' b'' n'' f'' re'' im'' t'') = W2 at *
    clear E7 E8 E9 B1 B2 B3 hu hV hne HI HJ HK HA HO
    obtain ⟨p0, p1, p2, p3, p4, p5⟩ := blk6 F7
    obtain ⟨q0, q1, q2, q3, q4, q5⟩ := blk6 F8
    obtain ⟨r0, r1, r2, r3, r4, r5⟩ := blk6 F9
    go_wp2_with fail
    refine (HX _).out.mono ?_; rintro e W3 ⟨rfl, ho1⟩
    clear p0 p1 p2 p3 p4 p5 q0 q1 q2 q3 q4 q5 r0 r1 r2 r3 r4 r5
    have F7 := F7.only ho1 (fun h => h)
    have F8 := F8.only ho1 (fun h => h)
    have F9 := F9.only ho1 (fun h => h)
    have HO2 := Lib.hid (HO2.out.trans ho1)
    clear ho1
    obtain ⟨p0, p1, p2, p3, p4, p5⟩ := blk6 F7
    obtain ⟨q0, q1, q2, q3, q4, q5⟩ := blk6 F8
    obtain ⟨r0, r1, r2, r3, r4, r5⟩ := blk6 F9
    go_wp2_with fail
    refine (HY _).out.mono ?_; rintro e W3 ⟨rfl, ho1⟩
    clear p0 p1 p2 p3 p4 p5 q0 q1 q2 q3 q4 q5 r0 r1 r2 r3 r4 r5
    have F7 := F7.only ho1 (fun h => h)
    have F8 := F8.only ho1 (fun h => h)
    have F9 := F9.only ho1 (fun h => h)
    have HO2 := Lib.hid (HO2.out.trans ho1)
    clear ho1
    obtain ⟨p0, p1, p2, p3, p4, p5⟩ := blk6 F7
    obtain ⟨q0, q1, q2, q3, q4, q5⟩ := blk6 F8
    obtain ⟨r0, r1, r2, r3, r4, r5⟩ := blk6 F9
    go_wp2_with fail
    refine (HZ _).out.mono ?_; rintro e W3 ⟨rfl, ho1⟩
    clear p0 p1 p2 p3 p4 p5 q0 q1 q2 q3 q4 q5 r0 r1 r2 r3 r4 r5
    have F7 := F7.only ho1 (fun h => h)
    have F8 := F8.only ho1 (fun h => h)
    have F9 := F9.only ho1 (fun h => h)
    have HO2 := Lib.hid (HO2.out.trans ho1)
    clear ho1
    go_wp2_with fail
    go_ret
    exact ⟨rfl, HO2.out⟩

set_option maxRecDepth 100000 in
set_option maxHeartbeats 1000000 in
theorem total_ok (x y z : It) (hx : x.ok = true) (hy : y.ok = true) (hz : z.ok = true) (w : World) : Calls Try.prog 12 #[.agg x.r, .agg y.r, .agg z.r] w (Ans (.bool true) w) := by
  have HA := fun u => Lib.hid (awake_is u)
  have HX := fun u => Lib.hid (check_is x u)
  have HY := fun u => Lib.hid (check_is y u)
  have HZ := fun u => Lib.hid (check_is z u)
  have HAB := fun u => Lib.hid (compare_is x y u)
  have HBA := fun u => Lib.hid (compare_is y x u)
  have HBC := fun u => Lib.hid (compare_is y z u)
  have HAC := fun u => Lib.hid (compare_is x z u)
  have HAA := fun u => Lib.hid (compare_is x x u)
  have t1 := tot_item.sgn x y
  have t2 := tot_item.anti x y
  have t3 := tot_item.anti x x
  have t4 := tot_item.trans x y z
  have t5 := tot_item.sgn y z
  have t6 := tot_item.sgn x z
  rw [← cmp_ok hx hy, ← cmp_ok hy hx] at t2
  rw [← cmp_ok hx hx] at t3
  rw [← cmp_ok hx hy, ← cmp_ok hy hz, ← cmp_ok hx hz] at t4
  rw [← cmp_ok hx hy] at t1
  rw [← cmp_ok hy hz] at t5
  rw [← cmp_ok hx hz] at t6
  rw [hx] at HX
  rw [hy] at HY
  rw [hz] at HZ
  clear hx hy hz
  rw [t2] at HBA
  rw [show x.cmp x = 0 by omega] at HAA
  generalize x.cmp y = ab at *
  generalize y.cmp z = bc at *
  generalize x.cmp z = ac at *
  have HT : Hid ((ab = 1 ∨ (ab = 0 ∨ ab = -1) ∧ bc = 1) ∨ (ab = 0 ∧ bc = 0 ∧ ac = 0) ∨ (ab = 0 ∧ bc = -1 ∧ ac = -1) ∨ (ab = -1 ∧ bc = 0 ∧ ac = -1) ∨ (ab = -1 ∧ bc = -1 ∧ ac = -1)) := Lib.hid (by omega)
  clear t1 t2 t3 t4 t5 t6
  obtain ⟨k, b, n, f, re, im, t⟩ := x
  obtain ⟨k', b', n', f', re', im', t'⟩ := y
  obtain ⟨k'', b'', n'', f'', re'', im'', t''⟩ := z
  have HI := fun u => Lib.hid (item_is k b n f re im t u)
  have HJ := fun u => Lib.hid (item_is k' b' n' f' re' im' t' u)
  have HK := fun u => Lib.hid (item_is k'' b'' n'' f'' re'' im'' t'' u)
  obtain ⟨B1, B2, B3, O⟩ := new3' w 25 (rwC k b n f re im t) (rwC k' b' n' f' re' im' t') (rwC k'' b'' n'' f'' re'' im'' t'')
  have HO := Lib.hid O
  clear O
  go_enter Try.func12, Try.ntmps12
  go_wp2_with fail
  generalize ((w.alloc (.cells (rwC k b n f re im t) 25)).alloc (.cells (rwC k' b' n' f' re' im' t') 25)).alloc (.cells (rwC k'' b'' n'' f'' re'' im'' t'') 25) = W0 at *
  refine (HA _).out.mono ?_; rintro e W ⟨rfl, ho1⟩
  have B1 := B1.only ho1 (fun h => h)
  have B2 := B2.only ho1 (fun h => h)
  have B3 := B3.only ho1 (fun h => h)
  have HO := Lib.hid (HO.out.trans ho1)
  have hsz : w.heap.size + 2 < W.heap.size := B3.lt
  clear ho1
  go_upto_region 3 with (fail)
  refine wp_region_head 9 87 (ToT W.heap.size (rwC k b n f re im t) (itC k b n f re im t) (rwC k' b' n' f' re' im' t') (itC k' b' n' f' re' im' t') (rwC k'' b'' n'' f'' re'' im'' t'') (itC k'' b'' n'' f'' re'' im'' t'')) isAl678 rfl (by kernel_rfl) (by kernel_rfl) (ToT_keep _ _ _ _ _ _ _) (ToT_al _ _ _ _ _ _ _) ?_ ?_
  · intro i o hi ho a u hu hs ht
    have e1 : a.tmps.getD 3 undef = .pointer (some ⟨w.heap.size, 0, none⟩) := hs 3 (of_decide_eq_true (by kernel_rfl))
    have e2 : a.tmps.getD 4 undef = .pointer (some ⟨w.heap.size + 1, 0, none⟩) := hs 4 (of_decide_eq_true (by kernel_rfl))
    have e3 : a.tmps.getD 5 undef = .pointer (some ⟨w.heap.size + 2, 0, none⟩) := hs 5 (of_decide_eq_true (by kernel_rfl))
    have : i = 0 ∨ i = 1 ∨ i = 2 ∨ i = 3 ∨ i = 4 ∨ i = 5 ∨ i = 6 ∨ i = 7 ∨ i = 8 := by omega
    rcases this with rfl | rfl | rfl | rfl | rfl | rfl | rfl | rfl | rfl
    · obtain rfl := Option.some.inj (ho : some _ = some o)
      exact left_load 25 (.tmp 3) (w.heap.size) 25 _ _ rfl e1 (B1.only hu (fun h => h)) Try.underlying25 rfl info25 rfl rfl
    · obtain rfl := Option.some.inj (ho : some _ = some o)
      have s0 : a.tmps.getD 16 undef = .agg (rwC k b n f re im t) := ht 0 (by omega) (by kernel_rfl)
      exact left_call 18 _ _ (by simp [go_sem, s0]) HI rfl (fun _ => rfl)
    · obtain rfl := Option.some.inj (ho : some _ = some o)
      exact left_load 25 (.tmp 4) (w.heap.size + 1) 25 _ _ rfl e2 (B2.only hu (fun h => h)) Try.underlying25 rfl info25 rfl rfl
    · obtain rfl := Option.some.inj (ho : some _ = some o)
      have s0 : a.tmps.getD 18 undef = .agg (rwC k' b' n' f' re' im' t') := ht 2 (by omega) (by kernel_rfl)
      exact left_call 18 _ _ (by simp [go_sem, s0]) HJ rfl (fun _ => rfl)
    · obtain rfl := Option.some.inj (ho : some _ = some o)
      exact left_load 25 (.tmp 5) (w.heap.size + 2) 25 _ _ rfl e3 (B3.only hu (fun h => h)) Try.underlying25 rfl info25 rfl rfl
    · obtain rfl := Option.some.inj (ho : some _ = some o)
      have s0 : a.tmps.getD 20 undef = .agg (rwC k'' b'' n'' f'' re'' im'' t'') := ht 4 (by omega) (by kernel_rfl)
      exact left_call 18 _ _ (by simp [go_sem, s0]) HK rfl (fun _ => rfl)
    · obtain rfl := Option.some.inj (ho : some _ = some o)
      exact left_alloc itZ 29 (by simp [go_sem]) ⟨_, rfl, Blk.new _ _ _, hu.size⟩
    · obtain rfl := Option.some.inj (ho : some _ = some o)
      exact left_alloc itZ 29 (by simp [go_sem]) ⟨_, rfl, Blk.new _ _ _, hu.size⟩
    · obtain rfl := Option.some.inj (ho : some _ = some o)
      exact left_alloc itZ 29 (by simp [go_sem]) ⟨_, rfl, Blk.new _ _ _, hu.size⟩
  · intro V u hu hV hne
    have v0 : V 0 = .agg (rwC k b n f re im t) := hV 0 (by omega)
    have v1 : V 1 = .agg (itC k b n f re im t) := hV 1 (by omega)
    have v2 : V 2 = .agg (rwC k' b' n' f' re' im' t') := hV 2 (by omega)
    have v3 : V 3 = .agg (itC k' b' n' f' re' im' t') := hV 3 (by omega)
    have v4 : V 4 = .agg (rwC k'' b'' n'' f'' re'' im'' t'') := hV 4 (by omega)
    have v5 : V 5 = .agg (itC k'' b'' n'' f'' re'' im'' t'') := hV 5 (by omega)
    obtain ⟨b7, v6, E7, l7⟩ : ∃ b, V 6 = .pointer (some ⟨b, 0, none⟩) ∧ Blk u b 29 itZ ∧ W.heap.size ≤ b := hV 6 (by omega)
    obtain ⟨b8, v7, E8, l8⟩ : ∃ b, V 7 = .pointer (some ⟨b, 0, none⟩) ∧ Blk u b 29 itZ ∧ W.heap.size ≤ b := hV 7 (by omega)
    obtain ⟨b9, v8, E9, l9⟩ : ∃ b, V 8 = .pointer (some ⟨b, 0, none⟩) ∧ Blk u b 29 itZ ∧ W.heap.size ≤ b := hV 8 (by omega)
    have h78 : b7 ≠ b8 := fun h => hne 6 7 (by omega) (by omega) (by omega) rfl rfl (by rw [v6, v7, h])
    have h79 : b7 ≠ b9 := fun h => hne 6 8 (by omega) (by omega) (by omega) rfl rfl (by rw [v6, v8, h])
    have h89 : b8 ≠ b9 := fun h => hne 7 8 (by omega) (by omega) (by omega) rfl rfl (by rw [v7, v8, h])
    change wpList _ _ _ _ (Act.put (Act.put (Act.put (Act.put (Act.put (Act.put (Act.put (Act.put (Act.put _ (some 16) (V 0)) (some 17) (V 1)) (some 18) (V 2)) (some 19) (V 3)) (some 20) (V 4)) (some 21) (V 5)) (some 7) (V 6)) (some 8) (V 7)) (some 9) (V 8)) _
    rw [v0, v1, v2, v3, v4, v5, v6, v7, v8]
    simp only [Act.put, List.setIfInBounds_toArray, List.set_cons_zero, List.set_cons_succ]
    simp only [List.drop_succ_cons, List.drop_zero]
    refine wpList_store_row rfl 29 (.tmp 7) (.tmp 17) rfl b7 (itC k b n f re im t) rfl rfl 29 itZ E7 info29 rfl (one_itC k b n f re im t) ?_
    refine wpList_store_row rfl 29 (.tmp 8) (.tmp 19) rfl b8 (itC k' b' n' f' re' im' t') rfl rfl 29 itZ (E8.row_far (Ne.symm h78) _) info29 rfl (one_itC k' b' n' f' re' im' t') ?_
    refine wpList_store_row rfl 29 (.tmp 9) (.tmp 21) rfl b9 (itC k'' b'' n'' f'' re'' im'' t'') rfl rfl 29 itZ ((E9.row_far (Ne.symm h79) _).row_far (Ne.symm h89) _) info29 rfl (one_itC k'' b'' n'' f'' re'' im'' t'') ?_
    have F7 : Blk (((u.setRow b7 (itC k b n f re im t)).setRow b8 (itC k' b' n' f' re' im' t')).setRow b9 (itC k'' b'' n'' f'' re'' im'' t'')) b7 29 (itC k b n f re im t) := ((E7.row _).row_far h78 _).row_far h79 _
    have F8 : Blk (((u.setRow b7 (itC k b n f re im t)).setRow b8 (itC k' b' n' f' re' im' t')).setRow b9 (itC k'' b'' n'' f'' re'' im'' t'')) b8 29 (itC k' b' n' f' re' im' t') := ((E8.row_far (Ne.symm h78) _).row _).row_far h89 _
    have F9 : Blk (((u.setRow b7 (itC k b n f re im t)).setRow b8 (itC k' b' n' f' re' im' t')).setRow b9 (itC k'' b'' n'' f'' re'' im'' t'')) b9 29 (itC k'' b'' n'' f'' re'' im'' t'') := ((E9.row_far (Ne.symm h79) _).row_far (Ne.symm h89) _).row _
    have HO2 : Hid (Only NoneOf w (((u.setRow b7 (itC k b n f re im t)).setRow b8 (itC k' b' n' f' re' im' t')).setRow b9 (itC k'' b'' n'' f'' re'' im'' t''))) := Lib.hid ((((HO.out.trans hu).row (.inr (by omega)) _).row (.inr (by omega)) _).row (.inr (by omega)) _)
    generalize ((u.setRow b7 (itC k b n f re im t)).setRow b8 (itC k' b' n' f' re' im' t')).setRow b9 (itC k'' b'' n'' f'' re'' im'' t'') = W2 at *
    clear E7 E8 E9 B1 B2 B3 hu hV hne HI HJ HK HA HO
    obtain ⟨p0, p1, p2, p3, p4, p5⟩ := blk6 F7
    obtain ⟨q0, q1, q2, q3, q4, q5⟩ := blk6 F8
    obtain ⟨r0, r1, r2, r3, r4, r5⟩ := blk6 F9
    go_wp2_with fail
    refine (HX _).out.mono ?_; rintro e W3 ⟨rfl, ho1⟩
    clear p0 p1 p2 p3 p4 p5 q0 q1 q2 q3 q4 q5 r0 r1 r2 r3 r4 r5
    have F7 := F7.only ho1 (fun h => h)
    have F8 := F8.only ho1 (fun h => h)
    have F9 := F9.only ho1 (fun h => h)
    have HO2 := Lib.hid (HO2.out.trans ho1)
    clear ho1
    obtain ⟨p0, p1, p2, p3, p4, p5⟩ := blk6 F7
    obtain ⟨q0, q1, q2, q3, q4, q5⟩ := blk6 F8
    obtain ⟨r0, r1, r2, r3, r4, r5⟩ := blk6 F9
    go_wp2_with fail
    refine (HY _).out.mono ?_; rintro e W3 ⟨rfl, ho1⟩
    clear p0 p1 p2 p3 p4 p5 q0 q1 q2 q3 q4 q5 r0 r1 r2 r3 r4 r5
    have F7 := F7.only ho1 (fun h => h)
    have F8 := F8.only ho1 (fun h => h)
    have F9 := F9.only ho1 (fun h => h)
    have HO2 := Lib.hid (HO2.out.trans ho1)
    clear ho1
    obtain ⟨p0, p1, p2, p3, p4, p5⟩ := blk6 F7
    obtain ⟨q0, q1, q2, q3, q4, q5⟩ := blk6 F8
    obtain ⟨r0, r1, r2, r3, r4, r5⟩ := blk6 F9
    go_wp2_with fail
    refine (HZ _).out.mono ?_; rintro e W3 ⟨rfl, ho1⟩
    clear p0 p1 p2 p3 p4 p5 q0 q1 q2 q3 q4 q5 r0 r1 r2 r3 r4 r5
    have F7 := F7.only ho1 (fun h => h)
    have F8 := F8.only ho1 (fun h => h)
    have F9 := F9.only ho1 (fun h => h)
    have HO2 := Lib.hid (HO2.out.trans ho1)
    clear ho1
    go_upto_region 6 with (fail)
    refine wp_region_aft (by kernel_rfl) (by kernel_rfl) ?_
    refine q_load 29 (.tmp 7) b7 29 _ _ rfl rfl rfl F7 Try.underlying29 rfl info29 ?_
    simp only [Act.put, List.setIfInBounds_toArray, List.set_cons_zero, List.set_cons_succ]
    refine q_load 29 (.tmp 8) b8 29 _ _ rfl rfl rfl F8 Try.underlying29 rfl info29 ?_
    simp only [Act.put, List.setIfInBounds_toArray, List.set_cons_zero, List.set_cons_succ]
    refine q_call 25 _ _ rfl (by intro _; simp [go_sem]) HAB ?_
    simp only [Act.put, List.setIfInBounds_toArray, List.set_cons_zero, List.set_cons_succ]
    refine q_load 29 (.tmp 8) b8 29 _ _ rfl rfl rfl F8 Try.underlying29 rfl info29 ?_
    simp only [Act.put, List.setIfInBounds_toArray, List.set_cons_zero, List.set_cons_succ]
    refine q_load 29 (.tmp 7) b7 29 _ _ rfl rfl rfl F7 Try.underlying29 rfl info29 ?_
    simp only [Act.put, List.setIfInBounds_toArray, List.set_cons_zero, List.set_cons_succ]
    refine q_call 25 _ _ rfl (by intro _; simp [go_sem]) HBA ?_
    simp only [Act.put, List.setIfInBounds_toArray, List.set_cons_zero, List.set_cons_succ]
    refine q_load 29 (.tmp 8) b8 29 _ _ rfl rfl rfl F8 Try.underlying29 rfl info29 ?_
    simp only [Act.put, List.setIfInBounds_toArray, List.set_cons_zero, List.set_cons_succ]
    refine q_load 29 (.tmp 9) b9 29 _ _ rfl rfl rfl F9 Try.underlying29 rfl info29 ?_
    simp only [Act.put, List.setIfInBounds_toArray, List.set_cons_zero, List.set_cons_succ]
    refine q_call 25 _ _ rfl (by intro _; simp [go_sem]) HBC ?_
    simp only [Act.put, List.setIfInBounds_toArray, List.set_cons_zero, List.set_cons_succ]
    refine q_load 29 (.tmp 7) b7 29 _ _ rfl rfl rfl F7 Try.underlying29 rfl info29 ?_
    simp only [Act.put, List.setIfInBounds_toArray, List.set_cons_zero, List.set_cons_succ]
    refine q_load 29 (.tmp 9) b9 29 _ _ rfl rfl rfl F9 Try.underlying29 rfl info29 ?_
    simp only [Act.put, List.setIfInBounds_toArray, List.set_cons_zero, List.set_cons_succ]
    refine q_call 25 _ _ rfl (by intro _; simp [go_sem]) HAC ?_
    simp only [Act.put, List.setIfInBounds_toArray, List.set_cons_zero, List.set_cons_succ]
    refine q_pure (.int .i64 (ab)) rfl (by intro _; simp [go_sem]) ?_
    simp only [Act.put, List.setIfInBounds_toArray, List.set_cons_zero, List.set_cons_succ]
    refine q_pure (.int .i64 (-ab)) rfl (by intro _; simp [go_sem]) ?_
    simp only [Act.put, List.setIfInBounds_toArray, List.set_cons_zero, List.set_cons_succ]
    refine q_pure (.int .i64 (bc)) rfl (by intro _; simp [go_sem]) ?_
    simp only [Act.put, List.setIfInBounds_toArray, List.set_cons_zero, List.set_cons_succ]
    refine q_pure (.int .i64 (ac)) rfl (by intro _; simp [go_sem]) ?_
    simp only [Act.put, List.setIfInBounds_toArray, List.set_cons_zero, List.set_cons_succ]
    refine wpQuiet_nil fun w' ho1 => ?_
    have F7 := F7.only ho1 (fun h => h)
    have F8 := F8.only ho1 (fun h => h)
    have F9 := F9.only ho1 (fun h => h)
    have HO2 := Lib.hid (HO2.out.trans ho1)
    clear ho1
    have HT' := HT.out
    clear HT HX HY HZ HAB HBA HBC HAC
    rcases HT' with (rfl | ⟨rfl | rfl, rfl⟩) | ⟨rfl, rfl, rfl⟩ | ⟨rfl, rfl, rfl⟩ | ⟨rfl, rfl, rfl⟩ | ⟨rfl, rfl, rfl⟩
    all_goals
      obtain ⟨p0, p1, p2, p3, p4, p5⟩ := blk6 F7
      obtain ⟨q0, q1, q2, q3, q4, q5⟩ := blk6 F8
      obtain ⟨r0, r1, r2, r3, r4, r5⟩ := blk6 F9
      go_wp2_with fail
      refine (HAA _).out.mono ?_; rintro e W3 ⟨rfl, ho1⟩
      have HO2 := Lib.hid (HO2.out.trans ho1)
      clear ho1 F7 F8 F9
      clear p0 p1 p2 p3 p4 p5 q0 q1 q2 q3 q4 q5 r0 r1 r2 r3 r4 r5
      go_wp2_with fail
      go_ret
      exact ⟨rfl, HO2.out⟩

theorem total_walk (x y z : It) (w : World) : Calls Try.prog 12 #[.agg x.r, .agg y.r, .agg z.r] w (Ans (.bool true) w) := by
  cases hx : x.ok
  · exact total_x x y z hx w
  · cases hy : y.ok
    · exact total_y x y z hx hy w
    · cases hz : z.ok
      · exact total_z x y z hx hy hz w
      · exact total_ok x y z hx hy hz w

end Go.Proofs.Ytimoenpfnaaehaa
