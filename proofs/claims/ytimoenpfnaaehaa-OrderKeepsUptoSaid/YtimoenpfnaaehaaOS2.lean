/-
  Layer 4's law OrderItems, walked.
-/
import Derived.Test.YtimoenpfnaaehaaOS1
import Derived.Test.YtimoenpfnaaehaaOH
namespace Go.Proofs.Ytimoenpfnaaehaa
open Go.RowKit

/-- What the region of OrderItems that cleans both leaves in its slots. -/
def ItT (n : Nat) (xr xc yc yr : Array Value) : Nat → Value → World → Prop
  | 0, v, _ => v = .agg xr
  | 1, v, _ => v = .agg xc
  | 2, v, _ => v = .agg yc
  | 3, v, _ => v = .agg xr
  | 4, v, _ => v = .agg xr
  | 5, v, _ => v = .agg yr
  | 6, v, w => ∃ b, v = .pointer (some ⟨b, 0, none⟩) ∧ Blk w b 29 itZ ∧ n ≤ b
  | 7, v, w => ∃ b, v = .pointer (some ⟨b, 0, none⟩) ∧ Blk w b 32 (rwC 0 false 0 0 0 0 ⟨#[]⟩) ∧ n ≤ b
  | _, _, _ => False
def isAl67 (i : Nat) : Bool := i == 6 || i == 7

theorem ItT_keep (n : Nat) (xr xc yc yr : Array Value) (i : Nat) (v : Value) (w w' : World) (h : ItT n xr xc yc yr i v w) (ho : Only NoneOf w w') : ItT n xr xc yc yr i v w' :=
  match i, h with
  | 0, h | 1, h | 2, h | 3, h | 4, h | 5, h => h
  | 6, ⟨b, h1, h2, h3⟩ => ⟨b, h1, h2.only ho (fun h => h), h3⟩
  | 7, ⟨b, h1, h2, h3⟩ => ⟨b, h1, h2.only ho (fun h => h), h3⟩
theorem ItT_al (n : Nat) (xr xc yc yr : Array Value) (i : Nat) (v : Value) (w : World) (ha : isAl67 i = true) (h : ItT n xr xc yc yr i v w) : ∃ b, v = .pointer (some ⟨b, 0, none⟩) ∧ b < w.heap.size := by
  have : i = 6 ∨ i = 7 := by simpa [isAl67] using ha
  rcases this with rfl | rfl
  · obtain ⟨b, h1, h2, h3⟩ := h
    exact ⟨b, h1, h2.lt⟩
  · obtain ⟨b, h1, h2, h3⟩ := h
    exact ⟨b, h1, h2.lt⟩

set_option maxRecDepth 100000 in
set_option maxHeartbeats 1000000 in
theorem items_ok (x : It) (hf : x.f < 18446744073709551616) (hre : x.re < 18446744073709551616) (him : x.im < 18446744073709551616) (hok : x.ok = true) (w : World) : Calls Try.prog 4 #[.agg x.r] w (Ans (.bool true) w) := by
  have HK := fun u => Lib.hid (check_is x u)
  have HR := fun u => Lib.hid (rcheck_is x hf hre him u)
  have HC := fun u => Lib.hid (clean_item x u)
  have HE := fun u => Lib.hid (rclean_is x hf hre him u)
  have HA := fun u => Lib.hid (awake_is u)
  have HI := fun u => Lib.hid (item_is x.k x.b x.n x.f x.re x.im x.t u)
  have HD := fun u => Lib.hid (doc_is x.k x.b x.n x.f x.re x.im x.t u)
  generalize x.clean = y at *
  rw [hok] at HK HR
  have HL := fun u => Lib.hid (alike_is y.k y.b y.n y.f y.re y.im y.t u)
  clear hok hf hre him
  obtain ⟨k, b, n, f, re, im, t⟩ := x
  obtain ⟨k', b', n', f', re', im', t'⟩ := y
  have B1 := Blk.new w 25 (rwC k b n f re im t)
  have HO := Lib.hid ((Only.refl NoneOf w).alloc (.cells (rwC k b n f re im t) 25))
  go_enter Try.func4, Try.ntmps4
  go_upto_region 1 with (fail)
  have hsz : w.heap.size < (w.alloc (.cells (rwC k b n f re im t) 25)).heap.size := B1.lt
  generalize w.alloc (.cells (rwC k b n f re im t) 25) = W at *
  refine wp_region_head 8 78 (ItT W.heap.size (rwC k b n f re im t) (itC k b n f re im t) (itC k' b' n' f' re' im' t') (rwC k' b' n' f' re' im' t')) isAl67 rfl (by kernel_rfl) (by kernel_rfl) (ItT_keep _ _ _ _ _) (ItT_al _ _ _ _ _) ?_ ?_
  · intro i o hi ho a u hu hs ht
    have e1 : a.tmps.getD 1 undef = .pointer (some ⟨w.heap.size, 0, none⟩) := hs 1 (of_decide_eq_true (by kernel_rfl))
    have : i = 0 ∨ i = 1 ∨ i = 2 ∨ i = 3 ∨ i = 4 ∨ i = 5 ∨ i = 6 ∨ i = 7 := by omega
    rcases this with rfl | rfl | rfl | rfl | rfl | rfl | rfl | rfl
    · obtain rfl := Option.some.inj (ho : some _ = some o)
      exact left_load 25 (.tmp 1) w.heap.size 25 _ _ rfl e1 (B1.only hu (fun h => h)) Try.underlying25 rfl info25 rfl rfl
    · obtain rfl := Option.some.inj (ho : some _ = some o)
      have s0 : a.tmps.getD 5 undef = .agg (rwC k b n f re im t) := ht 0 (by omega) (by kernel_rfl)
      exact left_call 18 _ _ (by simp [go_sem, s0]) HI rfl (fun _ => rfl)
    · obtain rfl := Option.some.inj (ho : some _ = some o)
      have s0 : a.tmps.getD 6 undef = .agg (itC k b n f re im t) := ht 1 (by omega) (by kernel_rfl)
      exact left_call 17 _ _ (by simp [go_sem, s0]) HC rfl (fun _ => rfl)
    · obtain rfl := Option.some.inj (ho : some _ = some o)
      exact left_load 25 (.tmp 1) w.heap.size 25 _ _ rfl e1 (B1.only hu (fun h => h)) Try.underlying25 rfl info25 rfl rfl
    · obtain rfl := Option.some.inj (ho : some _ = some o)
      have s0 : a.tmps.getD 8 undef = .agg (rwC k b n f re im t) := ht 3 (by omega) (by kernel_rfl)
      exact left_call 20 _ _ (by simp [go_sem, s0]) HD rfl (fun _ => rfl)
    · obtain rfl := Option.some.inj (ho : some _ = some o)
      have s0 : a.tmps.getD 9 undef = .agg (rwC k b n f re im t) := ht 4 (by omega) (by kernel_rfl)
      exact left_call 19 _ _ (by simp [go_sem, s0]) HE rfl (fun _ => rfl)
    · obtain rfl := Option.some.inj (ho : some _ = some o)
      exact left_alloc itZ 29 (by simp [go_sem]) ⟨_, rfl, Blk.new _ _ _, hu.size⟩
    · obtain rfl := Option.some.inj (ho : some _ = some o)
      exact left_alloc (rwC 0 false 0 0 0 0 ⟨#[]⟩) 32 (by simp [go_sem]; rfl) ⟨_, rfl, Blk.new _ _ _, hu.size⟩
  · intro V u hu hV hne
    have v0 : V 0 = .agg (rwC k b n f re im t) := hV 0 (by omega)
    have v1 : V 1 = .agg (itC k b n f re im t) := hV 1 (by omega)
    have v2 : V 2 = .agg (itC k' b' n' f' re' im' t') := hV 2 (by omega)
    have v3 : V 3 = .agg (rwC k b n f re im t) := hV 3 (by omega)
    have v4 : V 4 = .agg (rwC k b n f re im t) := hV 4 (by omega)
    have v5 : V 5 = .agg (rwC k' b' n' f' re' im' t') := hV 5 (by omega)
    obtain ⟨b3, v6, E3, l3⟩ : ∃ b, V 6 = .pointer (some ⟨b, 0, none⟩) ∧ Blk u b 29 itZ ∧ W.heap.size ≤ b := hV 6 (by omega)
    obtain ⟨b4, v7, E4, l4⟩ : ∃ b, V 7 = .pointer (some ⟨b, 0, none⟩) ∧ Blk u b 32 (rwC 0 false 0 0 0 0 ⟨#[]⟩) ∧ W.heap.size ≤ b := hV 7 (by omega)
    have h34 : b3 ≠ b4 := fun h => hne 6 7 (by omega) (by omega) (by omega) rfl rfl (by rw [v6, v7, h])
    change wpList _ _ _ _ (Act.put (Act.put (Act.put (Act.put (Act.put (Act.put (Act.put (Act.put _ (some 5) (V 0)) (some 6) (V 1)) (some 7) (V 2)) (some 8) (V 3)) (some 9) (V 4)) (some 10) (V 5)) (some 3) (V 6)) (some 4) (V 7)) _
    rw [v0, v1, v2, v3, v4, v5, v6, v7]
    simp only [Act.put, List.setIfInBounds_toArray, List.set_cons_zero, List.set_cons_succ]
    simp only [List.drop_succ_cons, List.drop_zero]
    have lt3 := E3.lt
    have lt4 := E4.lt
    refine wpList_store_row rfl 29 (.tmp 3) (.tmp 7) rfl b3 (itC k' b' n' f' re' im' t') rfl rfl 29 itZ E3 info29 rfl (one_itC k' b' n' f' re' im' t') ?_
    refine wpList_store_row rfl 32 (.tmp 4) (.tmp 10) rfl b4 (rwC k' b' n' f' re' im' t') rfl rfl 32 (rwC 0 false 0 0 0 0 ⟨#[]⟩) (E4.row_far (Ne.symm h34) _) info32 rfl (one_rwC k' b' n' f' re' im' t') ?_
    have F1 : Blk ((u.setRow b3 (itC k' b' n' f' re' im' t')).setRow b4 (rwC k' b' n' f' re' im' t')) w.heap.size 25 (rwC k b n f re im t) := ((B1.only hu (fun h => h)).row_far (by omega) _).row_far (by omega) _
    have F3 : Blk ((u.setRow b3 (itC k' b' n' f' re' im' t')).setRow b4 (rwC k' b' n' f' re' im' t')) b3 29 (itC k' b' n' f' re' im' t') := (E3.row _).row_far h34 _
    have F4 : Blk ((u.setRow b3 (itC k' b' n' f' re' im' t')).setRow b4 (rwC k' b' n' f' re' im' t')) b4 32 (rwC k' b' n' f' re' im' t') := (E4.row_far (Ne.symm h34) _).row _
    have HO2 : Hid (Only NoneOf w ((u.setRow b3 (itC k' b' n' f' re' im' t')).setRow b4 (rwC k' b' n' f' re' im' t'))) := Lib.hid (((HO.out.trans hu).row (.inr (by omega)) _).row (.inr (by omega)) _)
    generalize (u.setRow b3 (itC k' b' n' f' re' im' t')).setRow b4 (rwC k' b' n' f' re' im' t') = W2 at *
    go_wp2_with fail
    refine wp_region_aft (by kernel_rfl) (by kernel_rfl) ?_
    refine q_load 25 (.tmp 1) w.heap.size 25 _ _ rfl rfl rfl F1 Try.underlying25 rfl info25 ?_
    simp only [Act.put, List.setIfInBounds_toArray, List.set_cons_zero, List.set_cons_succ]
    refine q_call 18 _ _ rfl (by intro _; simp [go_sem]) HI ?_
    simp only [Act.put, List.setIfInBounds_toArray, List.set_cons_zero, List.set_cons_succ]
    refine q_call 21 _ _ rfl (by intro _; simp [go_sem]) HK ?_
    simp only [Act.put, List.setIfInBounds_toArray, List.set_cons_zero, List.set_cons_succ]
    refine q_load 25 (.tmp 1) w.heap.size 25 _ _ rfl rfl rfl F1 Try.underlying25 rfl info25 ?_
    simp only [Act.put, List.setIfInBounds_toArray, List.set_cons_zero, List.set_cons_succ]
    refine q_call 20 _ _ rfl (by intro _; simp [go_sem]) HD ?_
    simp only [Act.put, List.setIfInBounds_toArray, List.set_cons_zero, List.set_cons_succ]
    refine q_call 22 _ _ rfl (by intro _; simp [go_sem]) HR ?_
    simp only [Act.put, List.setIfInBounds_toArray, List.set_cons_zero, List.set_cons_succ]
    refine q_pure (.bool false) rfl (by intro _; simp [go_sem]) ?_
    simp only [Act.put, List.setIfInBounds_toArray, List.set_cons_zero, List.set_cons_succ]
    refine q_move _ rfl (.inl rfl) ?_
    simp only [Act.put, List.setIfInBounds_toArray, List.set_cons_zero, List.set_cons_succ]
    refine q_call 16 _ _ rfl (by intro _; simp [go_sem]) HA ?_
    simp only [Act.put, List.setIfInBounds_toArray, List.set_cons_zero, List.set_cons_succ]
    refine q_pure (.bool false) rfl (by intro _; simp [go_sem]) ?_
    simp only [Act.put, List.setIfInBounds_toArray, List.set_cons_zero, List.set_cons_succ]
    refine q_pure (.bool false) rfl (by intro _; simp [go_sem]) ?_
    simp only [Act.put, List.setIfInBounds_toArray, List.set_cons_zero, List.set_cons_succ]
    refine wpQuiet_nil fun w' hw' => ?_
    have G1 := F1.only hw' (fun h => h)
    have G3 := F3.only hw' (fun h => h)
    have G4 := F4.only hw' (fun h => h)
    have HO3 := Lib.hid (HO2.out.trans hw')
    clear hw' F1 F3 F4 HO2 E3 E4 B1 hu hV hne HC HE HI HK HA
    go_wp2_with (refine wpList_load_row rfl 25 (.tmp 1) rfl w.heap.size rfl 25 _ (0, 0) _ G1 Try.underlying25 rfl info25 ?_)
    refine (HD _).out.mono ?_; rintro e w3 ⟨rfl, ho3⟩
    have G3 := G3.only ho3 (fun h => h)
    have G4 := G4.only ho3 (fun h => h)
    have HO3 := Lib.hid (HO3.out.trans ho3)
    clear ho3 G1
    go_wp2_with fail
    refine (HR _).out.mono ?_; rintro e w4 ⟨rfl, ho3⟩
    have G3 := G3.only ho3 (fun h => h)
    have G4 := G4.only ho3 (fun h => h)
    have HO3 := Lib.hid (HO3.out.trans ho3)
    clear ho3
    go_wp2_with (first | refine wpList_load_row rfl 29 (.tmp 3) rfl b3 rfl 29 _ (0, 0) _ G3 Try.underlying29 rfl info29 ?_ | refine wpList_load_row rfl 32 (.tmp 4) rfl b4 rfl 32 _ (0, 0) _ G4 Try.underlying32 rfl info32 ?_)
    refine (HL _).out.mono ?_; rintro e w5 ⟨rfl, ho3⟩
    have HO3 := Lib.hid (HO3.out.trans ho3)
    clear ho3 G3 G4
    go_wp2_with fail
    go_ret
    exact ⟨rfl, HO3.out⟩

set_option maxRecDepth 100000 in
set_option maxHeartbeats 1000000 in
theorem items_no (x : It) (hf : x.f < 18446744073709551616) (hre : x.re < 18446744073709551616) (him : x.im < 18446744073709551616) (hok : x.ok = false) (w : World) : Calls Try.prog 4 #[.agg x.r] w (Ans (.bool true) w) := by
  have HK := fun u => Lib.hid (check_is x u)
  have HR := fun u => Lib.hid (rcheck_is x hf hre him u)
  have HC := fun u => Lib.hid (clean_item x u)
  have HE := fun u => Lib.hid (rclean_is x hf hre him u)
  have HA := fun u => Lib.hid (awake_is u)
  have HI := fun u => Lib.hid (item_is x.k x.b x.n x.f x.re x.im x.t u)
  have HD := fun u => Lib.hid (doc_is x.k x.b x.n x.f x.re x.im x.t u)
  have hcl : x.clean = x := by unfold It.clean; rw [if_neg (by rw [hok]; simp)]
  rw [hcl] at HC HE
  clear hcl
  rw [hok] at HK HR
  clear hok hf hre him
  obtain ⟨k, b, n, f, re, im, t⟩ := x
  have B1 := Blk.new w 25 (rwC k b n f re im t)
  have HO := Lib.hid ((Only.refl NoneOf w).alloc (.cells (rwC k b n f re im t) 25))
  go_enter Try.func4, Try.ntmps4
  go_upto_region 1 with (fail)
  have hsz : w.heap.size < (w.alloc (.cells (rwC k b n f re im t) 25)).heap.size := B1.lt
  generalize w.alloc (.cells (rwC k b n f re im t) 25) = W at *
  refine wp_region_head 8 78 (ItT W.heap.size (rwC k b n f re im t) (itC k b n f re im t) (itC k b n f re im t) (rwC k b n f re im t)) isAl67 rfl (by kernel_rfl) (by kernel_rfl) (ItT_keep _ _ _ _ _) (ItT_al _ _ _ _ _) ?_ ?_
  · intro i o hi ho a u hu hs ht
    have e1 : a.tmps.getD 1 undef = .pointer (some ⟨w.heap.size, 0, none⟩) := hs 1 (of_decide_eq_true (by kernel_rfl))
    have : i = 0 ∨ i = 1 ∨ i = 2 ∨ i = 3 ∨ i = 4 ∨ i = 5 ∨ i = 6 ∨ i = 7 := by omega
    rcases this with rfl | rfl | rfl | rfl | rfl | rfl | rfl | rfl
    · obtain rfl := Option.some.inj (ho : some _ = some o)
      exact left_load 25 (.tmp 1) w.heap.size 25 _ _ rfl e1 (B1.only hu (fun h => h)) Try.underlying25 rfl info25 rfl rfl
    · obtain rfl := Option.some.inj (ho : some _ = some o)
      have s0 : a.tmps.getD 5 undef = .agg (rwC k b n f re im t) := ht 0 (by omega) (by kernel_rfl)
      exact left_call 18 _ _ (by simp [go_sem, s0]) HI rfl (fun _ => rfl)
    · obtain rfl := Option.some.inj (ho : some _ = some o)
      have s0 : a.tmps.getD 6 undef = .agg (itC k b n f re im t) := ht 1 (by omega) (by kernel_rfl)
      exact left_call 17 _ _ (by simp [go_sem, s0]) HC rfl (fun _ => rfl)
    · obtain rfl := Option.some.inj (ho : some _ = some o)
      exact left_load 25 (.tmp 1) w.heap.size 25 _ _ rfl e1 (B1.only hu (fun h => h)) Try.underlying25 rfl info25 rfl rfl
    · obtain rfl := Option.some.inj (ho : some _ = some o)
      have s0 : a.tmps.getD 8 undef = .agg (rwC k b n f re im t) := ht 3 (by omega) (by kernel_rfl)
      exact left_call 20 _ _ (by simp [go_sem, s0]) HD rfl (fun _ => rfl)
    · obtain rfl := Option.some.inj (ho : some _ = some o)
      have s0 : a.tmps.getD 9 undef = .agg (rwC k b n f re im t) := ht 4 (by omega) (by kernel_rfl)
      exact left_call 19 _ _ (by simp [go_sem, s0]) HE rfl (fun _ => rfl)
    · obtain rfl := Option.some.inj (ho : some _ = some o)
      exact left_alloc itZ 29 (by simp [go_sem]) ⟨_, rfl, Blk.new _ _ _, hu.size⟩
    · obtain rfl := Option.some.inj (ho : some _ = some o)
      exact left_alloc (rwC 0 false 0 0 0 0 ⟨#[]⟩) 32 (by simp [go_sem]; rfl) ⟨_, rfl, Blk.new _ _ _, hu.size⟩
  · intro V u hu hV hne
    have v0 : V 0 = .agg (rwC k b n f re im t) := hV 0 (by omega)
    have v1 : V 1 = .agg (itC k b n f re im t) := hV 1 (by omega)
    have v2 : V 2 = .agg (itC k b n f re im t) := hV 2 (by omega)
    have v3 : V 3 = .agg (rwC k b n f re im t) := hV 3 (by omega)
    have v4 : V 4 = .agg (rwC k b n f re im t) := hV 4 (by omega)
    have v5 : V 5 = .agg (rwC k b n f re im t) := hV 5 (by omega)
    obtain ⟨b3, v6, E3, l3⟩ : ∃ b, V 6 = .pointer (some ⟨b, 0, none⟩) ∧ Blk u b 29 itZ ∧ W.heap.size ≤ b := hV 6 (by omega)
    obtain ⟨b4, v7, E4, l4⟩ : ∃ b, V 7 = .pointer (some ⟨b, 0, none⟩) ∧ Blk u b 32 (rwC 0 false 0 0 0 0 ⟨#[]⟩) ∧ W.heap.size ≤ b := hV 7 (by omega)
    have h34 : b3 ≠ b4 := fun h => hne 6 7 (by omega) (by omega) (by omega) rfl rfl (by rw [v6, v7, h])
    change wpList _ _ _ _ (Act.put (Act.put (Act.put (Act.put (Act.put (Act.put (Act.put (Act.put _ (some 5) (V 0)) (some 6) (V 1)) (some 7) (V 2)) (some 8) (V 3)) (some 9) (V 4)) (some 10) (V 5)) (some 3) (V 6)) (some 4) (V 7)) _
    rw [v0, v1, v2, v3, v4, v5, v6, v7]
    simp only [Act.put, List.setIfInBounds_toArray, List.set_cons_zero, List.set_cons_succ]
    simp only [List.drop_succ_cons, List.drop_zero]
    have lt3 := E3.lt
    have lt4 := E4.lt
    refine wpList_store_row rfl 29 (.tmp 3) (.tmp 7) rfl b3 (itC k b n f re im t) rfl rfl 29 itZ E3 info29 rfl (one_itC k b n f re im t) ?_
    refine wpList_store_row rfl 32 (.tmp 4) (.tmp 10) rfl b4 (rwC k b n f re im t) rfl rfl 32 (rwC 0 false 0 0 0 0 ⟨#[]⟩) (E4.row_far (Ne.symm h34) _) info32 rfl (one_rwC k b n f re im t) ?_
    have F1 : Blk ((u.setRow b3 (itC k b n f re im t)).setRow b4 (rwC k b n f re im t)) w.heap.size 25 (rwC k b n f re im t) := ((B1.only hu (fun h => h)).row_far (by omega) _).row_far (by omega) _
    have F3 : Blk ((u.setRow b3 (itC k b n f re im t)).setRow b4 (rwC k b n f re im t)) b3 29 (itC k b n f re im t) := (E3.row _).row_far h34 _
    have F4 : Blk ((u.setRow b3 (itC k b n f re im t)).setRow b4 (rwC k b n f re im t)) b4 32 (rwC k b n f re im t) := (E4.row_far (Ne.symm h34) _).row _
    have HO2 : Hid (Only NoneOf w ((u.setRow b3 (itC k b n f re im t)).setRow b4 (rwC k b n f re im t))) := Lib.hid (((HO.out.trans hu).row (.inr (by omega)) _).row (.inr (by omega)) _)
    generalize (u.setRow b3 (itC k b n f re im t)).setRow b4 (rwC k b n f re im t) = W2 at *
    go_wp2_with fail
    refine wp_region_aft (by kernel_rfl) (by kernel_rfl) ?_
    refine q_load 25 (.tmp 1) w.heap.size 25 _ _ rfl rfl rfl F1 Try.underlying25 rfl info25 ?_
    simp only [Act.put, List.setIfInBounds_toArray, List.set_cons_zero, List.set_cons_succ]
    refine q_call 18 _ _ rfl (by intro _; simp [go_sem]) HI ?_
    simp only [Act.put, List.setIfInBounds_toArray, List.set_cons_zero, List.set_cons_succ]
    refine q_call 21 _ _ rfl (by intro _; simp [go_sem]) HK ?_
    simp only [Act.put, List.setIfInBounds_toArray, List.set_cons_zero, List.set_cons_succ]
    refine q_load 25 (.tmp 1) w.heap.size 25 _ _ rfl rfl rfl F1 Try.underlying25 rfl info25 ?_
    simp only [Act.put, List.setIfInBounds_toArray, List.set_cons_zero, List.set_cons_succ]
    refine q_call 20 _ _ rfl (by intro _; simp [go_sem]) HD ?_
    simp only [Act.put, List.setIfInBounds_toArray, List.set_cons_zero, List.set_cons_succ]
    refine q_call 22 _ _ rfl (by intro _; simp [go_sem]) HR ?_
    simp only [Act.put, List.setIfInBounds_toArray, List.set_cons_zero, List.set_cons_succ]
    refine q_pure (.bool false) rfl (by intro _; simp [go_sem]) ?_
    simp only [Act.put, List.setIfInBounds_toArray, List.set_cons_zero, List.set_cons_succ]
    refine q_move _ rfl (.inl rfl) ?_
    simp only [Act.put, List.setIfInBounds_toArray, List.set_cons_zero, List.set_cons_succ]
    refine q_call 16 _ _ rfl (by intro _; simp [go_sem]) HA ?_
    simp only [Act.put, List.setIfInBounds_toArray, List.set_cons_zero, List.set_cons_succ]
    refine q_pure (.bool false) rfl (by intro _; simp [go_sem]) ?_
    simp only [Act.put, List.setIfInBounds_toArray, List.set_cons_zero, List.set_cons_succ]
    refine q_pure (.bool false) rfl (by intro _; simp [go_sem]) ?_
    simp only [Act.put, List.setIfInBounds_toArray, List.set_cons_zero, List.set_cons_succ]
    refine wpQuiet_nil fun w' hw' => ?_
    have G1 := F1.only hw' (fun h => h)
    have G3 := F3.only hw' (fun h => h)
    have G4 := F4.only hw' (fun h => h)
    have HO3 := Lib.hid (HO2.out.trans hw')
    clear hw' F1 F3 F4 HO2 E3 E4 B1 hu hV hne HC HE HI HK HA
    go_wp2_with (refine wpList_load_row rfl 25 (.tmp 1) rfl w.heap.size rfl 25 _ (0, 0) _ G1 Try.underlying25 rfl info25 ?_)
    refine (HD _).out.mono ?_; rintro e w3 ⟨rfl, ho3⟩
    have G3 := G3.only ho3 (fun h => h)
    have G4 := G4.only ho3 (fun h => h)
    have HO3 := Lib.hid (HO3.out.trans ho3)
    have G1 := G1.only ho3 (fun h => h)
    clear ho3
    go_wp2_with fail
    refine (HR _).out.mono ?_; rintro e w4 ⟨rfl, ho3⟩
    have G1 := G1.only ho3 (fun h => h)
    have G3 := G3.only ho3 (fun h => h)
    have HO3 := Lib.hid (HO3.out.trans ho3)
    clear ho3 G4
    obtain ⟨c0, c1, c2, c3, c4, c5, c6⟩ := blk7 G1
    obtain ⟨d0, d1, d2, d3, d4, d5⟩ := blk6 G3
    go_wp2_with (first | (go_at_call 24; refine (asItIs_is _ _).mono ?_; rintro e w5 ⟨rfl, rfl⟩))
    go_ret
    exact ⟨rfl, HO3.out⟩

theorem items_walk (x : It) (hf : x.f < 18446744073709551616) (hre : x.re < 18446744073709551616) (him : x.im < 18446744073709551616) (w : World) : Calls Try.prog 4 #[.agg x.r] w (Ans (.bool true) w) := by
  cases h : x.ok
  · exact items_no x hf hre him h w
  · exact items_ok x hf hre him h w

end Go.Proofs.Ytimoenpfnaaehaa
