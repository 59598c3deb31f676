/-
  Layer 4: an item taken off a text.
-/
import Derived.Test.YtimoenpfnaaehaaOB
import Derived.Test.YtimoenpfnaaehaaO9
namespace Go.Proofs.Ytimoenpfnaaehaa
open Go.RowKit

/-- The number whose turned bits these are. -/
def unturn (u : Nat) : Nat := if u < 9223372036854775808 then 18446744073709551615 - u else u - 9223372036854775808
abbrev E0 : ByteArray := ⟨#[]⟩
/-- The item that stands at a text's beginning, and what stands behind it. -/
def unitem (c : UInt8) (l : List UInt8) : Option (It × List UInt8) :=
  if c = 1 then some (⟨1, false, 0, 0, 0, 0, E0⟩, l)
  else if c = 2 then (match l with
    | [] => none
    | d :: l' => if d.toNat ≤ 1 then some (⟨2, d == 1, 0, 0, 0, 0, E0⟩, l') else none)
  else if c = 3 then (if l.length < 8 then none else some (⟨3, false, (numB (l.take 8) : Int) - 9223372036854775808, 0, 0, 0, E0⟩, l.drop 8))
  else if c = 4 then (if l.length < 8 then none else some (⟨4, false, 0, unturn (numB (l.take 8)), 0, 0, E0⟩, l.drop 8))
  else if c = 5 then (if l.length < 8 then none else if l.length < 16 then none else some (⟨5, false, 0, 0, unturn (numB (l.take 8)), unturn (numB ((l.drop 8).take 8)), E0⟩, l.drop 16))
  else if c = 6 then (untextL l).map fun (t, r) => (⟨6, false, 0, 0, 0, 0, ⟨t.toArray⟩⟩, r)
  else none

/-- How item ends. -/
def ItemPost (r : Option (It × List UInt8)) (w : World) (e : Ending) (w' : World) : Prop :=
  (match r with
    | none => ∃ (x : It) (t : ByteArray), e = .returned (.tuple #[.agg x.c, .string t, .bool false])
    | some (x, r) => e = .returned (.tuple #[.agg x.c, .string ⟨r.toArray⟩, .bool true])) ∧ Only NoneOf w w'

theorem results_item {tmps : Array Value} {w : World} {g : Nat} {cs : Array Value} (hb : Blk w g 29 cs) (hs : cs.size = 6) (hp : tmps.getD 2 undef = .pointer (some ⟨g, 0, none⟩)) :
    (results Try.f62 tmps).run Try.prog w = .ok (.tuple #[.agg cs, tmps.getD 3 undef, tmps.getD 4 undef]) w := by
  have h := run_loadVar_row (P := Try.prog) w g 29 29 cs (0, 0) _ hb Try.underlying29 rfl (by rw [hs]; exact info29)
  have hp' : tmps[2]?.getD undef = .pointer (some ⟨g, 0, none⟩) := by simpa using hp
  simp [results, hp', asAddr, h]

/-- How take ends. -/
def TakePost (r : ByteArray) (q : Bool) (w : World) (e : Ending) (w' : World) : Prop := ∃ (u : Nat) (t : ByteArray), u < 18446744073709551616 ∧ e = .returned (.tuple #[.int .u64 (u : Int), .string t, .bool q]) ∧ (q = true → u = numB (r.data.toList.take 8) ∧ t = ⟨(r.data.toList.drop 8).toArray⟩) ∧ Only NoneOf w w'
theorem take_any (r : ByteArray) (q : Bool) (hq : decide (8 ≤ r.data.toList.length) = q) (w : World) : Calls Try.prog 70 #[.string r] w (TakePost r q w) := by
  have hl : r.data.toList.length = r.size := by simp
  rw [hl] at hq
  cases q
  · refine (take_short r w (by simpa using hq)).mono ?_
    rintro e w' ⟨rfl, ho⟩
    exact ⟨0, ⟨#[]⟩, by decide, rfl, fun h => (by cases h), ho⟩
  · refine (take_is r w (by simpa using hq)).mono ?_
    rintro e w' ⟨rfl, ho⟩
    exact ⟨_, _, num8_lt _, rfl, fun _ => ⟨rfl, extract_end r 8⟩, ho⟩
theorem unbits_u (u : Nat) (h : u < 18446744073709551616) (w : World) : Calls Try.prog 71 #[.int .u64 (u : Int)] w (Same (.float .f64 (unturn u)) w) := unbits_is u h w

theorem unitem_3 (l : List UInt8) : unitem 3 l = if l.length < 8 then none else some (⟨3, false, (numB (l.take 8) : Int) - 9223372036854775808, 0, 0, 0, E0⟩, l.drop 8) := rfl
theorem unitem_4 (l : List UInt8) : unitem 4 l = if l.length < 8 then none else some (⟨4, false, 0, unturn (numB (l.take 8)), 0, 0, E0⟩, l.drop 8) := rfl
theorem unitem_5 (l : List UInt8) : unitem 5 l = if l.length < 8 then none else if l.length < 16 then none else some (⟨5, false, 0, 0, unturn (numB (l.take 8)), unturn (numB ((l.drop 8).take 8)), E0⟩, l.drop 16) := rfl
theorem unitem_6 (l : List UInt8) : unitem 6 l = (untextL l).map fun (t, r) => (⟨6, false, 0, 0, 0, 0, ⟨t.toArray⟩⟩, r) := rfl

theorem u_int (u : Nat) (h : u < 18446744073709551616) : wrap64 (bits .xor .u64 (u : Int) 9223372036854775808) = (u : Int) - 9223372036854775808 := by
  rw [top_xor u h]
  unfold wrap64
  split <;> omega
theorem post_none (x : It) (t : ByteArray) {R : Option (It × List UInt8)} {w w' : World} (hR : R = none) (h : Only NoneOf w w') : ItemPost R w (.returned (.tuple #[.agg x.c, .string t, .bool false])) w' := by
  subst hR
  exact ⟨⟨x, t, rfl⟩, h⟩
theorem post_some (x : It) (t : ByteArray) (r : List UInt8) {R : Option (It × List UInt8)} {w w' : World} (hR : R = some (x, r)) (ht : t = ⟨r.toArray⟩) (h : Only NoneOf w w') : ItemPost R w (.returned (.tuple #[.agg x.c, .string t, .bool true])) w' := by
  subst hR
  exact ⟨by rw [ht], h⟩
theorem item_ret {tmps : Array Value} {W : World} {g : Nat} (x : It) (t : ByteArray) (b : Bool) {R : Ending → World → Prop} (hb : Blk W g 29 x.c) (hp : tmps.getD 2 undef = .pointer (some ⟨g, 0, none⟩)) (h3 : tmps.getD 3 undef = .string t) (h4 : tmps.getD 4 undef = .bool b)
    (h : R (.returned (.tuple #[.agg x.c, .string t, .bool b])) W) : bodyPost Try.prog Try.f62 R .ret ⟨tmps, []⟩ W :=
  bodyPost_ret (v := .tuple #[.agg x.c, .string t, .bool b]) (by rw [results_item hb rfl hp, h3, h4]) rfl h
set_option maxRecDepth 100000 in
set_option maxHeartbeats 2000000 in
theorem item_1 (s : ByteArray) (w : World) (hz : 0 < s.size) (h : s[0] = 1) : Calls Try.prog 62 #[.string s] w (ItemPost (unitem s[0] (s.extract 1 s.size).data.toList) w) := by
  have h1 : 1 ≤ s.size := by omega
  have q1 : (s[0].toNat : Int) = 1 := by rw [h]; rfl
  rw [h]
  clear h
  obtain ⟨R, HRS⟩ : ∃ R, Hid (unitem 1 (s.extract 1 s.size).data.toList = R) := ⟨_, Lib.hid rfl⟩
  rw [HRS.out]
  have s1 := stF
  have s2 := stC
  obtain ⟨B2, B5, O⟩ := new2 w 29 29 itZ (itC 1 false 0 0 0 0 E0)
  have E2 := B2.drew
  have E5 := B5.drew
  have HO := Lib.hid O.drew
  clear O B2 B5
  go_enter Try.func62, Try.ntmps62
  go_wp2_with fail
  go_region
  generalize s.extract 1 s.size = r at *
  generalize ((w.alloc (.cells itZ 29)).alloc (.cells (itC 1 false 0 0 0 0 E0) 29)).drew = W at *
  obtain ⟨c0, c1, c2, c3, c4, c5⟩ := blk6 E5
  have f5 := fun i => E5.free i
  have hl5 := E5.lt
  have HR := Lib.hid (show R = some (⟨1, false, 0, 0, 0, 0, E0⟩, r.data.toList) from HRS.out.symm)
  go_wp2_with (first | (refine wpList_load_row rfl 29 (.tmp 5) rfl (w.heap.size + 1) rfl 29 _ (0, 0) _ E5 Try.underlying29 rfl info29 ?_) | (refine wpList_store_row rfl 29 (.tmp 2) (.tmp 90) rfl w.heap.size (It.c ⟨1, false, 0, 0, 0, 0, E0⟩) rfl rfl 29 itZ E2 info29 rfl (one_itC _ _ _ _ _ _ _) ?_))
  exact item_ret ⟨1, false, 0, 0, 0, 0, E0⟩ r true (E2.row (It.c ⟨1, false, 0, 0, 0, 0, E0⟩)) rfl rfl rfl (post_some _ _ _ HR.out rfl (HO.out.row (.inr (by omega)) _))

set_option maxRecDepth 100000 in
set_option maxHeartbeats 2000000 in
theorem item_2 (s : ByteArray) (w : World) (hz : 0 < s.size) (h : s[0] = 2) : Calls Try.prog 62 #[.string s] w (ItemPost (unitem s[0] (s.extract 1 s.size).data.toList) w) := by
  have h1 : 1 ≤ s.size := by omega
  have q1 : (s[0].toNat : Int) = 2 := by rw [h]; rfl
  rw [h]
  clear h
  obtain ⟨R, HRS⟩ : ∃ R, Hid (unitem 2 (s.extract 1 s.size).data.toList = R) := ⟨_, Lib.hid rfl⟩
  rw [HRS.out]
  have s1 := stF
  have s2 := stC
  obtain ⟨B2, B5, O⟩ := new2 w 29 29 itZ (itC 2 false 0 0 0 0 E0)
  have E2 := B2.drew
  have E5 := B5.drew
  have HO := Lib.hid O.drew
  clear O B2 B5
  go_enter Try.func62, Try.ntmps62
  go_wp2_with fail
  go_region
  generalize s.extract 1 s.size = r at *
  generalize ((w.alloc (.cells itZ 29)).alloc (.cells (itC 2 false 0 0 0 0 E0) 29)).drew = W at *
  obtain ⟨c0, c1, c2, c3, c4, c5⟩ := blk6 E5
  have f5 := fun i => E5.free i
  have hl5 := E5.lt
  rcases hL : r.data.toList with _ | ⟨d, l⟩
  · have HR := Lib.hid (show R = none by rw [← HRS.out, hL]; rfl)
    have he : r.toList.isEmpty = true := by rw [ByteArray.toList_eq, hL]; rfl
    clear hL
    go_wp2_with (first | (refine wpList_load_row rfl 29 (.tmp 5) rfl (w.heap.size + 1) rfl 29 _ (0, 0) _ E5 Try.underlying29 rfl info29 ?_) | (refine wpList_store_row rfl 29 (.tmp 2) (.tmp 27) rfl w.heap.size (It.c ⟨2, false, 0, 0, 0, 0, E0⟩) rfl rfl 29 itZ E2 info29 rfl (one_itC _ _ _ _ _ _ _) ?_))
    exact item_ret ⟨2, false, 0, 0, 0, 0, E0⟩ E0 false (E2.row (It.c ⟨2, false, 0, 0, 0, 0, E0⟩)) rfl rfl rfl (post_none _ _ HR.out (HO.out.row (.inr (by omega)) _))
  · have he : (!r.toList.isEmpty) = true := by rw [ByteArray.toList_eq, hL]; rfl
    have he' : r.toList.isEmpty = false := by rw [ByteArray.toList_eq, hL]; rfl
    have hsz : 0 < r.size := by
      have := congrArg List.length hL
      simp at this
      omega
    have hr1 : 1 ≤ r.size := by omega
    have hd : r[0] = d := by
      have := getD_get r 0 hsz
      rw [← this, hL]
      rfl
    have HX := Lib.hid (show r.extract 1 r.size = ⟨l.toArray⟩ by rw [extract_end r 1, hL]; rfl)
    have HL := Lib.hid hL
    clear hL
    have g1 := f5 1
    by_cases hle : d.toNat ≤ 1
    · have HR := Lib.hid (show R = some (⟨2, d == 1, 0, 0, 0, 0, E0⟩, l) by rw [← HRS.out, HL.out]; simp [unitem, hle])
      have hq : (r[0].toNat : Int) ≤ 1 := by rw [hd]; omega
      have hq' : decide ((r[0].toNat : Int) ≤ 1) = true := decide_eq_true hq
      have he1 : ((r[0].toNat : Int) == 1) = (d == 1) := by
        rw [hd, Bool.eq_iff_iff]
        simp only [beq_iff_eq]
        constructor
        · intro h; exact UInt8.toNat_inj.1 (by show d.toNat = 1; omega)
        · intro h; rw [h]; rfl
      clear hd hle
      have F5 : Blk (W.setCell ⟨w.heap.size + 1, 1, none⟩ (.bool (d == 1))) (w.heap.size + 1) 29 (It.c ⟨2, d == 1, 0, 0, 0, 0, E0⟩) := E5.put 1 (.bool (d == 1))
      have F2 : Blk (W.setCell ⟨w.heap.size + 1, 1, none⟩ (.bool (d == 1))) w.heap.size 29 itZ := E2.far (p := ⟨w.heap.size + 1, 1, none⟩) (by dsimp only; omega) (.bool (d == 1))
      have HO2 := Lib.hid (show Only NoneOf w (W.setCell ⟨w.heap.size + 1, 1, none⟩ (.bool (d == 1))) from HO.out.put (.inr (by dsimp only; omega)) (.bool (d == 1)))
      go_wp2_with fail
      go_region
      go_wp2_with (first | (refine wpList_load_row rfl 29 (.tmp 5) rfl (w.heap.size + 1) rfl 29 _ (0, 0) _ F5.drew Try.underlying29 rfl info29 ?_) | (refine wpList_store_row rfl 29 (.tmp 2) (.tmp 90) rfl w.heap.size (It.c ⟨2, d == 1, 0, 0, 0, 0, E0⟩) rfl rfl 29 itZ F2.drew info29 rfl (one_itC _ _ _ _ _ _ _) ?_))
      exact item_ret ⟨2, d == 1, 0, 0, 0, 0, E0⟩ (r.extract 1 r.size) true (F2.drew.row (It.c ⟨2, d == 1, 0, 0, 0, 0, E0⟩)) rfl rfl rfl (post_some _ _ _ HR.out HX.out (HO2.out.drew.row (.inr (by omega)) _))
    · have HR := Lib.hid (show R = none by rw [← HRS.out, HL.out]; simp [unitem, hle])
      have hq : ¬ (r[0].toNat : Int) ≤ 1 := by rw [hd]; omega
      have hq' : decide ((r[0].toNat : Int) ≤ 1) = false := decide_eq_false hq
      have he1 : ((r[0].toNat : Int) == 1) = (d == 1) := by
        rw [hd, Bool.eq_iff_iff]
        simp only [beq_iff_eq]
        constructor
        · intro h; exact UInt8.toNat_inj.1 (by show d.toNat = 1; omega)
        · intro h; rw [h]; rfl
      clear hd hle
      have F5 : Blk (W.setCell ⟨w.heap.size + 1, 1, none⟩ (.bool (d == 1))) (w.heap.size + 1) 29 (It.c ⟨2, d == 1, 0, 0, 0, 0, E0⟩) := E5.put 1 (.bool (d == 1))
      have F2 : Blk (W.setCell ⟨w.heap.size + 1, 1, none⟩ (.bool (d == 1))) w.heap.size 29 itZ := E2.far (p := ⟨w.heap.size + 1, 1, none⟩) (by dsimp only; omega) (.bool (d == 1))
      have HO2 := Lib.hid (show Only NoneOf w (W.setCell ⟨w.heap.size + 1, 1, none⟩ (.bool (d == 1))) from HO.out.put (.inr (by dsimp only; omega)) (.bool (d == 1)))
      go_wp2_with fail
      go_region
      go_wp2_with (first | (refine wpList_load_row rfl 29 (.tmp 5) rfl (w.heap.size + 1) rfl 29 _ (0, 0) _ F5.drew Try.underlying29 rfl info29 ?_) | (refine wpList_store_row rfl 29 (.tmp 2) (.tmp 90) rfl w.heap.size (It.c ⟨2, d == 1, 0, 0, 0, 0, E0⟩) rfl rfl 29 itZ F2.drew info29 rfl (one_itC _ _ _ _ _ _ _) ?_))
      exact item_ret ⟨2, d == 1, 0, 0, 0, 0, E0⟩ (r.extract 1 r.size) false (F2.drew.row (It.c ⟨2, d == 1, 0, 0, 0, 0, E0⟩)) rfl rfl rfl (post_none _ _ HR.out (HO2.out.drew.row (.inr (by omega)) _))

set_option maxRecDepth 100000 in
set_option maxHeartbeats 2000000 in
theorem item_3 (s : ByteArray) (w : World) (hz : 0 < s.size) (h : s[0] = 3) : Calls Try.prog 62 #[.string s] w (ItemPost (unitem s[0] (s.extract 1 s.size).data.toList) w) := by
  have h1 : 1 ≤ s.size := by omega
  have q1 : (s[0].toNat : Int) = 3 := by rw [h]; rfl
  rw [h]
  clear h
  obtain ⟨R, HRS⟩ : ∃ R, Hid (unitem 3 (s.extract 1 s.size).data.toList = R) := ⟨_, Lib.hid rfl⟩
  rw [HRS.out]
  have s1 := stF
  have s2 := stC
  obtain ⟨B2, B5, O⟩ := new2 w 29 29 itZ (itC 3 false 0 0 0 0 E0)
  have E2 := B2.drew
  have E5 := B5.drew
  have HO := Lib.hid O.drew
  clear O B2 B5
  go_enter Try.func62, Try.ntmps62
  go_wp2_with fail
  go_region
  generalize s.extract 1 s.size = r at *
  generalize ((w.alloc (.cells itZ 29)).alloc (.cells (itC 3 false 0 0 0 0 E0) 29)).drew = W at *
  obtain ⟨c0, c1, c2, c3, c4, c5⟩ := blk6 E5
  have f5 := fun i => E5.free i
  have hl5 := E5.lt
  have HQ := fun (q : Bool) (hq : decide (8 ≤ r.data.toList.length) = q) u => Lib.hid (take_any r q hq u)
  cases hq : decide (8 ≤ r.data.toList.length)
  · have HR := Lib.hid (show R = none by
      rw [← HRS.out]
      have h8 : ¬ 8 ≤ r.data.toList.length := of_decide_eq_false hq
      rw [unitem_3, if_pos (by omega)])
    have HT := HQ false hq
    clear HQ hq
    go_wp2_with fail
    refine (HT _).out.mono ?_; rintro e w1 ⟨u, t, hu, rfl, hcond, ho1⟩
    have G2 := E2.only ho1 (fun h => h)
    have G5 := E5.only ho1 (fun h => h)
    have HO1 := Lib.hid (HO.out.trans ho1)
    clear ho1 c0 c1 c2 c3 c4 c5 f5 HO
    obtain ⟨c0, c1, c2, c3, c4, c5⟩ := blk6 G5
    have f5 := fun i => G5.free i
    have hl5 := G5.lt
    have HU := Lib.hid hu
    clear hu hcond
    have F5 : Blk (World.setCell w1 ⟨w.heap.size + 1, 2, none⟩ (.int .i64 (wrap64 (bits .xor .u64 (u : Int) 9223372036854775808)))) (w.heap.size + 1) 29 (It.c ⟨3, false, (wrap64 (bits .xor .u64 (u : Int) 9223372036854775808)), 0, 0, 0, E0⟩) := G5.put 2 (.int .i64 (wrap64 (bits .xor .u64 (u : Int) 9223372036854775808)))
    have F2 : Blk (World.setCell w1 ⟨w.heap.size + 1, 2, none⟩ (.int .i64 (wrap64 (bits .xor .u64 (u : Int) 9223372036854775808)))) w.heap.size 29 itZ := G2.far (p := ⟨w.heap.size + 1, 2, none⟩) (by dsimp only; omega) (.int .i64 (wrap64 (bits .xor .u64 (u : Int) 9223372036854775808)))
    have HO2 := Lib.hid (show Only NoneOf w (World.setCell w1 ⟨w.heap.size + 1, 2, none⟩ (.int .i64 (wrap64 (bits .xor .u64 (u : Int) 9223372036854775808)))) from HO1.out.put (.inr (by dsimp only; omega)) (.int .i64 (wrap64 (bits .xor .u64 (u : Int) 9223372036854775808))))
    have g2 := f5 2
    go_wp2_with (first | (refine wpList_load_row rfl 29 (.tmp 5) rfl (w.heap.size + 1) rfl 29 _ (0, 0) _ F5 Try.underlying29 rfl info29 ?_) | (refine wpList_store_row rfl 29 (.tmp 2) (.tmp 90) rfl w.heap.size (It.c ⟨3, false, (wrap64 (bits .xor .u64 (u : Int) 9223372036854775808)), 0, 0, 0, E0⟩) rfl rfl 29 itZ F2 info29 rfl (one_itC _ _ _ _ _ _ _) ?_))
    exact item_ret ⟨3, false, (wrap64 (bits .xor .u64 (u : Int) 9223372036854775808)), 0, 0, 0, E0⟩ t false (F2.row (It.c ⟨3, false, (wrap64 (bits .xor .u64 (u : Int) 9223372036854775808)), 0, 0, 0, E0⟩)) rfl rfl rfl (post_none _ _ HR.out (HO2.out.row (.inr (by omega)) _))
  · have hq8 : 8 ≤ r.data.toList.length := of_decide_eq_true hq
    have HR := fun (u : Nat) (hu : u = numB (r.data.toList.take 8)) => Lib.hid (show R = some (⟨3, false, (wrap64 (bits .xor .u64 (u : Int) 9223372036854775808)), 0, 0, 0, E0⟩, r.data.toList.drop 8) by
      rw [← HRS.out]
      subst hu
      rw [unitem_3, if_neg (by omega)]; rw [u_int _ (num8_lt r.data.toList)])
    have HT := HQ true hq
    clear HQ hq hq8
    go_wp2_with fail
    refine (HT _).out.mono ?_; rintro e w1 ⟨u, t, hu, rfl, hcond, ho1⟩
    have G2 := E2.only ho1 (fun h => h)
    have G5 := E5.only ho1 (fun h => h)
    have HO1 := Lib.hid (HO.out.trans ho1)
    clear ho1 c0 c1 c2 c3 c4 c5 f5 HO
    obtain ⟨c0, c1, c2, c3, c4, c5⟩ := blk6 G5
    have f5 := fun i => G5.free i
    have hl5 := G5.lt
    have HCo := Lib.hid (hcond rfl)
    have HU := Lib.hid hu
    clear hu hcond
    have F5 : Blk (World.setCell w1 ⟨w.heap.size + 1, 2, none⟩ (.int .i64 (wrap64 (bits .xor .u64 (u : Int) 9223372036854775808)))) (w.heap.size + 1) 29 (It.c ⟨3, false, (wrap64 (bits .xor .u64 (u : Int) 9223372036854775808)), 0, 0, 0, E0⟩) := G5.put 2 (.int .i64 (wrap64 (bits .xor .u64 (u : Int) 9223372036854775808)))
    have F2 : Blk (World.setCell w1 ⟨w.heap.size + 1, 2, none⟩ (.int .i64 (wrap64 (bits .xor .u64 (u : Int) 9223372036854775808)))) w.heap.size 29 itZ := G2.far (p := ⟨w.heap.size + 1, 2, none⟩) (by dsimp only; omega) (.int .i64 (wrap64 (bits .xor .u64 (u : Int) 9223372036854775808)))
    have HO2 := Lib.hid (show Only NoneOf w (World.setCell w1 ⟨w.heap.size + 1, 2, none⟩ (.int .i64 (wrap64 (bits .xor .u64 (u : Int) 9223372036854775808)))) from HO1.out.put (.inr (by dsimp only; omega)) (.int .i64 (wrap64 (bits .xor .u64 (u : Int) 9223372036854775808))))
    have g2 := f5 2
    go_wp2_with (first | (refine wpList_load_row rfl 29 (.tmp 5) rfl (w.heap.size + 1) rfl 29 _ (0, 0) _ F5 Try.underlying29 rfl info29 ?_) | (refine wpList_store_row rfl 29 (.tmp 2) (.tmp 90) rfl w.heap.size (It.c ⟨3, false, (wrap64 (bits .xor .u64 (u : Int) 9223372036854775808)), 0, 0, 0, E0⟩) rfl rfl 29 itZ F2 info29 rfl (one_itC _ _ _ _ _ _ _) ?_))
    exact item_ret ⟨3, false, (wrap64 (bits .xor .u64 (u : Int) 9223372036854775808)), 0, 0, 0, E0⟩ t true (F2.row (It.c ⟨3, false, (wrap64 (bits .xor .u64 (u : Int) 9223372036854775808)), 0, 0, 0, E0⟩)) rfl rfl rfl (post_some _ _ _ (HR u HCo.out.1).out HCo.out.2 (HO2.out.row (.inr (by omega)) _))

set_option maxRecDepth 100000 in
set_option maxHeartbeats 2000000 in
theorem item_4 (s : ByteArray) (w : World) (hz : 0 < s.size) (h : s[0] = 4) : Calls Try.prog 62 #[.string s] w (ItemPost (unitem s[0] (s.extract 1 s.size).data.toList) w) := by
  have h1 : 1 ≤ s.size := by omega
  have q1 : (s[0].toNat : Int) = 4 := by rw [h]; rfl
  rw [h]
  clear h
  obtain ⟨R, HRS⟩ : ∃ R, Hid (unitem 4 (s.extract 1 s.size).data.toList = R) := ⟨_, Lib.hid rfl⟩
  rw [HRS.out]
  have s1 := stF
  have s2 := stC
  obtain ⟨B2, B5, O⟩ := new2 w 29 29 itZ (itC 4 false 0 0 0 0 E0)
  have E2 := B2.drew
  have E5 := B5.drew
  have HO := Lib.hid O.drew
  clear O B2 B5
  go_enter Try.func62, Try.ntmps62
  go_wp2_with fail
  go_region
  generalize s.extract 1 s.size = r at *
  generalize ((w.alloc (.cells itZ 29)).alloc (.cells (itC 4 false 0 0 0 0 E0) 29)).drew = W at *
  obtain ⟨c0, c1, c2, c3, c4, c5⟩ := blk6 E5
  have f5 := fun i => E5.free i
  have hl5 := E5.lt
  have HQ := fun (q : Bool) (hq : decide (8 ≤ r.data.toList.length) = q) u => Lib.hid (take_any r q hq u)
  cases hq : decide (8 ≤ r.data.toList.length)
  · have HR := Lib.hid (show R = none by
      rw [← HRS.out]
      have h8 : ¬ 8 ≤ r.data.toList.length := of_decide_eq_false hq
      rw [unitem_4, if_pos (by omega)])
    have HT := HQ false hq
    clear HQ hq
    go_wp2_with fail
    refine (HT _).out.mono ?_; rintro e w1 ⟨u, t, hu, rfl, hcond, ho1⟩
    have G2 := E2.only ho1 (fun h => h)
    have G5 := E5.only ho1 (fun h => h)
    have HO1 := Lib.hid (HO.out.trans ho1)
    clear ho1 c0 c1 c2 c3 c4 c5 f5 HO
    obtain ⟨c0, c1, c2, c3, c4, c5⟩ := blk6 G5
    have f5 := fun i => G5.free i
    have hl5 := G5.lt
    have HU := Lib.hid hu
    clear hu hcond
    go_wp2_with fail
    refine (unbits_u u HU.out _).mono ?_; rintro e w2 ⟨rfl, rfl⟩
    have F5 : Blk (World.setCell w1 ⟨w.heap.size + 1, 3, none⟩ (.float .f64 (unturn u))) (w.heap.size + 1) 29 (It.c ⟨4, false, 0, unturn u, 0, 0, E0⟩) := G5.put 3 (.float .f64 (unturn u))
    have F2 : Blk (World.setCell w1 ⟨w.heap.size + 1, 3, none⟩ (.float .f64 (unturn u))) w.heap.size 29 itZ := G2.far (p := ⟨w.heap.size + 1, 3, none⟩) (by dsimp only; omega) (.float .f64 (unturn u))
    have HO2 := Lib.hid (show Only NoneOf w (World.setCell w1 ⟨w.heap.size + 1, 3, none⟩ (.float .f64 (unturn u))) from HO1.out.put (.inr (by dsimp only; omega)) (.float .f64 (unturn u)))
    have g3 := f5 3
    go_wp2_with (first | (refine wpList_load_row rfl 29 (.tmp 5) rfl (w.heap.size + 1) rfl 29 _ (0, 0) _ F5 Try.underlying29 rfl info29 ?_) | (refine wpList_store_row rfl 29 (.tmp 2) (.tmp 90) rfl w.heap.size (It.c ⟨4, false, 0, unturn u, 0, 0, E0⟩) rfl rfl 29 itZ F2 info29 rfl (one_itC _ _ _ _ _ _ _) ?_))
    exact item_ret ⟨4, false, 0, unturn u, 0, 0, E0⟩ t false (F2.row (It.c ⟨4, false, 0, unturn u, 0, 0, E0⟩)) rfl rfl rfl (post_none _ _ HR.out (HO2.out.row (.inr (by omega)) _))
  · have hq8 : 8 ≤ r.data.toList.length := of_decide_eq_true hq
    have HR := fun (u : Nat) (hu : u = numB (r.data.toList.take 8)) => Lib.hid (show R = some (⟨4, false, 0, unturn u, 0, 0, E0⟩, r.data.toList.drop 8) by
      rw [← HRS.out]
      subst hu
      rw [unitem_4, if_neg (by omega)])
    have HT := HQ true hq
    clear HQ hq hq8
    go_wp2_with fail
    refine (HT _).out.mono ?_; rintro e w1 ⟨u, t, hu, rfl, hcond, ho1⟩
    have G2 := E2.only ho1 (fun h => h)
    have G5 := E5.only ho1 (fun h => h)
    have HO1 := Lib.hid (HO.out.trans ho1)
    clear ho1 c0 c1 c2 c3 c4 c5 f5 HO
    obtain ⟨c0, c1, c2, c3, c4, c5⟩ := blk6 G5
    have f5 := fun i => G5.free i
    have hl5 := G5.lt
    have HCo := Lib.hid (hcond rfl)
    have HU := Lib.hid hu
    clear hu hcond
    go_wp2_with fail
    refine (unbits_u u HU.out _).mono ?_; rintro e w2 ⟨rfl, rfl⟩
    have F5 : Blk (World.setCell w1 ⟨w.heap.size + 1, 3, none⟩ (.float .f64 (unturn u))) (w.heap.size + 1) 29 (It.c ⟨4, false, 0, unturn u, 0, 0, E0⟩) := G5.put 3 (.float .f64 (unturn u))
    have F2 : Blk (World.setCell w1 ⟨w.heap.size + 1, 3, none⟩ (.float .f64 (unturn u))) w.heap.size 29 itZ := G2.far (p := ⟨w.heap.size + 1, 3, none⟩) (by dsimp only; omega) (.float .f64 (unturn u))
    have HO2 := Lib.hid (show Only NoneOf w (World.setCell w1 ⟨w.heap.size + 1, 3, none⟩ (.float .f64 (unturn u))) from HO1.out.put (.inr (by dsimp only; omega)) (.float .f64 (unturn u)))
    have g3 := f5 3
    go_wp2_with (first | (refine wpList_load_row rfl 29 (.tmp 5) rfl (w.heap.size + 1) rfl 29 _ (0, 0) _ F5 Try.underlying29 rfl info29 ?_) | (refine wpList_store_row rfl 29 (.tmp 2) (.tmp 90) rfl w.heap.size (It.c ⟨4, false, 0, unturn u, 0, 0, E0⟩) rfl rfl 29 itZ F2 info29 rfl (one_itC _ _ _ _ _ _ _) ?_))
    exact item_ret ⟨4, false, 0, unturn u, 0, 0, E0⟩ t true (F2.row (It.c ⟨4, false, 0, unturn u, 0, 0, E0⟩)) rfl rfl rfl (post_some _ _ _ (HR u HCo.out.1).out HCo.out.2 (HO2.out.row (.inr (by omega)) _))

set_option maxRecDepth 100000 in
set_option maxHeartbeats 2000000 in
theorem item_5 (s : ByteArray) (w : World) (hz : 0 < s.size) (h : s[0] = 5) : Calls Try.prog 62 #[.string s] w (ItemPost (unitem s[0] (s.extract 1 s.size).data.toList) w) := by
  have h1 : 1 ≤ s.size := by omega
  have q1 : (s[0].toNat : Int) = 5 := by rw [h]; rfl
  rw [h]
  clear h
  obtain ⟨R, HRS⟩ : ∃ R, Hid (unitem 5 (s.extract 1 s.size).data.toList = R) := ⟨_, Lib.hid rfl⟩
  rw [HRS.out]
  have s1 := stF
  have s2 := stC
  obtain ⟨B2, B5, O⟩ := new2 w 29 29 itZ (itC 5 false 0 0 0 0 E0)
  have E2 := B2.drew
  have E5 := B5.drew
  have HO := Lib.hid O.drew
  clear O B2 B5
  go_enter Try.func62, Try.ntmps62
  go_wp2_with fail
  go_region
  generalize s.extract 1 s.size = r at *
  generalize ((w.alloc (.cells itZ 29)).alloc (.cells (itC 5 false 0 0 0 0 E0) 29)).drew = W at *
  obtain ⟨c0, c1, c2, c3, c4, c5⟩ := blk6 E5
  have f5 := fun i => E5.free i
  have hl5 := E5.lt
  have HQ := fun (q : Bool) (hq : decide (8 ≤ r.data.toList.length) = q) u => Lib.hid (take_any r q hq u)
  by_cases h8 : r.data.toList.length < 8
  · have HR := Lib.hid (show R = none by rw [← HRS.out, unitem_5, if_pos h8])
    have HT := HQ false (decide_eq_false (by omega))
    clear HQ h8
    go_wp2_with fail
    refine (HT _).out.mono ?_; rintro e w1 ⟨u, t, hu, rfl, hcond, ho1⟩
    have G2 := E2.only ho1 (fun h => h)
    have G5 := E5.only ho1 (fun h => h)
    have HO1 := Lib.hid (HO.out.trans ho1)
    clear ho1 c0 c1 c2 c3 c4 c5 f5 HO
    obtain ⟨c0, c1, c2, c3, c4, c5⟩ := blk6 G5
    have f5 := fun i => G5.free i
    have hl5 := G5.lt
    have HU := Lib.hid hu
    clear hu hcond
    go_wp2_with fail
    refine (unbits_u u HU.out _).mono ?_; rintro e w2 ⟨rfl, rfl⟩
    go_wp2_with fail
    refine (unbits_u 0 (by decide) _).mono ?_; rintro e w2 ⟨rfl, rfl⟩
    have F5 : Blk (World.setCell w1 ⟨w.heap.size + 1, 4, none⟩ (.complex .f64 (unturn u) (unturn 0))) (w.heap.size + 1) 29 (It.c ⟨5, false, 0, 0, unturn u, unturn 0, E0⟩) := G5.put 4 (.complex .f64 (unturn u) (unturn 0))
    have F2 : Blk (World.setCell w1 ⟨w.heap.size + 1, 4, none⟩ (.complex .f64 (unturn u) (unturn 0))) w.heap.size 29 itZ := G2.far (p := ⟨w.heap.size + 1, 4, none⟩) (by dsimp only; omega) (.complex .f64 (unturn u) (unturn 0))
    have HO2 := Lib.hid (show Only NoneOf w (World.setCell w1 ⟨w.heap.size + 1, 4, none⟩ (.complex .f64 (unturn u) (unturn 0))) from HO1.out.put (.inr (by dsimp only; omega)) (.complex .f64 (unturn u) (unturn 0)))
    have g4 := f5 4
    go_wp2_with (first | (refine wpList_load_row rfl 29 (.tmp 5) rfl (w.heap.size + 1) rfl 29 _ (0, 0) _ F5 Try.underlying29 rfl info29 ?_) | (refine wpList_store_row rfl 29 (.tmp 2) (.tmp 90) rfl w.heap.size (It.c ⟨5, false, 0, 0, unturn u, unturn 0, E0⟩) rfl rfl 29 itZ F2 info29 rfl (one_itC _ _ _ _ _ _ _) ?_))
    exact item_ret ⟨5, false, 0, 0, unturn u, unturn 0, E0⟩ t false (F2.row (It.c ⟨5, false, 0, 0, unturn u, unturn 0, E0⟩)) rfl rfl rfl (post_none _ _ HR.out (HO2.out.row (.inr (by omega)) _))
  · have HT := HQ true (decide_eq_true (by omega))
    clear HQ
    by_cases h16 : r.data.toList.length < 16
    · have HR := Lib.hid (show R = none by rw [← HRS.out, unitem_5, if_neg h8, if_pos h16])
      have h8' : r.size < 16 := by simpa using h16
      clear h8 h16
      go_wp2_with fail
      refine (HT _).out.mono ?_; rintro e w1 ⟨u, t, hu, rfl, hcond, ho1⟩
      have G2 := E2.only ho1 (fun h => h)
      have G5 := E5.only ho1 (fun h => h)
      have HO1 := Lib.hid (HO.out.trans ho1)
      clear ho1 c0 c1 c2 c3 c4 c5 f5 HO
      obtain ⟨c0, c1, c2, c3, c4, c5⟩ := blk6 G5
      have f5 := fun i => G5.free i
      have hl5 := G5.lt
      have HCo := Lib.hid (hcond rfl)
      have HU := Lib.hid hu
      clear hu hcond
      have HT2 := fun v => Lib.hid (take_any t false (by rw [HCo.out.2]; simp; omega) v)
      go_wp2_with fail
      refine (HT2 _).out.mono ?_; rintro e w2 ⟨u2, t2, hu2, rfl, hcond2, ho2⟩
      have J2 := G2.only ho2 (fun h => h)
      have J5 := G5.only ho2 (fun h => h)
      have HO3 := Lib.hid (HO1.out.trans ho2)
      clear ho2 c0 c1 c2 c3 c4 c5 f5
      obtain ⟨c0, c1, c2, c3, c4, c5⟩ := blk6 J5
      have f5 := fun i => J5.free i
      have hl6 := J5.lt
      have HU2 := Lib.hid hu2
      clear hu2 hcond2
      go_wp2_with fail
      refine (unbits_u u HU.out _).mono ?_; rintro e w3 ⟨rfl, rfl⟩
      go_wp2_with fail
      refine (unbits_u u2 HU2.out _).mono ?_; rintro e w3 ⟨rfl, rfl⟩
      have F5 : Blk (World.setCell w2 ⟨w.heap.size + 1, 4, none⟩ (.complex .f64 (unturn u) (unturn u2))) (w.heap.size + 1) 29 (It.c ⟨5, false, 0, 0, unturn u, unturn u2, E0⟩) := J5.put 4 (.complex .f64 (unturn u) (unturn u2))
      have F2 : Blk (World.setCell w2 ⟨w.heap.size + 1, 4, none⟩ (.complex .f64 (unturn u) (unturn u2))) w.heap.size 29 itZ := J2.far (p := ⟨w.heap.size + 1, 4, none⟩) (by dsimp only; omega) (.complex .f64 (unturn u) (unturn u2))
      have HO2 := Lib.hid (show Only NoneOf w (World.setCell w2 ⟨w.heap.size + 1, 4, none⟩ (.complex .f64 (unturn u) (unturn u2))) from HO3.out.put (.inr (by dsimp only; omega)) (.complex .f64 (unturn u) (unturn u2)))
      have g4 := f5 4
      go_wp2_with (first | (refine wpList_load_row rfl 29 (.tmp 5) rfl (w.heap.size + 1) rfl 29 _ (0, 0) _ F5 Try.underlying29 rfl info29 ?_) | (refine wpList_store_row rfl 29 (.tmp 2) (.tmp 90) rfl w.heap.size (It.c ⟨5, false, 0, 0, unturn u, unturn u2, E0⟩) rfl rfl 29 itZ F2 info29 rfl (one_itC _ _ _ _ _ _ _) ?_))
      exact item_ret ⟨5, false, 0, 0, unturn u, unturn u2, E0⟩ t2 false (F2.row (It.c ⟨5, false, 0, 0, unturn u, unturn u2, E0⟩)) rfl rfl rfl (post_none _ _ HR.out (HO2.out.row (.inr (by omega)) _))
    · have HR := fun (u u2 : Nat) (hu : u = numB (r.data.toList.take 8)) {t : ByteArray} (hu2 : u2 = numB (t.data.toList.take 8)) (ht : t = ⟨(r.data.toList.drop 8).toArray⟩) => Lib.hid (show R = some (⟨5, false, 0, 0, unturn u, unturn u2, E0⟩, r.data.toList.drop 16) by
        rw [← HRS.out, unitem_5, if_neg h8, if_neg h16]
        subst hu hu2 ht
        rfl)
      have h8' : 16 ≤ r.size := by have : r.data.toList.length = r.size := by simp
                                   omega
      clear h8 h16
      go_wp2_with fail
      refine (HT _).out.mono ?_; rintro e w1 ⟨u, t, hu, rfl, hcond, ho1⟩
      have G2 := E2.only ho1 (fun h => h)
      have G5 := E5.only ho1 (fun h => h)
      have HO1 := Lib.hid (HO.out.trans ho1)
      clear ho1 c0 c1 c2 c3 c4 c5 f5 HO
      obtain ⟨c0, c1, c2, c3, c4, c5⟩ := blk6 G5
      have f5 := fun i => G5.free i
      have hl5 := G5.lt
      have HCo := Lib.hid (hcond rfl)
      have HU := Lib.hid hu
      clear hu hcond
      have HT2 := fun v => Lib.hid (take_any t true (by rw [HCo.out.2]; simp; omega) v)
      go_wp2_with fail
      refine (HT2 _).out.mono ?_; rintro e w2 ⟨u2, t2, hu2, rfl, hcond2, ho2⟩
      have J2 := G2.only ho2 (fun h => h)
      have J5 := G5.only ho2 (fun h => h)
      have HO3 := Lib.hid (HO1.out.trans ho2)
      clear ho2 c0 c1 c2 c3 c4 c5 f5
      obtain ⟨c0, c1, c2, c3, c4, c5⟩ := blk6 J5
      have f5 := fun i => J5.free i
      have hl6 := J5.lt
      have HC2 := Lib.hid (hcond2 rfl)
      have HD := Lib.hid (show (⟨(t.data.toList.drop 8).toArray⟩ : ByteArray) = ⟨(r.data.toList.drop 16).toArray⟩ by rw [HCo.out.2]; simp)
      have HU2 := Lib.hid hu2
      clear hu2 hcond2
      go_wp2_with fail
      refine (unbits_u u HU.out _).mono ?_; rintro e w3 ⟨rfl, rfl⟩
      go_wp2_with fail
      refine (unbits_u u2 HU2.out _).mono ?_; rintro e w3 ⟨rfl, rfl⟩
      have F5 : Blk (World.setCell w2 ⟨w.heap.size + 1, 4, none⟩ (.complex .f64 (unturn u) (unturn u2))) (w.heap.size + 1) 29 (It.c ⟨5, false, 0, 0, unturn u, unturn u2, E0⟩) := J5.put 4 (.complex .f64 (unturn u) (unturn u2))
      have F2 : Blk (World.setCell w2 ⟨w.heap.size + 1, 4, none⟩ (.complex .f64 (unturn u) (unturn u2))) w.heap.size 29 itZ := J2.far (p := ⟨w.heap.size + 1, 4, none⟩) (by dsimp only; omega) (.complex .f64 (unturn u) (unturn u2))
      have HO2 := Lib.hid (show Only NoneOf w (World.setCell w2 ⟨w.heap.size + 1, 4, none⟩ (.complex .f64 (unturn u) (unturn u2))) from HO3.out.put (.inr (by dsimp only; omega)) (.complex .f64 (unturn u) (unturn u2)))
      have g4 := f5 4
      go_wp2_with (first | (refine wpList_load_row rfl 29 (.tmp 5) rfl (w.heap.size + 1) rfl 29 _ (0, 0) _ F5 Try.underlying29 rfl info29 ?_) | (refine wpList_store_row rfl 29 (.tmp 2) (.tmp 90) rfl w.heap.size (It.c ⟨5, false, 0, 0, unturn u, unturn u2, E0⟩) rfl rfl 29 itZ F2 info29 rfl (one_itC _ _ _ _ _ _ _) ?_))
      exact item_ret ⟨5, false, 0, 0, unturn u, unturn u2, E0⟩ t2 true (F2.row (It.c ⟨5, false, 0, 0, unturn u, unturn u2, E0⟩)) rfl rfl rfl (post_some _ _ _ (HR u u2 HCo.out.1 HC2.out.1 HCo.out.2).out (HC2.out.2.trans HD.out) (HO2.out.row (.inr (by omega)) _))

set_option maxRecDepth 100000 in
set_option maxHeartbeats 2000000 in
theorem item_6 (s : ByteArray) (w : World) (hz : 0 < s.size) (h : s[0] = 6) (hs : s.size ≤ 1099511627776) : Calls Try.prog 62 #[.string s] w (ItemPost (unitem s[0] (s.extract 1 s.size).data.toList) w) := by
  have h1 : 1 ≤ s.size := by omega
  have q1 : (s[0].toNat : Int) = 6 := by rw [h]; rfl
  rw [h]
  clear h
  obtain ⟨R, HRS⟩ : ∃ R, Hid (unitem 6 (s.extract 1 s.size).data.toList = R) := ⟨_, Lib.hid rfl⟩
  rw [HRS.out]
  have s1 := stF
  have s2 := stC
  obtain ⟨B2, B5, O⟩ := new2 w 29 29 itZ (itC 6 false 0 0 0 0 E0)
  have E2 := B2.drew
  have E5 := B5.drew
  have HO := Lib.hid O.drew
  clear O B2 B5
  go_enter Try.func62, Try.ntmps62
  go_wp2_with fail
  go_region
  have hrs : (s.extract 1 s.size).size ≤ 1099511627776 := by rw [ByteArray.size_extract]; omega
  generalize s.extract 1 s.size = r at *
  generalize ((w.alloc (.cells itZ 29)).alloc (.cells (itC 6 false 0 0 0 0 E0) 29)).drew = W at *
  obtain ⟨c0, c1, c2, c3, c4, c5⟩ := blk6 E5
  have f5 := fun i => E5.free i
  have hl5 := E5.lt
  have HT := fun u => Lib.hid (takeText_is r u hrs)
  clear hrs
  cases hX : untextL r.data.toList with
  | none =>
    have HR := Lib.hid (show R = none by rw [← HRS.out, unitem_6, hX]; rfl)
    simp only [hX] at HT
    clear hX
    go_wp2_with fail
    refine (HT _).out.mono ?_; rintro e w1 ⟨rfl, ho1⟩
    have G2 := E2.only ho1 (fun h => h)
    have G5 := E5.only ho1 (fun h => h)
    have HO1 := Lib.hid (HO.out.trans ho1)
    clear ho1 c0 c1 c2 c3 c4 c5 f5 HO
    obtain ⟨c0, c1, c2, c3, c4, c5⟩ := blk6 G5
    have f5 := fun i => G5.free i
    have hl5 := G5.lt
    have F5 : Blk (World.setCell w1 ⟨w.heap.size + 1, 5, none⟩ (.string E0)) (w.heap.size + 1) 29 (It.c ⟨6, false, 0, 0, 0, 0, E0⟩) := G5.put 5 (.string E0)
    have F2 : Blk (World.setCell w1 ⟨w.heap.size + 1, 5, none⟩ (.string E0)) w.heap.size 29 itZ := G2.far (p := ⟨w.heap.size + 1, 5, none⟩) (by dsimp only; omega) (.string E0)
    have HO2 := Lib.hid (show Only NoneOf w (World.setCell w1 ⟨w.heap.size + 1, 5, none⟩ (.string E0)) from HO1.out.put (.inr (by dsimp only; omega)) (.string E0))
    have g5 := f5 5
    go_wp2_with (first | (refine wpList_load_row rfl 29 (.tmp 5) rfl (w.heap.size + 1) rfl 29 _ (0, 0) _ F5 Try.underlying29 rfl info29 ?_) | (refine wpList_store_row rfl 29 (.tmp 2) (.tmp 90) rfl w.heap.size (It.c ⟨6, false, 0, 0, 0, 0, E0⟩) rfl rfl 29 itZ F2 info29 rfl (one_itC _ _ _ _ _ _ _) ?_))
    exact item_ret ⟨6, false, 0, 0, 0, 0, E0⟩ E0 false (F2.row (It.c ⟨6, false, 0, 0, 0, 0, E0⟩)) rfl rfl rfl (post_none _ _ HR.out (HO2.out.row (.inr (by omega)) _))
  | some x =>
    obtain ⟨t, l⟩ := x
    have HR := Lib.hid (show R = some (⟨6, false, 0, 0, 0, 0, ⟨t.toArray⟩⟩, l) by rw [← HRS.out, unitem_6, hX]; rfl)
    simp only [hX] at HT
    clear hX
    go_wp2_with fail
    refine (HT _).out.mono ?_; rintro e w1 ⟨rfl, ho1⟩
    have G2 := E2.only ho1 (fun h => h)
    have G5 := E5.only ho1 (fun h => h)
    have HO1 := Lib.hid (HO.out.trans ho1)
    clear ho1 c0 c1 c2 c3 c4 c5 f5 HO
    obtain ⟨c0, c1, c2, c3, c4, c5⟩ := blk6 G5
    have f5 := fun i => G5.free i
    have hl5 := G5.lt
    have F5 : Blk (World.setCell w1 ⟨w.heap.size + 1, 5, none⟩ (.string ⟨t.toArray⟩)) (w.heap.size + 1) 29 (It.c ⟨6, false, 0, 0, 0, 0, ⟨t.toArray⟩⟩) := G5.put 5 (.string ⟨t.toArray⟩)
    have F2 : Blk (World.setCell w1 ⟨w.heap.size + 1, 5, none⟩ (.string ⟨t.toArray⟩)) w.heap.size 29 itZ := G2.far (p := ⟨w.heap.size + 1, 5, none⟩) (by dsimp only; omega) (.string ⟨t.toArray⟩)
    have HO2 := Lib.hid (show Only NoneOf w (World.setCell w1 ⟨w.heap.size + 1, 5, none⟩ (.string ⟨t.toArray⟩)) from HO1.out.put (.inr (by dsimp only; omega)) (.string ⟨t.toArray⟩))
    have g5 := f5 5
    go_wp2_with (first | (refine wpList_load_row rfl 29 (.tmp 5) rfl (w.heap.size + 1) rfl 29 _ (0, 0) _ F5 Try.underlying29 rfl info29 ?_) | (refine wpList_store_row rfl 29 (.tmp 2) (.tmp 90) rfl w.heap.size (It.c ⟨6, false, 0, 0, 0, 0, ⟨t.toArray⟩⟩) rfl rfl 29 itZ F2 info29 rfl (one_itC _ _ _ _ _ _ _) ?_))
    exact item_ret ⟨6, false, 0, 0, 0, 0, ⟨t.toArray⟩⟩ ⟨l.toArray⟩ true (F2.row (It.c ⟨6, false, 0, 0, 0, 0, ⟨t.toArray⟩⟩)) rfl rfl rfl (post_some _ _ _ HR.out rfl (HO2.out.row (.inr (by omega)) _))

set_option maxRecDepth 100000 in
set_option maxHeartbeats 2000000 in
theorem item_x (s : ByteArray) (w : World) (hz : 0 < s.size) (h1 : s[0] ≠ 1) (h2 : s[0] ≠ 2) (h3 : s[0] ≠ 3) (h4 : s[0] ≠ 4) (h5 : s[0] ≠ 5) (h6 : s[0] ≠ 6) : Calls Try.prog 62 #[.string s] w (ItemPost (unitem s[0] (s.extract 1 s.size).data.toList) w) := by
  have hsz1 : 1 ≤ s.size := by omega
  obtain ⟨R, HRS⟩ : ∃ R, Hid (unitem s[0] (s.extract 1 s.size).data.toList = R) := ⟨_, Lib.hid rfl⟩
  have HR := Lib.hid (show R = none by rw [← HRS.out]; unfold unitem; rw [if_neg h1, if_neg h2, if_neg h3, if_neg h4, if_neg h5, if_neg h6])
  rw [HRS.out]
  have hb0 : 0 ≤ (s[0].toNat : Int) := Int.natCast_nonneg _
  have hb1 : (s[0].toNat : Int) < 256 := by have := s[0].toNat_lt; omega
  have q1 : ((s[0].toNat : Int) == 1) = false := (nz (c := s[0]) (d := 1) h1).1
  have q2 : ((s[0].toNat : Int) == 2) = false := (nz (c := s[0]) (d := 2) h2).1
  have q3 : ((s[0].toNat : Int) == 3) = false := (nz (c := s[0]) (d := 3) h3).1
  have q4 : ((s[0].toNat : Int) == 4) = false := (nz (c := s[0]) (d := 4) h4).1
  have q5 : ((s[0].toNat : Int) == 5) = false := (nz (c := s[0]) (d := 5) h5).1
  have q6 : ((s[0].toNat : Int) == 6) = false := (nz (c := s[0]) (d := 6) h6).1
  clear h1 h2 h3 h4 h5 h6
  have s1 := stF
  have s2 := stC
  obtain ⟨B2, B5, O⟩ := new2 w 29 29 itZ (itC (s[0].toNat : Int) false 0 0 0 0 E0)
  have E2 := B2.drew
  have E5 := B5.drew
  have HO := Lib.hid O.drew
  clear O B2 B5
  go_enter Try.func62, Try.ntmps62
  go_wp2_with fail
  go_region
  generalize s.extract 1 s.size = r at *
  generalize ((w.alloc (.cells itZ 29)).alloc (.cells (itC (s[0].toNat : Int) false 0 0 0 0 E0) 29)).drew = W at *
  obtain ⟨c0, c1, c2, c3, c4, c5⟩ := blk6 E5
  have f5 := fun i => E5.free i
  have hl5 := E5.lt
  go_wp2_with (first | (refine wpList_load_row rfl 29 (.tmp 5) rfl (w.heap.size + 1) rfl 29 _ (0, 0) _ E5 Try.underlying29 rfl info29 ?_) | (refine wpList_store_row rfl 29 (.tmp 2) (.tmp 90) rfl w.heap.size (It.c ⟨(s[0].toNat : Int), false, 0, 0, 0, 0, E0⟩) rfl rfl 29 itZ E2 info29 rfl (one_itC _ _ _ _ _ _ _) ?_))
  all_goals exact item_ret ⟨(s[0].toNat : Int), false, 0, 0, 0, 0, E0⟩ r false (E2.row (It.c ⟨(s[0].toNat : Int), false, 0, 0, 0, 0, E0⟩)) rfl rfl rfl (post_none _ _ HR.out (HO.out.row (.inr (by omega)) _))

theorem item_any (s : ByteArray) (w : World) (hz : 0 < s.size) (hs : s.size ≤ 1099511627776) : Calls Try.prog 62 #[.string s] w (ItemPost (unitem s[0] (s.extract 1 s.size).data.toList) w) := by
  by_cases h1 : s[0] = 1
  · exact item_1 s w hz h1
  by_cases h2 : s[0] = 2
  · exact item_2 s w hz h2
  by_cases h3 : s[0] = 3
  · exact item_3 s w hz h3
  by_cases h4 : s[0] = 4
  · exact item_4 s w hz h4
  by_cases h5 : s[0] = 5
  · exact item_5 s w hz h5
  by_cases h6 : s[0] = 6
  · exact item_6 s w hz h6 hs
  exact item_x s w hz h1 h2 h3 h4 h5 h6

end Go.Proofs.Ytimoenpfnaaehaa
