/-
  Layer 14's law StoreNone walked.
-/
import Derived.Test.YtnonnencdhogiaaS30
namespace Go.Proofs.Ytnonnencdhogiaa
open Go.RowKit

theorem info29 : (Try.prog.info? 29).map (·.size) = some 6 := by kernel_rfl
/-- what region 10 has made -/
def NoT (x : Stp) (A : Option Addr) (c : Nat) (ec : Int) : Nat → Value → World → Prop
  | 0, v, _ => v = .pointer none
  | 1, v, _ => v = .agg (stepC x.kind x.key x.st (.slice A x.bs.length c) x.dead x.tt)
  | 2, v, w => ∃ cs, v = .agg cs ∧ TAt w cs (ansN x)
  | 3, v, _ => v = .agg (tellC ec 0 0 false (.slice none 0 0) (.slice none 0 0) (.slice none 0 0))
  | _, _, _ => True
theorem NoT_keep (x : Stp) (A : Option Addr) (c : Nat) (ec : Int) (i : Nat) (v : Value) (w w' : World) (h : NoT x A c ec i v w) (ho : Only NoneOf w w') : NoT x A c ec i v w' :=
  match i, h with
  | 0, h | 1, h | 3, h => h
  | 2, ⟨cs, h1, h2⟩ => ⟨cs, h1, h2.keep ho⟩
  | _ + 4, _ => trivial
theorem ansN_fit (x : Stp) : (ansN x).Fit := by
  unfold ansN
  split <;> exact ⟨by simp, by simp, fun p h => by simp at h, by simp, fun p h => by simp at h⟩
theorem told_plain (w : World) (e n m : Int) (is : Bool) : TAt w (tellC e n m is (.slice none 0 0) (.slice none 0 0) (.slice none 0 0)) { e := e, n := n, m := m, is := is } := (tstay_plain 0 w e n m is).at

set_option maxRecDepth 100000 in
set_option maxHeartbeats 4000000 in
theorem none_walk (A : Option Addr) (cap : Nat) (xs : List Stp) (w : World) (hA : StepsAt w A xs) (hfew : xs.length ≤ 1759218604390) : Calls Try.prog 4 #[.slice A xs.length cap] w (Ans (.bool true) w) := by
  have HF := Lib.hid (fixed_is w)
  have HA := Lib.hid hA
  obtain ⟨n, hn⟩ : ∃ n, xs.length = n := ⟨_, rfl⟩
  have HN := Lib.hid hn
  rw [hn] at hfew ⊢
  clear hA hn
  go_enter Try.func4, Try.ntmps4
  go_wp2_with fail
  refine HF.out.mono ?_; rintro e w1 ⟨rfl, ho1⟩
  have HO1 := Lib.hid ho1
  clear ho1
  go_wp2_with fail
  go_loopw [11] (fun v wr => ∃ i : Nat, v = .int .i64 i ∧ i ≤ n ∧ Only NoneOf w wr) (fun v _ => n - (intOf v).toNat)
  case atStart => exact ⟨0, rfl, by omega, HO1.out⟩
  case round =>
    obtain ⟨i, rfl, hi, hO⟩ := hrel
    have HO := Lib.hid hO
    clear hO
    by_cases hlt : i < n
    · have hx : xs[i]? = some (xs[i]'(by rw [HN.out]; exact hlt)) := List.getElem?_eq_getElem _
      generalize xs[i]'(by rw [HN.out]; exact hlt) = x at hx
      obtain ⟨g, off, Ab, cb, rfl, hg, d0, d1, d2, d3, d4, d5, hby, hks⟩ := (HA.out.keep HO.out) i x hx
      have HCN := fun u => Lib.hid (call_nil u x Ab cb)
      by_cases hk : x.kind = 0
      all_goals
        have HK := Lib.hid hk
      · have hkb : (x.kind == 0) = true := by rw [hk]; rfl
        have hB5 := (Blk.new wr 29 (stepC x.kind x.key x.st (.slice Ab x.bs.length cb) x.dead x.tt)).alloc (.cells (tellC 1 0 0 false (.slice none 0 0) (.slice none 0 0) (.slice none 0 0)) 33)
        have hB6 := Blk.new' (wr.alloc (.cells (stepC x.kind x.key x.st (.slice Ab x.bs.length cb) x.dead x.tt) 29)) 33 (tellC 1 0 0 false (.slice none 0 0) (.slice none 0 0) (.slice none 0 0)) (n := wr.heap.size + 1) (by simp)
        have HOW := Lib.hid ((HO.out.alloc (.cells (stepC x.kind x.key x.st (.slice Ab x.bs.length cb) x.dead x.tt) 29)).alloc (.cells (tellC 1 0 0 false (.slice none 0 0) (.slice none 0 0) (.slice none 0 0)) 33))
        have HB5 := Lib.hid hB5
        have HB6 := Lib.hid hB6
        have HWT := fun u => Lib.hid (show TAt u (tellC 1 0 0 false (.slice none 0 0) (.slice none 0 0) (.slice none 0 0)) (ansN x) by unfold ansN; rw [if_pos HK.out]; exact told_plain u 1 0 0 false)
        clear hk hB5 hB6
        go_upto_region 10 with (fail)
        refine wp_region_head 4 27 (NoT x Ab cb 1) (fun _ => false) rfl (by kernel_rfl) (by kernel_rfl) (NoT_keep _ _ _ _) (fun _ _ _ h => by cases h) ?_ ?_
        · intro i o hi ho a u hu hs ht
          have e3 : a.tmps.getD 3 undef = .pointer none := hs 3 (of_decide_eq_true (by kernel_rfl))
          have e5 : a.tmps.getD 5 undef = .pointer (some ⟨wr.heap.size, 0, none⟩) := hs 5 (of_decide_eq_true (by kernel_rfl))
          have e6 : a.tmps.getD 6 undef = .pointer (some ⟨wr.heap.size + 1, 0, none⟩) := hs 6 (of_decide_eq_true (by kernel_rfl))
          have : i = 0 ∨ i = 1 ∨ i = 2 ∨ i = 3 := by omega
          rcases this with rfl | rfl | rfl | rfl
          · obtain rfl := Option.some.inj (ho : some _ = some o)
            exact left_value (.pointer none) (by simp [go_sem, e3]) rfl rfl
          · obtain rfl := Option.some.inj (ho : some _ = some o)
            exact left_load 29 (.tmp 5) wr.heap.size 29 _ _ rfl e5 (HB5.out.only hu (fun h => h)) Try.underlying29 rfl info29 rfl rfl
          · obtain rfl := Option.some.inj (ho : some _ = some o)
            have s0 : a.tmps.getD 20 undef = .pointer none := ht 0 (by omega) (by kernel_rfl)
            have s1 : a.tmps.getD 21 undef = .agg (stepC x.kind x.key x.st (.slice Ab x.bs.length cb) x.dead x.tt) := ht 1 (by omega) (by kernel_rfl)
            refine left_calls 17 #[.pointer none, .agg (stepC x.kind x.key x.st (.slice Ab x.bs.length cb) x.dead x.tt)] (by simp [go_sem, s0, s1]) ((HCN u).out.mono ?_) rfl
            rintro e u' ⟨cs, rfl, ht', ho'⟩
            exact ⟨_, rfl, ⟨cs, rfl, ht'⟩, ho'⟩
          · obtain rfl := Option.some.inj (ho : some _ = some o)
            exact left_load 33 (.tmp 6) (wr.heap.size + 1) 33 _ _ rfl e6 (HB6.out.only hu (fun h => h)) Try.underlying33 rfl info33 rfl rfl
        · intro V' u hu hV' _
          have v0 : V' 0 = .pointer none := hV' 0 (by omega)
          have v1 : V' 1 = .agg (stepC x.kind x.key x.st (.slice Ab x.bs.length cb) x.dead x.tt) := hV' 1 (by omega)
          obtain ⟨cs, v2, htc⟩ : ∃ cs, V' 2 = .agg cs ∧ TAt u cs (ansN x) := hV' 2 (by omega)
          have v3 : V' 3 = .agg (tellC 1 0 0 false (.slice none 0 0) (.slice none 0 0) (.slice none 0 0)) := hV' 3 (by omega)
          change wpList _ _ _ _ (Act.put (Act.put (Act.put (Act.put _ (some 20) (V' 0)) (some 21) (V' 1)) (some 22) (V' 2)) (some 23) (V' 3)) _
          rw [v0, v1, v2, v3]
          simp only [Act.put, List.setIfInBounds_toArray, List.set_cons_zero, List.set_cons_succ]
          simp only [List.drop_succ_cons, List.drop_zero]
          clear hV' v0 v1 v2 v3
          have HAL := Lib.hid (alike_same u cs _ (ansN x) (ansN_fit x) htc (HWT u).out)
          have HU := Lib.hid (HOW.out.trans hu)
          clear hu htc
          go_wp2_with fail
          refine HAL.out.mono ?_; rintro e u2 ⟨rfl, ho2⟩
          have HU2 := Lib.hid (HU.out.trans ho2)
          clear ho2
          go_wp2_with fail
          exact ⟨⟨i + 1, by rw [show ((i + 1 : Nat) : Int) = (i : Int) + 1 by omega], by omega, HU2.out⟩, by simp [intOf]; omega⟩
      · have hkb : (x.kind == 0) = false := beq_eq_false_iff_ne.2 hk
        have hB5 := (Blk.new wr 29 (stepC x.kind x.key x.st (.slice Ab x.bs.length cb) x.dead x.tt)).alloc (.cells (tellC 0 0 0 false (.slice none 0 0) (.slice none 0 0) (.slice none 0 0)) 33)
        have hB6 := Blk.new' (wr.alloc (.cells (stepC x.kind x.key x.st (.slice Ab x.bs.length cb) x.dead x.tt) 29)) 33 (tellC 0 0 0 false (.slice none 0 0) (.slice none 0 0) (.slice none 0 0)) (n := wr.heap.size + 1) (by simp)
        have HOW := Lib.hid ((HO.out.alloc (.cells (stepC x.kind x.key x.st (.slice Ab x.bs.length cb) x.dead x.tt) 29)).alloc (.cells (tellC 0 0 0 false (.slice none 0 0) (.slice none 0 0) (.slice none 0 0)) 33))
        have HB5 := Lib.hid hB5
        have HB6 := Lib.hid hB6
        have HWT := fun u => Lib.hid (show TAt u (tellC 0 0 0 false (.slice none 0 0) (.slice none 0 0) (.slice none 0 0)) (ansN x) by unfold ansN; rw [if_neg HK.out]; exact told_plain u 0 0 0 false)
        clear hk hB5 hB6
        go_upto_region 10 with (fail)
        refine wp_region_head 4 27 (NoT x Ab cb 0) (fun _ => false) rfl (by kernel_rfl) (by kernel_rfl) (NoT_keep _ _ _ _) (fun _ _ _ h => by cases h) ?_ ?_
        · intro i o hi ho a u hu hs ht
          have e3 : a.tmps.getD 3 undef = .pointer none := hs 3 (of_decide_eq_true (by kernel_rfl))
          have e5 : a.tmps.getD 5 undef = .pointer (some ⟨wr.heap.size, 0, none⟩) := hs 5 (of_decide_eq_true (by kernel_rfl))
          have e6 : a.tmps.getD 6 undef = .pointer (some ⟨wr.heap.size + 1, 0, none⟩) := hs 6 (of_decide_eq_true (by kernel_rfl))
          have : i = 0 ∨ i = 1 ∨ i = 2 ∨ i = 3 := by omega
          rcases this with rfl | rfl | rfl | rfl
          · obtain rfl := Option.some.inj (ho : some _ = some o)
            exact left_value (.pointer none) (by simp [go_sem, e3]) rfl rfl
          · obtain rfl := Option.some.inj (ho : some _ = some o)
            exact left_load 29 (.tmp 5) wr.heap.size 29 _ _ rfl e5 (HB5.out.only hu (fun h => h)) Try.underlying29 rfl info29 rfl rfl
          · obtain rfl := Option.some.inj (ho : some _ = some o)
            have s0 : a.tmps.getD 20 undef = .pointer none := ht 0 (by omega) (by kernel_rfl)
            have s1 : a.tmps.getD 21 undef = .agg (stepC x.kind x.key x.st (.slice Ab x.bs.length cb) x.dead x.tt) := ht 1 (by omega) (by kernel_rfl)
            refine left_calls 17 #[.pointer none, .agg (stepC x.kind x.key x.st (.slice Ab x.bs.length cb) x.dead x.tt)] (by simp [go_sem, s0, s1]) ((HCN u).out.mono ?_) rfl
            rintro e u' ⟨cs, rfl, ht', ho'⟩
            exact ⟨_, rfl, ⟨cs, rfl, ht'⟩, ho'⟩
          · obtain rfl := Option.some.inj (ho : some _ = some o)
            exact left_load 33 (.tmp 6) (wr.heap.size + 1) 33 _ _ rfl e6 (HB6.out.only hu (fun h => h)) Try.underlying33 rfl info33 rfl rfl
        · intro V' u hu hV' _
          have v0 : V' 0 = .pointer none := hV' 0 (by omega)
          have v1 : V' 1 = .agg (stepC x.kind x.key x.st (.slice Ab x.bs.length cb) x.dead x.tt) := hV' 1 (by omega)
          obtain ⟨cs, v2, htc⟩ : ∃ cs, V' 2 = .agg cs ∧ TAt u cs (ansN x) := hV' 2 (by omega)
          have v3 : V' 3 = .agg (tellC 0 0 0 false (.slice none 0 0) (.slice none 0 0) (.slice none 0 0)) := hV' 3 (by omega)
          change wpList _ _ _ _ (Act.put (Act.put (Act.put (Act.put _ (some 20) (V' 0)) (some 21) (V' 1)) (some 22) (V' 2)) (some 23) (V' 3)) _
          rw [v0, v1, v2, v3]
          simp only [Act.put, List.setIfInBounds_toArray, List.set_cons_zero, List.set_cons_succ]
          simp only [List.drop_succ_cons, List.drop_zero]
          clear hV' v0 v1 v2 v3
          have HAL := Lib.hid (alike_same u cs _ (ansN x) (ansN_fit x) htc (HWT u).out)
          have HU := Lib.hid (HOW.out.trans hu)
          clear hu htc
          go_wp2_with fail
          refine HAL.out.mono ?_; rintro e u2 ⟨rfl, ho2⟩
          have HU2 := Lib.hid (HU.out.trans ho2)
          clear ho2
          go_wp2_with fail
          exact ⟨⟨i + 1, by rw [show ((i + 1 : Nat) : Int) = (i : Int) + 1 by omega], by omega, HU2.out⟩, by simp [intOf]; omega⟩
    · obtain rfl : i = n := by omega
      go_wp2_with fail
      go_ret
      exact ⟨rfl, HO.out⟩

end Go.Proofs.Ytnonnencdhogiaa
