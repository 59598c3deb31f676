/-
  Layer 14: Apply, refused by the chain; Apply of a store that is not there.
-/
import Derived.Test.YtnonnencdhogiaaS7
namespace Go.Proofs.Ytnonnencdhogiaa
open Go.RowKit
open Cb (ChIs Foot)

set_option maxRecDepth 100000 in
set_option maxHeartbeats 1000000 in
theorem apply_nil (w : World) (key : ByteArray) (st : Int) (v : Value) (dead : Bool) :
    Calls Try.prog 21 #[.pointer none, .agg (verC key st v dead)] w fun e w' => e = .returned (.int .i64 1) ∧ Only NoneOf w w' := by
  have HO := Lib.hid ((Only.refl NoneOf w).alloc (.cells (verC key st v dead) 27))
  go_enter Try.func21, Try.ntmps21
  go_wp2_with fail
  go_ret
  exact ⟨rfl, HO.out⟩

set_option maxRecDepth 100000 in
set_option maxHeartbeats 1000000 in
theorem apply_old (w : World) (s m n : Nat) (D : MD) (C : ByteArray → Option Ch) (live : Int) (V : ByteArray → List Ver) {U : Nat → Prop} (key : ByteArray) (st : Int) (A : Option Addr) (nn cc : Nat) (dead : Bool) (bs : List UInt8)
    (hnn : bs.length = nn) (hby : BytesAt w A bs) (hmay : mayI key.size nn st dead = 0) (h : Sto w s m n D C live V U) (hV : ∀ x ∈ V key, x.bs.length ≤ 4096) (xs : List Ver) (x : Ver) (hx : V key = xs ++ [x]) (hold : st ≤ x.st)
    (hkey : key.size ≤ 255) (hbl : nn ≤ 4096) (hst : 0 ≤ st) :
    Calls Try.prog 21 #[.pointer (some ⟨s, 0, none⟩), .agg (verC key st (.slice A nn cc) dead)] w fun e w' => e = .returned (.int .i64 130) ∧ Only NoneOf w w' := by
  have HM := fun u => Lib.hid (may_is key st A nn cc dead u)
  have HMAY := Lib.hid hmay
  have B3 := Blk.new w 27 (verC key st (.slice A nn cc) dead)
  have HO := Lib.hid ((Only.refl NoneOf w).alloc (.cells (verC key st (.slice A nn cc) dead) 27))
  have hkl : key.size ≤ maxLen := by unfold maxLen; omega
  have HS := Lib.hid h
  have HBY := Lib.hid hby
  have hb3 := B3.lt
  clear hmay
  go_enter Try.func21, Try.ntmps21
  go_wp2_with (refine wpList_load_row rfl 27 (.tmp 3) rfl w.heap.size rfl 27 _ (0, 0) _ B3 Try.underlying27 rfl info27 ?_)
  refine (HM _).out.mono ?_; rintro e w1 ⟨rfl, ho1⟩
  rw [HMAY.out]
  have HO1 := Lib.hid (HO.out.trans ho1)
  have E3 := B3.only ho1 (fun h => h)
  have k0 := E3.cellv 0 rfl
  clear ho1 B3 HM HMAY HO
  go_wp2_with fail
  refine (of_is w1 s m n D C live key hkl (HS.out.keep HO1.out).is).mono ?_; rintro e w1 ⟨rfl, rfl⟩
  obtain ⟨⟨p, vv, ls0⟩, hc⟩ : ∃ c, C key = some c := by
    cases hc : C key with
    | none => have := h.nov key hc; rw [hx] at this; simp at this
    | some c => exact ⟨c, rfl⟩
  obtain ⟨ls, l, xs', x', e1, e2, hst', _, _⟩ := h.last hc
  have hxx : x' = x := by
    have := hx.symm.trans e2
    exact ((List.append_inj' this rfl).2 |> fun h => by simpa using h.symm)
  subst hxx
  simp only at e1
  subst e1
  have hch := (HS.out.keep HO1.out).is.chains key _ hc
  have HCH := Lib.hid hch
  have HLO := Lib.hid (show st ≤ l.stamp by rw [hst']; exact hold)
  rw [hc]
  clear hch hc h hx e2 hst' hold
  simp only [chPtr]
  go_wp2_with fail
  refine (weight_is _ s m n D C live V key hkey (HS.out.keep HO1.out) hV).mono ?_; rintro e W ⟨rfl, ho2⟩
  have hCH := HCH.out.keep ho2
  have E3' := E3.only ho2 (fun h => h)
  have HW := Lib.hid (HO1.out.trans ho2)
  clear ho2 HCH HO1 k0 E3
  have E3 := E3'
  clear E3'
  have HE3 := Lib.hid E3
  have HCHW := Lib.hid hCH
  go_upto_region 10 with (fail)
  refine wp_region_head 9 70 (ApT p w.heap.size st A nn cc dead bs W.heap.size) (fun _ => false) rfl (by kernel_rfl) (by kernel_rfl) (ApT_keep _ _ _ _ _ _ _ _ _) (fun _ _ _ h => by cases h) ?_ ?_
  · intro i o hi ho a u hu hs ht
    have e3 : a.tmps.getD 3 undef = .pointer (some ⟨w.heap.size, 0, none⟩) := hs 3 (of_decide_eq_true (by kernel_rfl))
    have e6 : a.tmps.getD 6 undef = .pointer (some ⟨p, 0, none⟩) := hs 6 (of_decide_eq_true (by kernel_rfl))
    have F3 := HE3.out.only hu (fun h => h)
    have c1 := F3.cellv 1 rfl
    have c2 := F3.cellv 2 rfl
    have c3 := F3.cellv 3 rfl
    have : i = 0 ∨ i = 1 ∨ i = 2 ∨ i = 3 ∨ i = 4 ∨ i = 5 ∨ i = 6 ∨ i = 7 ∨ i = 8 := by omega
    rcases this with rfl | rfl | rfl | rfl | rfl | rfl | rfl | rfl | rfl
    · obtain rfl := Option.some.inj (ho : some _ = some o)
      exact left_value (.pointer (some ⟨p, 0, none⟩)) (by simp [go_sem, e6]) rfl rfl
    · obtain rfl := Option.some.inj (ho : some _ = some o)
      exact left_value (.pointer (some ⟨w.heap.size, 1, none⟩)) (by simp [go_sem, e3]) rfl rfl
    · obtain rfl := Option.some.inj (ho : some _ = some o)
      have s0 : a.tmps.getD 29 undef = .pointer (some ⟨w.heap.size, 1, none⟩) := ht 1 (by omega) (by kernel_rfl)
      exact left_value (.int .i64 st) (by simp [go_sem, s0, c1]) rfl rfl
    · obtain rfl := Option.some.inj (ho : some _ = some o)
      exact left_value (.pointer (some ⟨w.heap.size, 2, none⟩)) (by simp [go_sem, e3]) rfl rfl
    · obtain rfl := Option.some.inj (ho : some _ = some o)
      have s0 : a.tmps.getD 31 undef = .pointer (some ⟨w.heap.size, 2, none⟩) := ht 3 (by omega) (by kernel_rfl)
      exact left_value (.slice A nn cc) (by simp [go_sem, s0, c2]) rfl rfl
    · obtain rfl := Option.some.inj (ho : some _ = some o)
      have s0 : a.tmps.getD 32 undef = .slice A nn cc := ht 4 (by omega) (by kernel_rfl)
      refine left_calls 47 #[.slice A nn cc] (by simp [go_sem, s0]) ((own_is A nn cc bs u hnn (HBY.out.keep (HW.out.trans hu)) (by omega)).mono ?_) rfl
      rintro e u' ⟨v, rfl, hr, ho'⟩
      obtain ⟨A', c', rfl, _⟩ := hr.at
      exact ⟨_, rfl, ⟨A', c', rfl, hr.base hu.size⟩, ho'⟩
    · obtain rfl := Option.some.inj (ho : some _ = some o)
      exact left_value (.pointer (some ⟨w.heap.size, 3, none⟩)) (by simp [go_sem, e3]) rfl rfl
    · obtain rfl := Option.some.inj (ho : some _ = some o)
      have s0 : a.tmps.getD 34 undef = .pointer (some ⟨w.heap.size, 3, none⟩) := ht 6 (by omega) (by kernel_rfl)
      exact left_value (.bool dead) (by simp [go_sem, s0, c3]) rfl rfl
    · obtain rfl := Option.some.inj (ho : some _ = some o)
      have s0 : a.tmps.getD 30 undef = .int .i64 st := ht 2 (by omega) (by kernel_rfl)
      obtain ⟨A', c', s1, hr⟩ : ∃ A' c', a.tmps.getD 33 undef = .slice A' bs.length c' ∧ RowB u W.heap.size (a.tmps.getD 33 undef) bs := ht 5 (by omega) (by kernel_rfl)
      have s2 : a.tmps.getD 35 undef = .bool dead := ht 7 (by omega) (by kernel_rfl)
      rw [s1] at hr
      have t0 : a.tmps[30]?.getD undef = .int .i64 st := by simpa using s0
      have t1 : a.tmps[33]?.getD undef = .slice A' bs.length c' := by simpa using s1
      have t2 : a.tmps[35]?.getD undef = .bool dead := by simpa using s2
      exact left_value (.agg #[.int .i64 st, .slice A' bs.length c', .bool dead]) (by simp [go_sem, t0, t1, t2]) rfl ⟨A', c', rfl, hr⟩
  · intro V' u hu hV' _
    have v0 : V' 0 = .pointer (some ⟨p, 0, none⟩) := hV' 0 (by omega)
    have v1 : V' 1 = .pointer (some ⟨w.heap.size, 1, none⟩) := hV' 1 (by omega)
    have v2 : V' 2 = .int .i64 st := hV' 2 (by omega)
    have v3 : V' 3 = .pointer (some ⟨w.heap.size, 2, none⟩) := hV' 3 (by omega)
    have v4 : V' 4 = .slice A nn cc := hV' 4 (by omega)
    obtain ⟨A5, c5, v5, _⟩ : ∃ A' c', V' 5 = .slice A' bs.length c' ∧ RowB u W.heap.size (V' 5) bs := hV' 5 (by omega)
    have v6 : V' 6 = .pointer (some ⟨w.heap.size, 3, none⟩) := hV' 6 (by omega)
    have v7 : V' 7 = .bool dead := hV' 7 (by omega)
    obtain ⟨A', c', v8, hr⟩ : ∃ A' c', V' 8 = .agg #[.int .i64 st, .slice A' bs.length c', .bool dead] ∧ RowB u W.heap.size (.slice A' bs.length c') bs := hV' 8 (by omega)
    change wpList _ _ _ _ (Act.put (Act.put (Act.put (Act.put (Act.put (Act.put (Act.put (Act.put (Act.put _ (some 28) (V' 0)) (some 29) (V' 1)) (some 30) (V' 2)) (some 31) (V' 3)) (some 32) (V' 4)) (some 33) (V' 5)) (some 34) (V' 6)) (some 35) (V' 7)) (some 36) (V' 8)) _
    rw [v0, v1, v2, v3, v4, v5, v6, v7, v8]
    simp only [Act.put, List.setIfInBounds_toArray, List.set_cons_zero, List.set_cons_succ]
    simp only [List.drop_succ_cons, List.drop_zero]
    have HC2 := Lib.hid (HCHW.out.keep hu)
    have HU := Lib.hid (HW.out.trans hu)
    clear hr hu hV' v0 v1 v2 v3 v4 v5 v6 v7 v8
    go_wp2_with fail
    refine (Cb.add_old u p vv ls l st (A', nn, c') dead HC2.out hst HLO.out).mono ?_; rintro e w4 ⟨rfl, ho4⟩
    have HO4 := Lib.hid (HU.out.trans ho4)
    clear ho4
    go_wp2_with fail
    go_ret
    exact ⟨rfl, HO4.out⟩

end Go.Proofs.Ytnonnencdhogiaa
