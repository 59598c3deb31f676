/-
  Layer 4: Decode, walked.
-/
import Derived.Test.YtimoenpfnaaehaaOD
namespace Go.Proofs.Ytimoenpfnaaehaa
open Go.RowKit

theorem text_empty {q : ByteArray} (h : q.data.toList = []) : q.toList.isEmpty = true ∧ (!q.toList.isEmpty) = false := by
  rw [ByteArray.toList_eq, h]
  exact ⟨rfl, rfl⟩
theorem text_cons {q : ByteArray} {c : UInt8} {l : List UInt8} (h : q.data.toList = c :: l) : q.toList.isEmpty = false ∧ (!q.toList.isEmpty) = true := by
  rw [ByteArray.toList_eq, h]
  exact ⟨rfl, rfl⟩

theorem size_mk (r : List UInt8) : ByteArray.size ⟨r.toArray⟩ = r.length := by
  show r.toArray.size = _
  simp
theorem RowI.ge {w : World} {B : Nat} {v : Value} {xs : List It} (h : RowI w B v xs) {g : Nat} (hg : v.ownBlock = some g) : B ≤ g := by
  rcases h.2 with ⟨rfl, _⟩ | ⟨g', cap, cur, rfl, hb, _⟩
  · simp [Value.ownBlock] at hg
  · have : g' = g := by simpa [Value.ownBlock] using hg
    omega
theorem str_same (a : ByteArray) : (a.toList == a.toList) = true ∧ (a.toList != a.toList) = false := by simp
theorem str_other {a b : ByteArray} (h : a ≠ b) : (a.toList == b.toList) = false ∧ (a.toList != b.toList) = true := by
  have : a.toList ≠ b.toList := by
    intro e
    rw [ByteArray.toList_eq, ByteArray.toList_eq] at e
    exact h (ByteArray.ext (Array.toList_inj.1 e))
  simp [this]

set_option maxRecDepth 100000 in
set_option maxHeartbeats 4000000 in
theorem decode_is (s : ByteArray) (w : World) (hs : s.size ≤ 1073741824) : Calls Try.prog 31 #[.string s] w (DecPost (decL s) w) := by
  obtain ⟨R, HRS⟩ : ∃ R, Hid (decL s = R) := ⟨_, Lib.hid rfl⟩
  rw [HRS.out]
  go_enter Try.func31, Try.ntmps31
  go_wp2_with fail
  go_loopw [4, 5] (fun v0 r wr => DecRel s w v0 r wr) (fun _ r _ => sizeV r)
  case atStart => exact ⟨s, [], s.size, rfl, Nat.le_refl _, by simp, rowI_nil _ _, Only.refl _ _, fun x hx => (by simp at hx), by simp⟩
  case round =>
    obtain ⟨q, done, n, rfl, hqn, hds, hro, ho, hwf, hu⟩ := hrel
    have HRo := Lib.hid hro
    have HO := Lib.hid ho
    have HWF := Lib.hid hwf
    have HU := Lib.hid hu
    clear hro ho hwf hu
    have hws := HO.out.size
    have hql : q.data.toList.length = q.size := by simp
    rcases hL : q.data.toList with _ | ⟨c, l⟩
    · obtain ⟨he, he'⟩ := text_empty hL
      have HX := Lib.hid (show unall s.size s.data.toList = some done by rw [HU.out, hL]; cases n <;> simp [unall])
      have HA := HRo.out.at
      obtain ⟨A, cap, hv, hA⟩ := HA
      have HA := Lib.hid hA
      have hdm : done.length ≤ 9223372036854775807 := by omega
      obtain ⟨m, hm⟩ : ∃ m, done.length = m := ⟨_, rfl⟩
      have HE := fun u hu => Lib.hid (encode_is u A m cap done hm (by omega) hu HWF.out)
      rw [hm] at hv
      subst hv
      have HM := Lib.hid hm
      obtain ⟨⟨t, ec⟩, hte⟩ : ∃ p, encL done = p := ⟨_, rfl⟩
      have HY := Lib.hid (show R = if ec = 0 ∧ t = s then some done else none by
        rw [← HRS.out]
        unfold decL
        rw [HX.out]
        show (if (encL done).2 = 0 ∧ (encL done).1 = s then some done else none) = _
        rw [hte])
      simp only [hte] at HE
      clear hL hA hql hm hdm hte
      go_wp2_with fail
      refine (HE _ HA.out).out.mono ?_; rintro e w1 ⟨rfl, ho1⟩
      have HR1 := Lib.hid (HRo.out.keep ho1)
      have HO1 := Lib.hid (HO.out.trans ho1)
      clear ho1 HE
      by_cases hc : ec = 0
      · subst hc
        by_cases ht : t = s
        · subst ht
          have HZ := Lib.hid (show R = some done by rw [HY.out, if_pos ⟨rfl, rfl⟩])
          obtain ⟨g1, g2⟩ := str_same t
          go_wp2_with fail
          go_ret2
          rw [HZ.out]
          exact ⟨⟨_, rfl, HR1.out, HWF.out⟩, HO1.out⟩
        · have HZ := Lib.hid (show R = none by rw [HY.out, if_neg (fun h => ht h.2)])
          obtain ⟨g1, g2⟩ := str_other ht
          clear ht
          go_wp2_with fail
          go_ret2
          rw [HZ.out]
          exact ⟨rfl, HO1.out⟩
      · have HZ := Lib.hid (show R = none by rw [HY.out, if_neg (fun h => hc h.1)])
        have g1 : (ec != 0) = true := by simpa using hc
        clear hc
        go_wp2_with fail
        go_ret2
        rw [HZ.out]
        exact ⟨rfl, HO1.out⟩
    · obtain ⟨he, he'⟩ := text_cons hL
      have hq0 : 0 < q.size := by rw [← hql, hL]; simp
      have hqc : q[0] = c := by
        have := getD_get q 0 hq0
        rw [← this, hL]
        rfl
      have hqe : (q.extract 1 q.size).data.toList = l := by
        rw [extract_end, hL]
        rfl
      have HI := fun u => Lib.hid (item_any q u hq0 (by omega))
      simp only [hqc, hqe] at HI
      have hll : l.length + 1 = q.size := by rw [← hql, hL]; simp
      have HL := Lib.hid hL
      clear hL hql hqc hqe
      rcases n with _ | n
      · omega
      cases hX : unitem c l with
      | none =>
        have HX := Lib.hid (show R = none by
          rw [← HRS.out]
          unfold decL
          rw [HU.out, HL.out]
          simp [unall, hX])
        simp only [hX] at HI
        clear hX
        go_wp2_with fail
        refine (HI _).out.mono ?_; rintro e w1 ⟨⟨x, t, rfl⟩, ho1⟩
        have hB := Blk.new w1 29 itZ
        go_wp2_with (refine wpList_store_row rfl 29 (.tmp 6) (.tmp 17) rfl w1.heap.size x.c rfl rfl 29 itZ hB info29 rfl (one_itC _ _ _ _ _ _ _) ?_)
        go_ret2
        rw [HX.out]
        exact ⟨rfl, ((HO.out.trans ho1).alloc _).row (.inr (by have := HO.out.size; have := ho1.size; omega)) _⟩
      | some y =>
        obtain ⟨x, r⟩ := y
        simp only [hX] at HI
        have hok := unitem_ok hX
        have HX := Lib.hid (show unall s.size s.data.toList = (unall n r).map (done ++ [x.clean] ++ ·) by
          rw [HU.out, HL.out]
          simp only [unall, hX]
          cases unall n r <;> simp)
        clear hX
        have HC := fun u => Lib.hid (clean_item x u)
        have hxw := Lib.hid (hok.2 (by omega))
        have hrl := hok.1
        clear hok
        go_wp2_with fail
        refine (HI _).out.mono ?_; rintro e w1 ⟨rfl, ho1⟩
        have hs1 := ho1.size
        have hB := Blk.new w1 29 itZ
        have E6 := hB.row x.c
        have HO1 := Lib.hid (((HO.out.trans ho1).alloc (.cells itZ 29)).row (b := w1.heap.size) (.inr (by omega)) x.c)
        have HR1 := Lib.hid (HRo.out.keep ((ho1.alloc (.cells itZ 29)).row (b := w1.heap.size) (.inr (by omega)) x.c))
        clear ho1
        go_wp2_with (first
          | (refine wpList_store_row rfl 29 (.tmp 6) (.tmp 17) rfl w1.heap.size x.c rfl rfl 29 itZ hB info29 rfl (one_itC _ _ _ _ _ _ _) ?_; generalize World.setRow (w1.alloc _) w1.heap.size x.c = W2 at *)
          | (refine wpList_load_row rfl 29 (.tmp 6) rfl w1.heap.size rfl 29 _ (0, 0) _ E6 Try.underlying29 rfl info29 ?_))
        refine (HC _).out.mono ?_; rintro e w3 ⟨rfl, ho3⟩
        have HO3 := Lib.hid (HO1.out.trans ho3)
        have HR3 := Lib.hid (HR1.out.keep ho3)
        have hN := Blk.new w3 29 x.clean.c
        have hs3 := HO3.out.size
        clear ho3
        go_wp2_with (at_builtin; refine app_item rfl (.tmp 22) (.tmp 25) rfl w.heap.size _ done rfl (HR3.out.keep ((Only.refl NoneOf w3).alloc _)) w3.heap.size 1 x.clean rfl hN (by omega) (by simp; omega) ?_; intro v4 w4 g1 g2 g3)
        go_roundw
        case rel =>
          refine ⟨⟨r.toArray⟩, done ++ [x.clean], n, rfl, by rw [size_mk]; omega, by rw [size_mk, List.length_append, List.length_singleton]; omega, g1, ?_, ?_, by simpa using HX.out⟩
          · refine (HO3.out.alloc _).step g2 (fun k hk hh => ?_)
            have := HR3.out.ge hh
            omega
          · intro z hz
            rcases List.mem_append.1 hz with hz | hz
            · exact HWF.out z hz
            · rw [List.mem_singleton.1 hz]; exact clean_wf hxw.out
        case measure => show ByteArray.size ⟨r.toArray⟩ < q.size; rw [size_mk]; omega

end Go.Proofs.Ytimoenpfnaaehaa
