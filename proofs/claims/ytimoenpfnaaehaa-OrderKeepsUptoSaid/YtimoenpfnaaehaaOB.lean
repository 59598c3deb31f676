/-
  Layer 4: a text taken off a text, walked.
-/
import Derived.Test.YtimoenpfnaaehaaOA
namespace Go.Proofs.Ytimoenpfnaaehaa
open Go.RowKit

theorem drop_get (s : ByteArray) (k : Nat) (h : k < s.size) : s.data.toList.drop k = s[k] :: s.data.toList.drop (k + 1) := by
  rw [List.drop_eq_getElem_cons (by simpa using h)]
  rfl
theorem untextL_cons {c : UInt8} {l : List UInt8} (h : c ≠ 0) : untextL (c :: l) = (untextL l).map fun (t, r) => (c :: t, r) := by
  cases l <;> simp [untextL, h]
theorem map_cons (done : List UInt8) (c : UInt8) (o : Option (List UInt8 × List UInt8)) : (o.map fun (t, r) => (c :: t, r)).map (fun (t, r) => (done ++ t, r)) = o.map fun (t, r) => (done ++ [c] ++ t, r) := by
  cases o with
  | none => rfl
  | some x => obtain ⟨t, r⟩ := x; simp
theorem nz {c d : UInt8} (h : c ≠ d) : ((c.toNat : Int) == (d.toNat : Int)) = false ∧ ((c.toNat : Int) != (d.toNat : Int)) = true := by
  have : ¬ (c.toNat : Int) = d.toNat := fun e => h (UInt8.toNat_inj.1 (by omega))
  constructor
  · simp [this]
  · simp [this]

set_option maxRecDepth 100000 in
set_option maxHeartbeats 4000000 in
theorem takeText_is (s : ByteArray) (w : World) (hs : s.size ≤ 1099511627776) : Calls Try.prog 72 #[.string s] w (TextPost (untextL s.data.toList) w) := by
  obtain ⟨R, HRS⟩ : ∃ R, Hid (untextL s.data.toList = R) := ⟨_, Lib.hid rfl⟩
  rw [HRS.out]
  go_enter Try.func72, Try.ntmps72
  go_wp2_with fail
  go_loopw [5, 6] (fun v0 i wr => TTRel s w v0 i wr) (fun _ i _ => s.size - (intOf i).toNat)
  case atStart => exact ⟨0, Nat.zero_le _, rfl, [], Nat.le_refl _, ⟨rowB_nil _ _, Only.refl _ _, fun k h => .inl h⟩, by simp⟩
  case round =>
    obtain ⟨k, hk, rfl, done, hdl, hw, hu⟩ := hrel
    have HW := Lib.hid hw
    have HU := Lib.hid hu
    clear hw hu
    have hws := HW.out.none.size
    by_cases hlt : k < s.size
    · have hN := Blk.new wr 5 #[.int .u8 (s[k].toNat : Int)]
      have HD := Lib.hid (drop_get s k hlt)
      by_cases hc : s[k] = 0
      · have h0 : ((s[k].toNat : Int) != 0) = false := by rw [hc]; rfl
        have HC := Lib.hid hc
        clear hc
        by_cases hend : k + 1 = s.size
        · have he : (((k : Int) + 1) == (s.size : Int)) = true := by rw [beq_iff_eq]; omega
          have HX := Lib.hid (show R = none by
            rw [← HRS.out, HU.out, HD.out, HC.out]
            have : s.data.toList.drop (k + 1) = [] := List.drop_of_length_le (by simp; omega)
            rw [this]
            rfl)
          go_wp2_with (at_builtin; refine app_bytes rfl (.tmp 13) (.tmp 17) rfl w.heap.size _ done rfl (HW.out.1.alloc' _) wr.heap.size 1 1 [s[k]] _ rfl (by decide) rfl rfl hN (by omega) (by simp; omega) ?_; intro v2 w2 g1 g2 g3; have HG := Lib.hid (HW.out.step ((Only.refl NoneOf wr).alloc _) g1 g2 g3); clear g1 g2 g3)
          go_ret3
          rw [HX.out]
          exact ⟨rfl, HG.out.none⟩
        · have he : (((k : Int) + 1) == (s.size : Int)) = false := by rw [beq_eq_false_iff_ne]; omega
          have hk1 : k + 1 < s.size := by omega
          have HD1 := Lib.hid (drop_get s (k + 1) hk1)
          by_cases h1 : s[k + 1] = 1
          · have q1 : ((s[k + 1].toNat : Int) != 1) = false := by rw [h1]; rfl
            have q2 : ((s[k + 1].toNat : Int) == 1) = true := by rw [h1]; rfl
            have HX := Lib.hid (show R = some (done, s.data.toList.drop (k + 2)) by
              rw [← HRS.out, HU.out, HD.out, HC.out, HD1.out, h1]
              simp [untextL])
            clear h1 hend
            have hle : k + 2 ≤ s.size := by omega
            have HXE := Lib.hid (extract_end s (k + 2))
            go_wp2_with (at_builtin; refine app_bytes rfl (.tmp 13) (.tmp 17) rfl w.heap.size _ done rfl (HW.out.1.alloc' _) wr.heap.size 1 1 [s[k]] _ rfl (by decide) rfl rfl hN (by omega) (by simp; omega) ?_; intro v2 w2 g1 g2 g3; have HG := Lib.hid (HW.out.step ((Only.refl NoneOf wr).alloc _) g1 g2 g3); clear g1 g2 g3; have HF := row_form (done.length + 1) HG.out.1 (by simp) (by simp); obtain ⟨g, cap, hv, hcap, hcm, hcs⟩ := HF; subst hv; have hcv := cut_string (cap := cap) (w := w2.drew) hcs; clear hcs)
            have hc2 : done.length ≤ cap := by omega
            go_region
            go_wp2_with fail
            go_ret3
            rw [HX.out]
            refine ⟨?_, HG.out.none.drew⟩
            show Ending.returned (.tuple #[.string ⟨done.toArray⟩, .string (s.extract (k + 2) s.size), .bool true]) = .returned (.tuple #[.string ⟨done.toArray⟩, .string ⟨(s.data.toList.drop (k + 2)).toArray⟩, .bool true])
            rw [HXE.out]
          · obtain ⟨_, q1⟩ := nz (c := s[k + 1]) (d := 1) h1
            by_cases h2 : s[k + 1] = 255
            · have q2 : ((s[k + 1].toNat : Int) != 255) = false := by rw [h2]; rfl
              have q3 : ((s[k + 1].toNat : Int) == 1) = false := by rw [h2]; rfl
              have HX := Lib.hid (show untextL s.data.toList = (untextL (s.data.toList.drop (k + 2))).map fun (t, r) => (done ++ [s[k]] ++ t, r) by
                rw [HU.out, HD.out, HC.out, HD1.out, h2, ← map_cons]
                simp [untextL])
              have q1' : ((s[k + 1].toNat : Int) != 1) = true := q1
              clear h1 h2 hend
              go_wp2_with (at_builtin; refine app_bytes rfl (.tmp 13) (.tmp 17) rfl w.heap.size _ done rfl (HW.out.1.alloc' _) wr.heap.size 1 1 [s[k]] _ rfl (by decide) rfl rfl hN (by omega) (by simp; omega) ?_; intro v2 w2 g1 g2 g3; have HG := Lib.hid (HW.out.step ((Only.refl NoneOf wr).alloc _) g1 g2 g3); clear g1 g2 g3)
              go_roundw
              case rel => exact ⟨k + 2, by omega, by go_num, done ++ [s[k]], by simp; omega, HG.out, HX.out⟩
              case measure => simp [intOf]; omega
            · obtain ⟨_, q2⟩ := nz (c := s[k + 1]) (d := 255) h2
              have HX := Lib.hid (show R = none by
                rw [← HRS.out, HU.out, HD.out, HC.out, HD1.out]
                simp [untextL, h1, h2])
              have q1' : ((s[k + 1].toNat : Int) != 1) = true := q1
              have q2' : ((s[k + 1].toNat : Int) != 255) = true := q2
              clear h1 h2 hend
              go_wp2_with (at_builtin; refine app_bytes rfl (.tmp 13) (.tmp 17) rfl w.heap.size _ done rfl (HW.out.1.alloc' _) wr.heap.size 1 1 [s[k]] _ rfl (by decide) rfl rfl hN (by omega) (by simp; omega) ?_; intro v2 w2 g1 g2 g3; have HG := Lib.hid (HW.out.step ((Only.refl NoneOf wr).alloc _) g1 g2 g3); clear g1 g2 g3)
              go_ret3
              rw [HX.out]
              exact ⟨rfl, HG.out.none⟩
      · obtain ⟨_, h0⟩ := nz (c := s[k]) (d := 0) hc
        have h0' : ((s[k].toNat : Int) != 0) = true := h0
        have HX := Lib.hid (show untextL s.data.toList = (untextL (s.data.toList.drop (k + 1))).map fun (t, r) => (done ++ [s[k]] ++ t, r) by
          rw [HU.out, HD.out, ← map_cons]
          rw [untextL_cons hc])
        clear hc
        go_wp2_with (at_builtin; refine app_bytes rfl (.tmp 13) (.tmp 17) rfl w.heap.size _ done rfl (HW.out.1.alloc' _) wr.heap.size 1 1 [s[k]] _ rfl (by decide) rfl rfl hN (by omega) (by simp; omega) ?_; intro v2 w2 g1 g2 g3; have HG := Lib.hid (HW.out.step ((Only.refl NoneOf wr).alloc _) g1 g2 g3); clear g1 g2 g3)
        go_roundw
        case rel => exact ⟨k + 1, by omega, by go_num, done ++ [s[k]], by simp; omega, HG.out, HX.out⟩
        case measure => simp [intOf]; omega
    · obtain rfl : k = s.size := by omega
      have HX := Lib.hid (show R = none by
        rw [← HRS.out, HU.out]
        have : s.data.toList.drop s.size = [] := List.drop_of_length_le (by simp)
        rw [this]
        rfl)
      go_wp2_with fail
      go_ret3
      rw [HX.out]
      exact ⟨rfl, HW.out.none⟩

end Go.Proofs.Ytimoenpfnaaehaa
