/-
  Layer 4: the reference's Encode.
-/
import Derived.Test.YtimoenpfnaaehaaOM1
import Derived.Test.YtimoenpfnaaehaaOK2
namespace Go.Proofs.Ytimoenpfnaaehaa
open Go.RowKit

abbrev rwZ : Array Value := rwC 0 false 0 0 0 0 ⟨#[]⟩
abbrev It.whole (x : It) : List UInt8 := UInt8.ofNat x.k.toNat :: x.body

def rbytes (xs : List It) : List UInt8 := xs.flatMap It.whole
theorem rbytes_snoc (xs : List It) (x : It) : rbytes (xs ++ [x]) = rbytes xs ++ x.whole := by simp [rbytes]
theorem rbytes_ok : ∀ {xs : List It}, xs.all It.ok = true → rbytes xs = bytesOf xs
  | [], _ => rfl
  | x :: xs, h => by
    simp only [List.all_cons, Bool.and_eq_true] at h
    have ih := rbytes_ok h.2
    simp only [rbytes, bytesOf, List.flatMap_cons] at ih ⊢
    rw [ih, clean_body h.1]
theorem rbytes_few {xs : List It} {k : Nat} (hk : k ≤ 64) (ho : (xs.take k).all It.ok = true) (h : ∀ x ∈ xs, x.Wf) : (rbytes (xs.take k)).length ≤ 137438956800 := by
  rw [rbytes_ok ho]
  exact few_bytes hk h

theorem int_add (n : Int) (h0 : -9223372036854775808 ≤ n) (h1 : n ≤ 9223372036854775807) : IntKind.u64.wrap (IntKind.u64.wrap n + 9223372036854775808) = (((n + 9223372036854775808).toNat : Nat) : Int) := by
  simp only [IntKind.wrap_u64]
  omega

def REncRel (w : World) (xs : List It) (n : Nat) (v0 i : Value) (wr : World) : Prop :=
  ∃ k : Nat, k ≤ n ∧ i = .int .i64 k ∧ (xs.take k).all It.ok = true ∧ Went w.heap.size nilS w v0 (rbytes (xs.take k)) wr

def InRel (B b : Nat) (w : World) (c : Array Value) (l : List UInt8) (s : ByteArray) (v0 i : Value) (wr : World) : Prop :=
  ∃ k : Nat, k ≤ s.size ∧ i = .int .i64 k ∧ Went B nilS w v0 (l ++ escT (s.data.toList.take k)) wr ∧ Blk wr b 32 c ∧ v0.ownBlock ≠ some b

set_option maxHeartbeats 400000 in
theorem rencode_large (w : World) (A : Option Addr) (n cap : Nat) (h : 64 < n) (hn : n ≤ 9223372036854775807) : Calls Try.prog 29 #[.slice A n cap] w (EncPost (⟨#[]⟩, 3) w) := by
  go_enter Try.func29, Try.ntmps29
  go_wp2_with fail
  go_ret2
  exact ⟨rfl, Only.refl _ _⟩

set_option maxRecDepth 100000 in
set_option maxHeartbeats 8000000 in
theorem rencode_fits (w : World) (A : Option Addr) (n cap : Nat) (xs : List It) (hn : xs.length = n) (h64 : n ≤ 64) (hA : RowsAt w A 7 (xs.map fun x => x.r.toList)) (hwf : ∀ x ∈ xs, x.Wf) :
    Calls Try.prog 29 #[.slice A n cap] w (EncPost (if xs.all It.ok then (⟨(bytesOf xs).toArray⟩, 0) else (⟨#[]⟩, 40)) w) := by
  have HN := Lib.hid hn
  have HA := Lib.hid hA
  have HF := Lib.hid hwf
  clear hn hA hwf
  obtain ⟨R, HRS⟩ : ∃ R, Hid ((if xs.all It.ok then ((⟨(bytesOf xs).toArray⟩ : ByteArray), (0 : Int)) else (⟨#[]⟩, 40)) = R) := ⟨_, Lib.hid rfl⟩
  rw [HRS.out]
  go_enter Try.func29, Try.ntmps29
  go_wp2_with fail
  go_loopw [4, 5] (fun v0 i wr => REncRel w xs n v0 i wr) (fun _ i _ => n - (intOf i).toNat)
  case atStart => exact ⟨0, Nat.zero_le _, rfl, rfl, rowB_nil _ _, Only.refl _ _, fun k h => .inl h⟩
  case round =>
    obtain ⟨k, hk, rfl, hall, hw⟩ := hrel
    have HW0 := Lib.hid hw
    have HAL := Lib.hid hall
    have hLl : (rbytes (xs.take k)).length ≤ 137438956800 := rbytes_few (by omega) hall HF.out
    clear hw hall
    have hws := HW0.out.none.size
    by_cases hlt : k < n
    · obtain ⟨X, HX⟩ : ∃ X, Hid (xs[k]? = some X) := ⟨xs[k]'(by rw [HN.out]; exact hlt), Lib.hid (List.getElem?_eq_getElem _)⟩
      have hwfX : X.Wf := HF.out X (List.mem_of_getElem? HX.out)
      obtain ⟨g, off, hAe, hg, hc⟩ := (HA.out.keep HW0.out.none) k X.r.toList (by rw [List.getElem?_map, HX.out]; rfl)
      subst hAe
      have HTK := Lib.hid (show xs.take (k + 1) = xs.take k ++ [X] by rw [List.take_add_one, HX.out]; rfl)
      have hv6 : u4.ownBlock ≠ some wr.heap.size := fun h => by have := HW0.out.1.lt h; omega
      have HO1 := Lib.hid (((Only.refl NoneOf wr).alloc (.cells rwZ 32)).row (b := wr.heap.size) (.inr (Nat.le_refl _)) X.r)
      have E0 := (Blk.new wr 32 rwZ).row X.r
      have HC := fun u => Lib.hid (rcheck_is X hwfX.f hwfX.re hwfX.im u)
      have HEND := Lib.hid (show rbytes (xs.take (k + 1)) = rbytes (xs.take k) ++ X.whole by rw [HTK.out, rbytes_snoc])
      have HALL := fun h : X.ok = true => Lib.hid (show (xs.take (k + 1)).all It.ok = true by rw [HTK.out, List.all_append, HAL.out]; simp [h])
      have HNO := fun h : X.ok = false => Lib.hid (show R = (⟨#[]⟩, 40) by
        rw [← HRS.out, if_neg]
        intro ha
        have := List.all_eq_true.1 ha X (List.mem_of_getElem? HX.out)
        rw [h] at this
        cases this)
      clear HAL HRS HA HF HX
      have HWX := Lib.hid hwfX
      clear hwfX
      generalize hLg : rbytes (xs.take k) = L at *
      clear hLg
      go_wp2_with (first
        | (refine wpList_load_mid rfl 32 (.tmp 19) rfl g (off + k * 7) rfl X.r.toList _ hc Try.underlying32 rfl info32 ?_)
        | (refine wpList_store_row rfl 32 (.tmp 6) (.tmp 20) rfl wr.heap.size X.r rfl rfl 32 rwZ (Blk.new wr 32 rwZ) info32 rfl (one_rwC _ _ _ _ _ _ _) ?_; generalize World.setRow _ wr.heap.size X.r = W1 at *)
        | (refine wpList_load_row rfl 32 (.tmp 6) rfl wr.heap.size rfl 32 _ (0, 0) _ E0 Try.underlying32 rfl info32 ?_))
      refine (HC _).out.mono ?_; rintro e w2 ⟨rfl, ho2⟩
      have E1 := E0.only ho2 (fun h => h)
      have HW2 := Lib.hid ((HW0.out.keep HO1.out).keep ho2)
      have hl2 := E1.lt
      clear ho2 E0 HO1 HW0 hc
      cases hok : X.ok
      · have HR := HNO hok
        clear HNO HALL hok
        go_wp2_with fail
        go_ret2
        exact ⟨by rw [HR.out]; rfl, HW2.out.none⟩
      · have HALL' := HALL hok
        have hkk := ok_kind hok
        clear HNO hok HALL HC
        have HALL := HALL'
        clear HALL'
        obtain ⟨k', b, n', f, re, im, t⟩ := X
        obtain ⟨hyk0, hyk1, hyn0, hyn1, hyf, hyre, hyim, hyt⟩ := HWX.out
        simp only at hyn0 hyn1 hyf hyre hyim hyt hkk
        clear hyk0 hyk1 HWX
        obtain ⟨c0, c1, c2, c3, c4, c5, c6⟩ := blk7 E1
        have : k' = 1 ∨ k' = 2 ∨ k' = 3 ∨ k' = 4 ∨ k' = 5 ∨ k' = 6 := by omega
        clear hkk
        rcases this with rfl | rfl | rfl | rfl | rfl | rfl
        · have hN := Blk.new w2 5 #[.int .u8 1]
          go_wp2_with (at_builtin; refine app_bytes rfl (.tmp 24) (.tmp 28) rfl w.heap.size _ L rfl (HW2.out.1.alloc' _) w2.heap.size 1 1 [1] _ rfl (by decide) rfl rfl hN (by omega) (by simp; omega) ?_; intro v4 w4 g1 g2 g3; have HG := Lib.hid (HW2.out.step ((Only.refl NoneOf w2).alloc _) g1 g2 g3); have hv4 := own_ne g3 hv6 (by simp; omega); have E4 := (E1.alloc (.cells #[.int .u8 1] 5)).only g2 (fun hh => hv6 hh); clear c0 c1 c2 c3 c4 c5 c6 E1; obtain ⟨c0, c1, c2, c3, c4, c5, c6⟩ := blk7 E4; have hs4 := size_grow g2; clear g1 g2 g3)
          have HZ := Lib.hid (show Went w.heap.size nilS w _ (L ++ It.whole ⟨1, b, n', f, re, im, t⟩) _ from by simpa [It.whole, It.body] using HG.out)
          go_roundw
          case rel => exact ⟨k + 1, by omega, by go_num, HALL.out, by rw [HEND.out]; exact HZ.out⟩
          case measure => simp [intOf]; omega
        · cases b
          · have hN := Blk.new w2 5 #[.int .u8 2]
            go_wp2_with (first
              | (at_builtin; refine app_bytes rfl (.tmp 24) (.tmp 28) rfl w.heap.size _ L rfl (HW2.out.1.alloc' _) w2.heap.size 1 1 [2] _ rfl (by decide) rfl rfl hN (by omega) (by simp; omega) ?_; intro v4 w4 g1 g2 g3; have HG := Lib.hid (HW2.out.step ((Only.refl NoneOf w2).alloc _) g1 g2 g3); have hv4 := own_ne g3 hv6 (by simp; omega); have E4 := (E1.alloc (.cells #[.int .u8 2] 5)).only g2 (fun hh => hv6 hh); clear c0 c1 c2 c3 c4 c5 c6 E1; obtain ⟨c0, c1, c2, c3, c4, c5, c6⟩ := blk7 E4; have hs4 := size_grow g2; clear g1 g2 g3; have hN2 := Blk.new w4 5 #[.int .u8 0])
              | (at_builtin; refine app_bytes rfl (.tmp 39) (.tmp 40) rfl w.heap.size _ (L ++ [2]) rfl (HG.out.1.alloc' _) w4.heap.size 1 1 [0] _ rfl (by decide) rfl rfl hN2 (by simp; omega) (by simp; omega) ?_; intro v5 w5 g1 g2 g3; have HJ := Lib.hid (HG.out.step ((Only.refl NoneOf w4).alloc _) g1 g2 g3); clear g1 g2 g3))
            have HZ := Lib.hid (show Went w.heap.size nilS w _ (L ++ It.whole ⟨2, false, n', f, re, im, t⟩) _ from by simpa [It.whole, It.body] using HJ.out)
            go_roundw
            case rel => exact ⟨k + 1, by omega, by go_num, HALL.out, by rw [HEND.out]; exact HZ.out⟩
            case measure => simp [intOf]; omega
          · have hN := Blk.new w2 5 #[.int .u8 2]
            go_wp2_with (first
              | (at_builtin; refine app_bytes rfl (.tmp 24) (.tmp 28) rfl w.heap.size _ L rfl (HW2.out.1.alloc' _) w2.heap.size 1 1 [2] _ rfl (by decide) rfl rfl hN (by omega) (by simp; omega) ?_; intro v4 w4 g1 g2 g3; have HG := Lib.hid (HW2.out.step ((Only.refl NoneOf w2).alloc _) g1 g2 g3); have hv4 := own_ne g3 hv6 (by simp; omega); have E4 := (E1.alloc (.cells #[.int .u8 2] 5)).only g2 (fun hh => hv6 hh); clear c0 c1 c2 c3 c4 c5 c6 E1; obtain ⟨c0, c1, c2, c3, c4, c5, c6⟩ := blk7 E4; have hs4 := size_grow g2; clear g1 g2 g3; have hN2 := Blk.new w4 5 #[.int .u8 1])
              | (at_builtin; refine app_bytes rfl (.tmp 36) (.tmp 37) rfl w.heap.size _ (L ++ [2]) rfl (HG.out.1.alloc' _) w4.heap.size 1 1 [1] _ rfl (by decide) rfl rfl hN2 (by simp; omega) (by simp; omega) ?_; intro v5 w5 g1 g2 g3; have HJ := Lib.hid (HG.out.step ((Only.refl NoneOf w4).alloc _) g1 g2 g3); clear g1 g2 g3))
            have HZ := Lib.hid (show Went w.heap.size nilS w _ (L ++ It.whole ⟨2, true, n', f, re, im, t⟩) _ from by simpa [It.whole, It.body] using HJ.out)
            go_roundw
            case rel => exact ⟨k + 1, by omega, by go_num, HALL.out, by rw [HEND.out]; exact HZ.out⟩
            case measure => simp [intOf]; omega
        · have HU := Lib.hid (int_add n' hyn0 hyn1)
          have hN := Blk.new w2 5 #[.int .u8 3]
          go_wp2_with (at_builtin; refine app_bytes rfl (.tmp 24) (.tmp 28) rfl w.heap.size _ L rfl (HW2.out.1.alloc' _) w2.heap.size 1 1 [3] _ rfl (by decide) rfl rfl hN (by omega) (by simp; omega) ?_; intro v4 w4 g1 g2 g3; have HG := Lib.hid (HW2.out.step ((Only.refl NoneOf w2).alloc _) g1 g2 g3); have hv4 := own_ne g3 hv6 (by simp; omega); have E4 := (E1.alloc (.cells #[.int .u8 3] 5)).only g2 (fun hh => hv6 hh); clear c0 c1 c2 c3 c4 c5 c6 E1; obtain ⟨c0, c1, c2, c3, c4, c5, c6⟩ := blk7 E4; have hs4 := size_grow g2; clear g1 g2 g3)
          rw [HU.out]
          refine (eight_is _ w.heap.size _ (L ++ [3]) _ HG.out.1 (by simp; omega) (by omega)).mono ?_; rintro e w5 ⟨v5, rfl, g1, g2, g3⟩
          have HJ := Lib.hid (HG.out.step (Only.refl NoneOf w4) g1 g2 g3)
          clear g1 g2 g3
          go_wp2_with fail
          have HZ := Lib.hid (show Went w.heap.size nilS w _ (L ++ It.whole ⟨3, b, n', f, re, im, t⟩) _ from by simpa [It.whole, It.body] using HJ.out)
          go_roundw
          case rel => exact ⟨k + 1, by omega, by go_num, HALL.out, by rw [HEND.out]; exact HZ.out⟩
          case measure => simp [intOf]; omega
        · have hN := Blk.new w2 5 #[.int .u8 4]
          go_wp2_with (at_builtin; refine app_bytes rfl (.tmp 24) (.tmp 28) rfl w.heap.size _ L rfl (HW2.out.1.alloc' _) w2.heap.size 1 1 [4] _ rfl (by decide) rfl rfl hN (by omega) (by simp; omega) ?_; intro v4 w4 g1 g2 g3; have HG := Lib.hid (HW2.out.step ((Only.refl NoneOf w2).alloc _) g1 g2 g3); have hv4 := own_ne g3 hv6 (by simp; omega); have E4 := (E1.alloc (.cells #[.int .u8 4] 5)).only g2 (fun hh => hv6 hh); clear c0 c1 c2 c3 c4 c5 c6 E1; obtain ⟨c0, c1, c2, c3, c4, c5, c6⟩ := blk7 E4; have hs4 := size_grow g2; clear g1 g2 g3)
          refine (float_is _ w.heap.size _ (L ++ [4]) f hyf HG.out.1 (by simp; omega) (by omega)).mono ?_; rintro e w5 ⟨v5, rfl, g1, g2, g3⟩
          have HJ := Lib.hid (HG.out.step (Only.refl NoneOf w4) g1 g2 g3)
          clear g1 g2 g3
          go_wp2_with fail
          have HZ := Lib.hid (show Went w.heap.size nilS w _ (L ++ It.whole ⟨4, b, n', f, re, im, t⟩) _ from by simpa [It.whole, It.body] using HJ.out)
          go_roundw
          case rel => exact ⟨k + 1, by omega, by go_num, HALL.out, by rw [HEND.out]; exact HZ.out⟩
          case measure => simp [intOf]; omega
        · have hN := Blk.new w2 5 #[.int .u8 5]
          go_wp2_with (at_builtin; refine app_bytes rfl (.tmp 24) (.tmp 28) rfl w.heap.size _ L rfl (HW2.out.1.alloc' _) w2.heap.size 1 1 [5] _ rfl (by decide) rfl rfl hN (by omega) (by simp; omega) ?_; intro v4 w4 g1 g2 g3; have HG := Lib.hid (HW2.out.step ((Only.refl NoneOf w2).alloc _) g1 g2 g3); have hv4 := own_ne g3 hv6 (by simp; omega); have E4 := (E1.alloc (.cells #[.int .u8 5] 5)).only g2 (fun hh => hv6 hh); clear c0 c1 c2 c3 c4 c5 c6 E1; obtain ⟨c0, c1, c2, c3, c4, c5, c6⟩ := blk7 E4; have hs4 := size_grow g2; clear g1 g2 g3)
          refine (float_is _ w.heap.size _ (L ++ [5]) re hyre HG.out.1 (by simp; omega) (by omega)).mono ?_; rintro e w5 ⟨v5, rfl, g1, g2, g3⟩
          have HJ := Lib.hid (HG.out.step (Only.refl NoneOf w4) g1 g2 g3)
          have E5 := E4.only g2 (fun hh => hv4 hh)
          have hs5 := g2.size
          clear c0 c1 c2 c3 c4 c5 c6 g1 g2 g3
          obtain ⟨c0, c1, c2, c3, c4, c5, c6⟩ := blk7 E5
          go_wp2_with fail
          refine (float_is _ w.heap.size _ (L ++ [5] ++ put8 (turnB (cln re))) im hyim HJ.out.1 (by simp [lastB_len]; omega) (by omega)).mono ?_; rintro e w6 ⟨v6, rfl, g1, g2, g3⟩
          have HK := Lib.hid (HJ.out.step (Only.refl NoneOf w5) g1 g2 g3)
          clear g1 g2 g3
          go_wp2_with fail
          have HZ := Lib.hid (show Went w.heap.size nilS w _ (L ++ It.whole ⟨5, b, n', f, re, im, t⟩) _ from by simpa [It.whole, It.body] using HK.out)
          go_roundw
          case rel => exact ⟨k + 1, by omega, by go_num, HALL.out, by rw [HEND.out]; exact HZ.out⟩
          case measure => simp [intOf]; omega
        · have hN := Blk.new w2 5 #[.int .u8 6]
          go_wp2_with (at_builtin; refine app_bytes rfl (.tmp 24) (.tmp 28) rfl w.heap.size _ L rfl (HW2.out.1.alloc' _) w2.heap.size 1 1 [6] _ rfl (by decide) rfl rfl hN (by omega) (by simp; omega) ?_; intro v4 w4 g1 g2 g3; have HG := Lib.hid (HW2.out.step ((Only.refl NoneOf w2).alloc _) g1 g2 g3); have hv4 := own_ne g3 hv6 (by simp; omega); have E4 := (E1.alloc (.cells #[.int .u8 6] 5)).only g2 (fun hh => hv6 hh); clear c0 c1 c2 c3 c4 c5 c6 E1; obtain ⟨c0, c1, c2, c3, c4, c5, c6⟩ := blk7 E4; have hs4 := size_grow g2; clear g1 g2 g3)
          go_loopw [4, 7] (fun v0 i wr2 => InRel w.heap.size wr.heap.size w (rwC 6 b n' f re im t) (L ++ [6]) t v0 i wr2) (fun _ i _ => t.size - (intOf i).toNat)
          case atStart => exact ⟨0, Nat.zero_le _, rfl, by simpa [escT] using HG.out, E4, hv4⟩
          case round =>
            clear HG E4 c0 c1 c2 c3 c4 c5 c6 hv4
            obtain ⟨q, hq, rfl, hw, E5, hv5⟩ := hrel
            have HG := Lib.hid hw
            clear hw
            obtain ⟨c0, c1, c2, c3, c4, c5, c6⟩ := blk7 E5
            have hel := escT_len (t.data.toList.take q)
            have htl : (t.data.toList.take q).length ≤ q := List.length_take_le _ _
            have hsz := HG.out.2.1.size
            have hl5 := E5.lt
            by_cases hlq : q < t.size
            · have HE := Lib.hid (show escT (t.data.toList.take (q + 1)) = escT (t.data.toList.take q) ++ if t[q] = 0 then [0, 255] else [t[q]] by rw [take_snoc t q hlq, escT_snoc])
              have hN2 := Blk.new wr 5 #[.int .u8 (t[q].toNat : Int)]
              by_cases hc : t[q] = 0
              · have h0 : ((t[q].toNat : Int) == 0) = true := by rw [hc]; rfl
                have HC := Lib.hid hc
                clear hc
                go_wp2_with (first
                  | (at_builtin; refine app_bytes rfl (.tmp 75) (.tmp 80) rfl w.heap.size _ (L ++ [6] ++ escT (t.data.toList.take q)) rfl (HG.out.1.alloc' _) wr.heap.size 1 1 [t[q]] _ rfl (by decide) rfl rfl hN2 (by simp; omega) (by simp; omega) ?_; intro v6 w6 g1 g2 g3; have HJ := Lib.hid (HG.out.step ((Only.refl NoneOf wr).alloc _) g1 g2 g3); have hv6' := own_ne g3 hv5 (by simp; omega); have E6 := (E5.alloc (.cells #[.int .u8 (t[q].toNat : Int)] 5)).only g2 (fun hh => hv5 hh); clear c0 c1 c2 c3 c4 c5 c6 E5; obtain ⟨c0, c1, c2, c3, c4, c5, c6⟩ := blk7 E6; have hs6 := size_grow g2; clear g1 g2 g3; have hN3 := Blk.new w6 5 #[.int .u8 255])
                  | (at_builtin; refine app_bytes rfl (.tmp 87) (.tmp 88) rfl w.heap.size _ (L ++ [6] ++ escT (t.data.toList.take q) ++ [t[q]]) rfl (HJ.out.1.alloc' _) w6.heap.size 1 1 [255] _ rfl (by decide) rfl rfl hN3 (by simp; omega) (by simp; omega) ?_; intro v7 w7 g1 g2 g3; have HK := Lib.hid (HJ.out.step ((Only.refl NoneOf w6).alloc _) g1 g2 g3); have hv7 := own_ne g3 hv6' (by have := E6.lt; simp; omega); have E7 := (E6.alloc (.cells #[.int .u8 255] 5)).only g2 (fun hh => hv6' hh); clear g1 g2 g3))
                go_roundw
                case rel => exact ⟨q + 1, by omega, by go_num, by rw [HE.out, if_pos HC.out]; simpa [HC.out] using HK.out, E7, hv7⟩
                case measure => simp [intOf]; omega
              · have h0 : ((t[q].toNat : Int) == 0) = false := by
                  rw [beq_eq_false_iff_ne]
                  intro h
                  exact hc (UInt8.toNat_inj.1 (by simpa using h))
                have HC := Lib.hid hc
                clear hc
                go_wp2_with (at_builtin; refine app_bytes rfl (.tmp 75) (.tmp 80) rfl w.heap.size _ (L ++ [6] ++ escT (t.data.toList.take q)) rfl (HG.out.1.alloc' _) wr.heap.size 1 1 [t[q]] _ rfl (by decide) rfl rfl hN2 (by simp; omega) (by simp; omega) ?_; intro v6 w6 g1 g2 g3; have HJ := Lib.hid (HG.out.step ((Only.refl NoneOf wr).alloc _) g1 g2 g3); have hv6' := own_ne g3 hv5 (by simp; omega); have E6 := (E5.alloc (.cells #[.int .u8 (t[q].toNat : Int)] 5)).only g2 (fun hh => hv5 hh); clear c0 c1 c2 c3 c4 c5 c6 E5; obtain ⟨c0, c1, c2, c3, c4, c5, c6⟩ := blk7 E6; clear g1 g2 g3)
                go_roundw
                case rel => exact ⟨q + 1, by omega, by go_num, by rw [HE.out, if_neg HC.out]; simpa using HJ.out, E6, hv6'⟩
                case measure => simp [intOf]; omega
            · obtain rfl : q = t.size := by omega
              have HT := Lib.hid (show t.data.toList.take t.size = t.data.toList from List.take_of_length_le (by simp))
              have hN2 := Blk.new wr 5 #[.int .u8 0, .int .u8 1]
              go_wp2_with (at_builtin; refine app_bytes rfl (.tmp 90) (.tmp 91) rfl w.heap.size _ (L ++ [6] ++ escT (t.data.toList.take t.size)) rfl (HG.out.1.alloc' _) wr.heap.size 2 2 [0, 1] _ rfl (by decide) rfl rfl hN2 (by simp; omega) (by simp; omega) ?_; intro v6 w6 g1 g2 g3; have HJ := Lib.hid (HG.out.step ((Only.refl NoneOf wr).alloc _) g1 g2 g3); clear g1 g2 g3)
              have HZ := Lib.hid (show Went w.heap.size nilS w _ (L ++ It.whole ⟨6, b, n', f, re, im, t⟩) _ from by have := HJ.out; rw [HT.out] at this; simpa [It.whole, It.body] using this)
              go_roundw
              case rel => exact ⟨k + 1, by omega, by go_num, HALL.out, by rw [HEND.out]; exact HZ.out⟩
              case measure => simp [intOf]; omega
    · obtain rfl : k = n := by omega
      have HFIN := Lib.hid (show R = (⟨(rbytes (xs.take k)).toArray⟩, 0) by
        have e : xs.take k = xs := List.take_of_length_le (by rw [HN.out]; exact Nat.le_refl _)
        have ha := HAL.out
        rw [e] at ha ⊢
        rw [← HRS.out, if_pos ha, rbytes_ok ha])
      have hcv := row_string HW0.out.1
      clear HAL HRS HA HF
      generalize rbytes (xs.take k) = L at *
      go_wp2_with fail
      go_ret2
      exact ⟨by rw [HFIN.out]; rfl, HW0.out.none⟩

end Go.Proofs.Ytimoenpfnaaehaa
