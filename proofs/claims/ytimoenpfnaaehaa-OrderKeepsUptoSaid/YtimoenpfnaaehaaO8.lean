/-
  Layer 4: Encode, walked.
-/
import Derived.Test.YtimoenpfnaaehaaO7
namespace Go.Proofs.Ytimoenpfnaaehaa
open Go.RowKit

theorem own_ne {v v' : Value} {b H : Nat} (h3 : ∀ k, v'.ownBlock = some k → v.ownBlock = some k ∨ H ≤ k) (hv : v.ownBlock ≠ some b) (hb : b < H) : v'.ownBlock ≠ some b := by
  intro h
  rcases h3 b h with h | h
  · exact hv h
  · omega
theorem Went.aside {B b : Nat} {v v' : Value} {w W W' : World} {l : List UInt8} (h : Went B v w v' l W) (ho : Only (· = b) W W') (hne : v'.ownBlock ≠ some b) (hb : w.heap.size ≤ b) : Went B v w v' l W' :=
  ⟨h.1.only ho (fun g hg e => hne (by rw [hg, e])), h.2.1.step ho (fun _ hk e => by omega), h.2.2⟩
theorem Went.keep {B : Nat} {v v' : Value} {w W W' : World} {l : List UInt8} (h : Went B v w v' l W) (ho : Only NoneOf W W') : Went B v w v' l W' :=
  ⟨h.1.keep ho, h.2.1.step ho (fun _ _ e => e.elim), h.2.2⟩
theorem size_grow {S : Nat → Prop} {W w4 : World} {o : Obj} (h : Only S (W.alloc o) w4) : W.heap.size < w4.heap.size := by have := h.size; simp at this; omega
abbrev nilS : Value := .slice none 0 0
theorem Went.none {B : Nat} {v' : Value} {w W : World} {l : List UInt8} (h : Went B nilS w v' l W) : Only NoneOf w W := h.2.1.mono (fun k _ e => by simp [Value.ownBlock] at e)
theorem one_only {W W' : World} {c i : Nat} {a : Value} (h : Only (· = c) W W') : Only (· = c) W (W'.setCell ⟨c, i, none⟩ a) := h.put (p := ⟨c, i, none⟩) (.inl rfl) a

theorem clean_k (x : It) : x.clean.k = x.k := by unfold It.clean; split <;> rfl
theorem clean_t (x : It) : x.clean.t.size ≤ x.t.size := by
  unfold It.clean
  split
  · show (It.only x).t.size ≤ _
    unfold It.only
    dsimp only
    split
    · exact Nat.le_refl _
    · exact Nat.zero_le _
  · exact Nat.le_refl _
theorem clean_wf {x : It} (h : x.Wf) : x.clean.Wf := by
  obtain ⟨k0, k1, n0, n1, f, re, im, t⟩ := h
  have ht := clean_t x
  have hk := clean_k x
  refine ⟨by omega, by omega, ?_, ?_, ?_, ?_, ?_, by omega⟩
  all_goals
    unfold It.clean
    split
    · simp only [It.only]
      repeat (first | split | omega | exact cln_lt (by omega))
    · assumption
theorem bytesOf_len {xs : List It} (h : ∀ x ∈ xs, x.Wf) : (bytesOf xs).length ≤ xs.length * 2147483700 := by
  induction xs with
  | nil => simp [bytesOf]
  | cons x xs ih =>
    have h1 := bytes_len x.clean (clean_wf (h x (by simp))).t
    have h2 := ih (fun y hy => h y (by simp [hy]))
    simp only [bytesOf, List.flatMap_cons, List.length_append, List.length_cons] at h2 ⊢
    omega

theorem few_bytes {xs : List It} {k : Nat} (hk : k ≤ 64) (h : ∀ x ∈ xs, x.Wf) : (bytesOf (xs.take k)).length ≤ 137438956800 := by
  have h1 := bytesOf_len (xs := xs.take k) (fun x hx => h x (List.mem_of_mem_take hx))
  have h2 : (xs.take k).length ≤ k := List.length_take_le _ _
  omega

theorem int_bits (n : Int) (h0 : -9223372036854775808 ≤ n) (h1 : n ≤ 9223372036854775807) : bits .xor .u64 (IntKind.u64.wrap n) 9223372036854775808 = (((n + 9223372036854775808).toNat : Nat) : Int) := by
  obtain ⟨m, hm⟩ : ∃ m : Nat, n % 18446744073709551616 = m := ⟨(n % 18446744073709551616).toNat, by omega⟩
  rw [IntKind.wrap_u64, hm, top_xor m (by omega)]
  split <;> omega

/-- How Encode ends. -/
def EncPost (r : ByteArray × Int) (w : World) (e : Ending) (w' : World) : Prop := e = .returned (.tuple #[.string r.1, .int .i64 r.2]) ∧ Only NoneOf w w'

def EncRel (w : World) (xs : List It) (n : Nat) (v0 i : Value) (wr : World) : Prop :=
  ∃ k : Nat, k ≤ n ∧ i = .int .i64 k ∧ (xs.take k).all It.ok = true ∧ Went w.heap.size nilS w v0 (bytesOf (xs.take k)) wr

set_option maxHeartbeats 400000 in
theorem encode_large (w : World) (A : Option Addr) (n cap : Nat) (h : 64 < n) (hn : n ≤ 9223372036854775807) : Calls Try.prog 27 #[.slice A n cap] w (EncPost (⟨#[]⟩, 3) w) := by
  go_enter Try.func27, Try.ntmps27
  go_wp2_with fail
  go_ret2
  exact ⟨rfl, Only.refl _ _⟩

set_option maxRecDepth 100000 in
set_option maxHeartbeats 8000000 in
theorem encode_fits (w : World) (A : Option Addr) (n cap : Nat) (xs : List It) (hn : xs.length = n) (h64 : n ≤ 64) (hA : ItemsAt w A xs) (hwf : ∀ x ∈ xs, x.Wf) :
    Calls Try.prog 27 #[.slice A n cap] w (EncPost (if xs.all It.ok then (⟨(bytesOf xs).toArray⟩, 0) else (⟨#[]⟩, 40)) w) := by
  have HN := Lib.hid hn
  have HA := Lib.hid hA
  have HF := Lib.hid hwf
  clear hn hA hwf
  obtain ⟨R, HRS⟩ : ∃ R, Hid ((if xs.all It.ok then ((⟨(bytesOf xs).toArray⟩ : ByteArray), (0 : Int)) else (⟨#[]⟩, 40)) = R) := ⟨_, Lib.hid rfl⟩
  rw [HRS.out]
  go_enter Try.func27, Try.ntmps27
  go_wp2_with fail
  go_loopw [4, 12] (fun v0 i wr => EncRel w xs n v0 i wr) (fun _ i _ => n - (intOf i).toNat)
  case atStart => exact ⟨0, Nat.zero_le _, rfl, rfl, rowB_nil _ _, Only.refl _ _, fun k h => .inl h⟩
  case round =>
    obtain ⟨k, hk, rfl, hall, hw⟩ := hrel
    have HW0 := Lib.hid hw
    have HAL := Lib.hid hall
    clear hw hall
    have hLl : (bytesOf (xs.take k)).length ≤ 137438956800 := few_bytes (by omega) HF.out
    have hws := HW0.out.none.size
    by_cases hlt : k < n
    · obtain ⟨X, HX⟩ : ∃ X, Hid (xs[k]? = some X) := ⟨xs[k]'(by rw [HN.out]; exact hlt), Lib.hid (List.getElem?_eq_getElem _)⟩
      have hwfX : X.Wf := HF.out X (List.mem_of_getElem? HX.out)
      have HWX := Lib.hid hwfX
      have HWY := Lib.hid (clean_wf hwfX)
      clear hwfX
      obtain ⟨g, off, hAe, hg, c0, c1, c2, c3, c4, c5⟩ := (HA.out.keep HW0.out.none) k X HX.out
      subst hAe
      have HTK := Lib.hid (show xs.take (k + 1) = xs.take k ++ [X] by rw [List.take_add_one, HX.out]; rfl)
      have hv6 : u4.ownBlock ≠ some wr.heap.size := fun h => by have := HW0.out.1.lt h; omega
      have hO1 := ((Only.refl NoneOf wr).alloc (.cells itZ 29)).row (b := wr.heap.size) (.inr (Nat.le_refl _)) X.c
      have E0 := (Blk.new wr 29 itZ).row X.c
      have HO1 := Lib.hid hO1
      clear hO1
      have HC := fun u => Lib.hid (check_is X u)
      have HK := fun u => Lib.hid (clean_item X u)
      have HEND := Lib.hid (show bytesOf (xs.take (k + 1)) = bytesOf (xs.take k) ++ X.clean.bytes by rw [HTK.out, bytesOf_snoc])
      have HALL := fun h : X.ok = true => Lib.hid (show (xs.take (k + 1)).all It.ok = true by rw [HTK.out, List.all_append, HAL.out]; simp [h])
      have HNO := fun h : X.ok = false => Lib.hid (show R = (⟨#[]⟩, 40) by
        rw [← HRS.out, if_neg]
        intro ha
        have := List.all_eq_true.1 ha X (List.mem_of_getElem? HX.out)
        rw [h] at this
        cases this)
      clear HAL HRS HA HF HX
      generalize hLg : bytesOf (xs.take k) = L at *
      clear hLg
      go_wp2_with (first
        | (refine wpList_store_row rfl 29 (.tmp 6) (.tmp 15) rfl wr.heap.size X.c rfl rfl 29 itZ (Blk.new wr 29 itZ) info29 rfl (one_itC _ _ _ _ _ _ _) ?_; generalize World.setRow _ wr.heap.size X.c = W1 at *)
        | (refine wpList_load_row rfl 29 (.tmp 6) rfl wr.heap.size rfl 29 _ (0, 0) _ E0 Try.underlying29 rfl info29 ?_))
      refine (HC _).out.mono ?_; rintro e w2 ⟨rfl, ho2⟩
      have E1 := E0.only ho2 (fun h => h)
      have HW2 := Lib.hid ((HW0.out.keep HO1.out).keep ho2)
      clear ho2 E0 c0 c1 c2 c3 c4 c5 HO1 HW0
      cases hok : X.ok
      · have HR := HNO hok
        clear HNO HALL hok
        go_wp2_with fail
        go_ret2
        exact ⟨by rw [HR.out]; rfl, HW2.out.none⟩
      · have HALL' := HALL hok
        have hkk := ok_kind hok
        have hyk := clean_k X
        clear HNO hok HALL HC
        have HALL := HALL'
        clear HALL'
        generalize X.clean = Y at *
        obtain ⟨k', b, n', f, re, im, t⟩ := Y
        simp only at hyk
        rw [← hyk] at hkk
        clear hyk
        obtain ⟨hyk0, hyk1, hyn0, hyn1, hyf, hyre, hyim, hyt⟩ := HWY.out
        simp only at hyn0 hyn1 hyf hyre hyim hyt
        clear hyk0 hyk1 HWY HWX
        go_wp2_with (refine wpList_load_row rfl 29 (.tmp 6) rfl wr.heap.size rfl 29 _ (0, 0) _ E1 Try.underlying29 rfl info29 ?_)
        refine (HK _).out.mono ?_; rintro e w3 ⟨rfl, ho3⟩
        have E2 := E1.only ho3 (fun h => h)
        have E6 := E2.row (itC k' b n' f re im t)
        have HW := Lib.hid ((HW2.out.keep ho3).aside ((Only.refl (· = wr.heap.size) w3).row (.inl rfl) (itC k' b n' f re im t)) hv6 hws)
        clear ho3 E1 HW2 HK
        have : k' = 1 ∨ k' = 2 ∨ k' = 3 ∨ k' = 4 ∨ k' = 5 ∨ k' = 6 := by omega
        clear hkk
        rcases this with rfl | rfl | rfl | rfl | rfl | rfl
        · go_wp2_with (first
              | (refine wpList_store_row rfl 29 (.tmp 6) (.tmp 20) rfl wr.heap.size (itC 1 b n' f re im t) rfl rfl 29 X.c E2 info29 rfl (one_itC _ _ _ _ _ _ _) ?_; generalize World.setRow w3 wr.heap.size (itC 1 b n' f re im t) = W3 at *; have hl6 := E6.lt; have c0 := (blk6 E6).1; have hN := Blk.new W3 5 #[.int .u8 1]; clear E2)
              | (at_builtin; refine app_bytes rfl (.tmp 21) (.tmp 25) rfl w.heap.size _ L rfl (HW.out.1.alloc' _) W3.heap.size 1 1 [1] _ rfl (by decide) rfl rfl hN (by omega) (by simp; omega) ?_; intro v4 w4 g1 g2 g3; have HG := Lib.hid (HW.out.step ((Only.refl NoneOf W3).alloc _) g1 g2 g3); have hv4 := own_ne g3 hv6 (by simp; omega); have E4 := (E6.alloc (.cells #[.int .u8 1] 5)).only g2 (fun hh => hv6 hh); clear c0; obtain ⟨c0, c1, c2, c3, c4, c5⟩ := blk6 E4; have hs4 := size_grow g2; clear g1 g2 g3))
          have HZ := Lib.hid (show Went w.heap.size (.slice none 0 0) w _ (L ++ It.bytes ⟨1, b, n', f, re, im, t⟩) _ from by simpa [It.bytes] using HG.out)
          go_roundw
          case rel => exact ⟨k + 1, by omega, by go_num, HALL.out, by rw [HEND.out]; exact HZ.out⟩
          case measure => simp [intOf]; omega
        · cases b
          · go_wp2_with (first
              | (refine wpList_store_row rfl 29 (.tmp 6) (.tmp 20) rfl wr.heap.size (itC 2 false n' f re im t) rfl rfl 29 X.c E2 info29 rfl (one_itC _ _ _ _ _ _ _) ?_; generalize World.setRow w3 wr.heap.size (itC 2 false n' f re im t) = W3 at *; have hl6 := E6.lt; have c0 := (blk6 E6).1; have hN := Blk.new W3 5 #[.int .u8 2]; clear E2)
              | (at_builtin; refine app_bytes rfl (.tmp 21) (.tmp 25) rfl w.heap.size _ L rfl (HW.out.1.alloc' _) W3.heap.size 1 1 [2] _ rfl (by decide) rfl rfl hN (by omega) (by simp; omega) ?_; intro v4 w4 g1 g2 g3; have HG := Lib.hid (HW.out.step ((Only.refl NoneOf W3).alloc _) g1 g2 g3); have hv4 := own_ne g3 hv6 (by simp; omega); have E4 := (E6.alloc (.cells #[.int .u8 2] 5)).only g2 (fun hh => hv6 hh); clear c0; obtain ⟨c0, c1, c2, c3, c4, c5⟩ := blk6 E4; have hs4 := size_grow g2; clear g1 g2 g3))
            refine (bools_is false false _).mono ?_; rintro e w5 ⟨rfl, rfl⟩
            have hN2 := Blk.new w4 5 #[.int .u8 0]
            rw [show cmpB false false = 0 from rfl]
            go_wp2_with (at_builtin; refine app_bytes rfl (.tmp 39) (.tmp 44) rfl w.heap.size _ (L ++ [2]) rfl (HG.out.1.alloc' _) w4.heap.size 1 1 [0] _ rfl (by decide) rfl rfl hN2 (by simp; omega) (by simp; omega) ?_; intro v5 w5 g1 g2 g3; have HJ := Lib.hid (HG.out.step ((Only.refl NoneOf w4).alloc _) g1 g2 g3); clear g1 g2 g3)
            have HZ := Lib.hid (show Went w.heap.size (.slice none 0 0) w _ (L ++ It.bytes ⟨2, false, n', f, re, im, t⟩) _ from by simpa [It.bytes] using HJ.out)
            go_roundw
            case rel => exact ⟨k + 1, by omega, by go_num, HALL.out, by rw [HEND.out]; exact HZ.out⟩
            case measure => simp [intOf]; omega
          · go_wp2_with (first
              | (refine wpList_store_row rfl 29 (.tmp 6) (.tmp 20) rfl wr.heap.size (itC 2 true n' f re im t) rfl rfl 29 X.c E2 info29 rfl (one_itC _ _ _ _ _ _ _) ?_; generalize World.setRow w3 wr.heap.size (itC 2 true n' f re im t) = W3 at *; have hl6 := E6.lt; have c0 := (blk6 E6).1; have hN := Blk.new W3 5 #[.int .u8 2]; clear E2)
              | (at_builtin; refine app_bytes rfl (.tmp 21) (.tmp 25) rfl w.heap.size _ L rfl (HW.out.1.alloc' _) W3.heap.size 1 1 [2] _ rfl (by decide) rfl rfl hN (by omega) (by simp; omega) ?_; intro v4 w4 g1 g2 g3; have HG := Lib.hid (HW.out.step ((Only.refl NoneOf W3).alloc _) g1 g2 g3); have hv4 := own_ne g3 hv6 (by simp; omega); have E4 := (E6.alloc (.cells #[.int .u8 2] 5)).only g2 (fun hh => hv6 hh); clear c0; obtain ⟨c0, c1, c2, c3, c4, c5⟩ := blk6 E4; have hs4 := size_grow g2; clear g1 g2 g3))
            refine (bools_is true false _).mono ?_; rintro e w5 ⟨rfl, rfl⟩
            have hN2 := Blk.new w4 5 #[.int .u8 1]
            rw [show cmpB true false = 1 from rfl]
            go_wp2_with (at_builtin; refine app_bytes rfl (.tmp 39) (.tmp 44) rfl w.heap.size _ (L ++ [2]) rfl (HG.out.1.alloc' _) w4.heap.size 1 1 [1] _ rfl (by decide) rfl rfl hN2 (by simp; omega) (by simp; omega) ?_; intro v5 w5 g1 g2 g3; have HJ := Lib.hid (HG.out.step ((Only.refl NoneOf w4).alloc _) g1 g2 g3); clear g1 g2 g3)
            have HZ := Lib.hid (show Went w.heap.size (.slice none 0 0) w _ (L ++ It.bytes ⟨2, true, n', f, re, im, t⟩) _ from by simpa [It.bytes] using HJ.out)
            go_roundw
            case rel => exact ⟨k + 1, by omega, by go_num, HALL.out, by rw [HEND.out]; exact HZ.out⟩
            case measure => simp [intOf]; omega
        · have HU := Lib.hid (int_bits n' hyn0 hyn1)
          go_wp2_with (first
              | (refine wpList_store_row rfl 29 (.tmp 6) (.tmp 20) rfl wr.heap.size (itC 3 b n' f re im t) rfl rfl 29 X.c E2 info29 rfl (one_itC _ _ _ _ _ _ _) ?_; generalize World.setRow w3 wr.heap.size (itC 3 b n' f re im t) = W3 at *; have hl6 := E6.lt; have c0 := (blk6 E6).1; have hN := Blk.new W3 5 #[.int .u8 3]; clear E2)
              | (at_builtin; refine app_bytes rfl (.tmp 21) (.tmp 25) rfl w.heap.size _ L rfl (HW.out.1.alloc' _) W3.heap.size 1 1 [3] _ rfl (by decide) rfl rfl hN (by omega) (by simp; omega) ?_; intro v4 w4 g1 g2 g3; have HG := Lib.hid (HW.out.step ((Only.refl NoneOf W3).alloc _) g1 g2 g3); have hv4 := own_ne g3 hv6 (by simp; omega); have E4 := (E6.alloc (.cells #[.int .u8 3] 5)).only g2 (fun hh => hv6 hh); clear c0; obtain ⟨c0, c1, c2, c3, c4, c5⟩ := blk6 E4; have hs4 := size_grow g2; clear g1 g2 g3))
          rw [HU.out]
          refine (put_is _ w.heap.size _ (L ++ [3]) _ HG.out.1 (by simp; omega) (by omega)).mono ?_; rintro e w5 ⟨v5, rfl, g1, g2, g3⟩
          have HJ := Lib.hid (HG.out.step (Only.refl NoneOf w4) g1 g2 g3)
          clear g1 g2 g3
          go_wp2_with fail
          have HZ := Lib.hid (show Went w.heap.size (.slice none 0 0) w _ (L ++ It.bytes ⟨3, b, n', f, re, im, t⟩) _ from by simpa [It.bytes] using HJ.out)
          go_roundw
          case rel => exact ⟨k + 1, by omega, by go_num, HALL.out, by rw [HEND.out]; exact HZ.out⟩
          case measure => simp [intOf]; omega
        · go_wp2_with (first
              | (refine wpList_store_row rfl 29 (.tmp 6) (.tmp 20) rfl wr.heap.size (itC 4 b n' f re im t) rfl rfl 29 X.c E2 info29 rfl (one_itC _ _ _ _ _ _ _) ?_; generalize World.setRow w3 wr.heap.size (itC 4 b n' f re im t) = W3 at *; have hl6 := E6.lt; have c0 := (blk6 E6).1; have hN := Blk.new W3 5 #[.int .u8 4]; clear E2)
              | (at_builtin; refine app_bytes rfl (.tmp 21) (.tmp 25) rfl w.heap.size _ L rfl (HW.out.1.alloc' _) W3.heap.size 1 1 [4] _ rfl (by decide) rfl rfl hN (by omega) (by simp; omega) ?_; intro v4 w4 g1 g2 g3; have HG := Lib.hid (HW.out.step ((Only.refl NoneOf W3).alloc _) g1 g2 g3); have hv4 := own_ne g3 hv6 (by simp; omega); have E4 := (E6.alloc (.cells #[.int .u8 4] 5)).only g2 (fun hh => hv6 hh); clear c0; obtain ⟨c0, c1, c2, c3, c4, c5⟩ := blk6 E4; have hs4 := size_grow g2; clear g1 g2 g3))
          refine (bits_is f hyf _).mono ?_; rintro e w5 ⟨rfl, rfl⟩
          go_wp2_with fail
          refine (put_is _ w.heap.size _ (L ++ [4]) _ HG.out.1 (by simp; omega) (by omega)).mono ?_; rintro e w5 ⟨v5, rfl, g1, g2, g3⟩
          have HJ := Lib.hid (HG.out.step (Only.refl NoneOf w4) g1 g2 g3)
          clear g1 g2 g3
          go_wp2_with fail
          have HZ := Lib.hid (show Went w.heap.size (.slice none 0 0) w _ (L ++ It.bytes ⟨4, b, n', f, re, im, t⟩) _ from by simpa [It.bytes] using HJ.out)
          go_roundw
          case rel => exact ⟨k + 1, by omega, by go_num, HALL.out, by rw [HEND.out]; exact HZ.out⟩
          case measure => simp [intOf]; omega
        · have s1 := stF
          go_wp2_with (first
              | (refine wpList_store_row rfl 29 (.tmp 6) (.tmp 20) rfl wr.heap.size (itC 5 b n' f re im t) rfl rfl 29 X.c E2 info29 rfl (one_itC _ _ _ _ _ _ _) ?_; generalize World.setRow w3 wr.heap.size (itC 5 b n' f re im t) = W3 at *; have hl6 := E6.lt; have c0 := (blk6 E6).1; have hN := Blk.new W3 5 #[.int .u8 5]; clear E2)
              | (at_builtin; refine app_bytes rfl (.tmp 21) (.tmp 25) rfl w.heap.size _ L rfl (HW.out.1.alloc' _) W3.heap.size 1 1 [5] _ rfl (by decide) rfl rfl hN (by omega) (by simp; omega) ?_; intro v4 w4 g1 g2 g3; have HG := Lib.hid (HW.out.step ((Only.refl NoneOf W3).alloc _) g1 g2 g3); have hv4 := own_ne g3 hv6 (by simp; omega); have E4 := (E6.alloc (.cells #[.int .u8 5] 5)).only g2 (fun hh => hv6 hh); clear c0; obtain ⟨c0, c1, c2, c3, c4, c5⟩ := blk6 E4; have hs4 := size_grow g2; clear g1 g2 g3))
          refine (bits_is re hyre _).mono ?_; rintro e w5 ⟨rfl, rfl⟩
          go_wp2_with fail
          refine (put_is _ w.heap.size _ (L ++ [5]) _ HG.out.1 (by simp; omega) (by omega)).mono ?_; rintro e w5 ⟨v5, rfl, g1, g2, g3⟩
          have HJ := Lib.hid (HG.out.step (Only.refl NoneOf w4) g1 g2 g3)
          have E5 := E4.only g2 (fun hh => hv4 hh)
          have hv5 := own_ne g3 hv4 (by have := E4.lt; omega)
          have hs5 := g2.size
          clear c0 c1 c2 c3 c4 c5 g1 g2 g3
          obtain ⟨c0, c1, c2, c3, c4, c5⟩ := blk6 E5
          have f3 := E5.free 3
          have HJ2 := Lib.hid (HJ.out.aside (one_only (c := wr.heap.size) (i := 3) (a := .float .f64 im) (Only.refl _ w5)) hv5 hws)
          go_wp2_with fail
          refine (bits_is im hyim _).mono ?_; rintro e w6 ⟨rfl, rfl⟩
          go_wp2_with fail
          refine (put_is _ w.heap.size _ (L ++ [5] ++ put8 (turnB re)) _ HJ2.out.1 (by simp [lastB_len]; omega) (by simp; omega)).mono ?_; rintro e w6 ⟨v6, rfl, g1, g2, g3⟩
          have HK := Lib.hid (HJ2.out.step (Only.refl NoneOf _) g1 g2 g3)
          clear g1 g2 g3
          go_wp2_with fail
          have HZ := Lib.hid (show Went w.heap.size (.slice none 0 0) w _ (L ++ It.bytes ⟨5, b, n', f, re, im, t⟩) _ from by simpa [It.bytes] using HK.out)
          go_roundw
          case rel => exact ⟨k + 1, by omega, by go_num, HALL.out, by rw [HEND.out]; exact HZ.out⟩
          case measure => simp [intOf]; omega
        · go_wp2_with (first
              | (refine wpList_store_row rfl 29 (.tmp 6) (.tmp 20) rfl wr.heap.size (itC 6 b n' f re im t) rfl rfl 29 X.c E2 info29 rfl (one_itC _ _ _ _ _ _ _) ?_; generalize World.setRow w3 wr.heap.size (itC 6 b n' f re im t) = W3 at *; have hl6 := E6.lt; have c0 := (blk6 E6).1; have hN := Blk.new W3 5 #[.int .u8 6]; clear E2)
              | (at_builtin; refine app_bytes rfl (.tmp 21) (.tmp 25) rfl w.heap.size _ L rfl (HW.out.1.alloc' _) W3.heap.size 1 1 [6] _ rfl (by decide) rfl rfl hN (by omega) (by simp; omega) ?_; intro v4 w4 g1 g2 g3; have HG := Lib.hid (HW.out.step ((Only.refl NoneOf W3).alloc _) g1 g2 g3); have hv4 := own_ne g3 hv6 (by simp; omega); have E4 := (E6.alloc (.cells #[.int .u8 6] 5)).only g2 (fun hh => hv6 hh); clear c0; obtain ⟨c0, c1, c2, c3, c4, c5⟩ := blk6 E4; have hs4 := size_grow g2; clear g1 g2 g3))
          refine (putText_is _ w.heap.size _ (L ++ [6]) t HG.out.1 (by simp; omega) (by omega) (by omega)).mono ?_; rintro e w5 ⟨v5, rfl, g1, g2, g3⟩
          have HJ := Lib.hid (HG.out.step (Only.refl NoneOf w4) g1 g2 g3)
          clear g1 g2 g3
          go_wp2_with fail
          have HZ := Lib.hid (show Went w.heap.size (.slice none 0 0) w _ (L ++ It.bytes ⟨6, b, n', f, re, im, t⟩) _ from by simpa [It.bytes] using HJ.out)
          go_roundw
          case rel => exact ⟨k + 1, by omega, by go_num, HALL.out, by rw [HEND.out]; exact HZ.out⟩
          case measure => simp [intOf]; omega
    · obtain rfl : k = n := by omega
      have HFIN := Lib.hid (show R = (⟨(bytesOf (xs.take k)).toArray⟩, 0) by
        have e : xs.take k = xs := List.take_of_length_le (by rw [HN.out]; exact Nat.le_refl _)
        have ha := HAL.out
        rw [e] at ha ⊢
        rw [← HRS.out, if_pos ha])
      have hcv := row_string HW0.out.1
      clear HAL HRS HA HF
      generalize bytesOf (xs.take k) = L at *
      go_wp2_with fail
      go_ret2
      exact ⟨by rw [HFIN.out]; rfl, HW0.out.none⟩

theorem encode_is (w : World) (A : Option Addr) (n cap : Nat) (xs : List It) (hn : xs.length = n) (hm : n ≤ 9223372036854775807) (hA : ItemsAt w A xs) (hwf : ∀ x ∈ xs, x.Wf) : Calls Try.prog 27 #[.slice A n cap] w (EncPost (encL xs) w) := by
  unfold encL
  by_cases h : 64 < n
  · rw [if_pos (by omega)]
    exact encode_large w A n cap h hm
  · rw [if_neg (by omega)]
    exact encode_fits w A n cap xs hn (by omega) hA hwf

end Go.Proofs.Ytimoenpfnaaehaa
