/-
  Layer 4's law OrderBack, walked.
-/
import Derived.Test.YtimoenpfnaaehaaON1
import Derived.Test.YtimoenpfnaaehaaOK3
import Derived.Test.YtimoenpfnaaehaaOS1
namespace Go.Proofs.Ytimoenpfnaaehaa
open Go.RowKit

theorem items_rows {w : World} {A : Option Addr} {xs : List It} (h : ItemsAt w A xs) : RowsAt w A 6 (xs.map fun x => x.c.toList) := fun i r hr => by
  rw [List.getElem?_map] at hr
  obtain ⟨x, hx, rfl⟩ := Option.map_eq_some_iff.1 hr
  obtain ⟨g, off, hA, hg, c0, c1, c2, c3, c4, c5⟩ := h i x hx
  refine ⟨g, off, hA, hg, fun j v hv => ?_⟩
  match j, hv with
  | 0, hv => cases hv; exact c0
  | 1, hv => cases hv; exact c1
  | 2, hv => cases hv; exact c2
  | 3, hv => cases hv; exact c3
  | 4, hv => cases hv; exact c4
  | 5, hv => cases hv; exact c5
  | j + 6, hv => simp at hv

/-- the second half: a text, and what it says -/
theorem dec_post {r : Option (List It)} {w w' : World} {e : Ending} (h : DecPost r w e w') : (r = none ∧ e = .returned (.tuple #[.slice none 0 0, .int .i64 41]) ∧ Only NoneOf w w') ∨
    ∃ ys A cap, r = some ys ∧ e = .returned (.tuple #[.slice A ys.length cap, .int .i64 0]) ∧ ItemsAt w' A ys ∧ (∀ y ∈ ys, y.Wf) ∧ Only NoneOf w w' := by
  obtain ⟨h1, h2⟩ := h
  cases r with
  | none => exact .inl ⟨rfl, h1, h2⟩
  | some ys =>
    obtain ⟨v, rfl, hr, hwf⟩ := h1
    obtain ⟨A, cap, rfl, hi⟩ := hr.at
    exact .inr ⟨ys, A, cap, rfl, rfl, hi, hwf, h2⟩

def CntRel (w : World) (n : Nat) (i : Value) (wr : World) : Prop := Only NoneOf w wr ∧ ∃ q : Nat, i = .int .i64 q ∧ q ≤ n

set_option maxRecDepth 100000 in
set_option maxHeartbeats 2000000 in
theorem back_walk (xs : List It) (A : Option Addr) (n : Nat) (s : ByteArray) (w : World) (hA : RawsAt w A xs) (hX : Small xs) (hs : s.size ≤ 1048576) : Calls Try.prog 9 #[.slice A xs.length n, .string s] w (Ans (.bool true) w) := by
  have HA := Lib.hid hA
  have hAw := fun u => Lib.hid (awake_is u)
  have lx : xs.length ≤ 4398046511104 := Nat.le_trans hX.len (by omega)
  have WX := Lib.hid hX.wf
  have HDE := Lib.hid fun r => @dec_enc xs hX r
  have HDS := Lib.hid fun ys => @dec_some s ys
  have hD := Lib.hid fun u => decode_is s u (by omega)
  clear hA hX
  obtain ⟨r, e, HR⟩ : ∃ r e, Hid (encL xs = (r, e)) := ⟨_, _, Lib.hid rfl⟩
  go_enter Try.func9, Try.ntmps9
  go_wp2_with fail
  refine (hAw _).out.mono ?_; rintro e0 w0 ⟨rfl, ho0⟩
  have HO0 := Lib.hid ho0
  clear ho0
  go_wp2_with fail
  refine (items_is xs A n w0 (HA.out.keep HO0.out) lx).mono ?_; rintro e0 w1 ⟨b1, rfl, hb1, h1, ho1⟩
  have HO1 := Lib.hid (HO0.out.trans ho1)
  have H1 := Lib.hid h1.items
  clear ho1 h1 hb1
  go_wp2_with fail
  refine (encode_is w1 _ _ _ xs rfl (by omega) H1.out WX.out).mono ?_; rintro e0 w2 ⟨rfl, ho2⟩
  rw [HR.out]
  have HO2 := Lib.hid (HO1.out.trans ho2)
  clear ho2 H1
  by_cases he : e = 0
  rotate_left
  · go_wp2_with fail
    refine (hD.out _).mono ?_; intro e0 w3 hd
    rcases dec_post hd with ⟨_, rfl, ho3⟩ | ⟨ys, A', cap', hr, rfl, hi, hwf, ho3⟩
    · have HO3 := Lib.hid (HO2.out.trans ho3)
      clear ho3 hd
      go_wp2_with fail
      go_ret
      exact ⟨rfl, HO3.out⟩
    · have HO3 := Lib.hid (HO2.out.trans ho3)
      have HI := Lib.hid hi
      have HWF := Lib.hid hwf
      have HE := Lib.hid (HDS.out _ hr)
      have hyl : ys.length ≤ 9223372036854775807 := by
        rcases enc_ok HE.out with ⟨_, h, _⟩ | h | h
        · omega
        · simp at h
        · simp at h
      clear ho3 hd hi hwf hr
      go_wp2_with fail
      refine (encode_is w3 _ _ _ ys rfl hyl HI.out HWF.out).mono ?_; rintro e0 w4 ⟨rfl, ho4⟩
      rw [HE.out]
      have HO4 := Lib.hid (HO3.out.trans ho4)
      clear ho4
      go_wp2_with fail
      go_ret
      exact ⟨by simp, HO4.out⟩
  subst he
  obtain ⟨hdr, hrs⟩ := HDE.out r HR.out
  have HDR := Lib.hid hdr
  have hD1 := Lib.hid fun u => decode_is r u hrs
  clear hdr hrs HDE
  go_wp2_with fail
  refine (hD1.out _).mono ?_; intro e0 w3 hd
  rw [HDR.out] at hd
  rcases dec_post hd with ⟨h0, _⟩ | ⟨ys, A', cap, hr, rfl, hi, hwf, ho3⟩
  · cases h0
  obtain rfl : xs.map It.clean = ys := by simpa using hr
  have HO3 := Lib.hid (HO2.out.trans ho3)
  have HI := Lib.hid (items_rows hi)
  clear ho3 hd hi hwf hr hD1
  rw [List.length_map]
  go_wp2_with fail
  go_loopw [9] (fun i wr => CntRel w3 xs.length i wr) (fun i _ => xs.length - (intOf i).toNat)
  case atStart => exact ⟨Only.refl _ _, 0, rfl, by omega⟩
  case round =>
    obtain ⟨ho, q, rfl, hq⟩ := hrel
    have HOw := Lib.hid ho
    have HO := Lib.hid (HO3.out.trans ho)
    clear ho
    by_cases hlx : q < xs.length
    · obtain ⟨g, off, rfl, hg, h1⟩ := (raws_rows (HA.out.keep HO.out)) q xs[q].r.toList (by simp [hlx])
      obtain ⟨g', off', rfl, hg', h1'⟩ := (HI.out.keep HOw.out) q xs[q].clean.c.toList (by simp [hlx])
      have HI1 := fun u => Lib.hid (item_is xs[q].k xs[q].b xs[q].n xs[q].f xs[q].re xs[q].im xs[q].t u)
      have HC := fun u => Lib.hid (clean_item xs[q] u)
      have HB := Lib.hid (fun (u : World) => (Blk.new u 29 itZ).row xs[q].clean.c)
      have HBo := Lib.hid (fun (u : World) => ((Only.refl NoneOf u).alloc (.cells itZ 29)).row (b := u.heap.size) (.inr (Nat.le_refl _)) xs[q].clean.c)
      generalize hY : xs[q].clean = Y at *
      generalize xs[q] = x at *
      obtain ⟨k, b, n', f, re, im, t⟩ := Y
      clear hY
      have HAk := fun u => Lib.hid (alike_is k b n' f re im t u)
      go_wp2_with (refine wpList_load_mid rfl 25 (.tmp 47) rfl g (off + q * 7) rfl x.r.toList _ h1 Try.underlying25 rfl info25 ?_)
      refine (HI1 _).out.mono ?_; rintro e0 w4 ⟨rfl, ho4⟩
      go_wp2_with fail
      refine (HC _).out.mono ?_; rintro e0 w5 ⟨rfl, ho5⟩
      have E10 := HB.out w5
      have ho6 := HBo.out w5
      have hl10 := E10.lt
      go_upto_region 12 with (refine wpList_store_row rfl 29 (.tmp 10) (.tmp 50) rfl w5.heap.size (itC k b n' f re im t) rfl rfl 29 itZ (Blk.new w5 29 itZ) info29 rfl (one_itC k b n' f re im t) ?_; generalize World.setRow _ w5.heap.size (itC k b n' f re im t) = W at *)
      have HO4 := Lib.hid ((HO.out.trans ho4).trans (ho5.trans ho6))
      have HOw4 := Lib.hid ((HOw.out.trans ho4).trans (ho5.trans ho6))
      have h1'' := rangeAt_keep h1' hg' ((ho4.trans ho5).trans ho6)
      have hg'' := Nat.lt_of_lt_of_le hg' ((ho4.trans ho5).trans ho6).size
      clear h1' hg' ho4 ho5 ho6 h1 hg
      generalize w5.heap.size = b10 at *
      refine wp_region_aft (by kernel_rfl) (by kernel_rfl) ?_
      refine q_mv (.slice (some ⟨g', off', none⟩) xs.length cap) _ rfl (.inl rfl) rfl ?_
      simp only [Act.put, List.setIfInBounds_toArray, List.set_cons_zero, List.set_cons_succ]
      refine q_mv (.int .i64 q) _ rfl (.inl rfl) rfl ?_
      simp only [Act.put, List.setIfInBounds_toArray, List.set_cons_zero, List.set_cons_succ]
      refine q_pure (.pointer (some ⟨g', off' + q * 6, none⟩)) rfl (by intro _; simp [go_sem, hlx]) ?_
      simp only [Act.put, List.setIfInBounds_toArray, List.set_cons_zero, List.set_cons_succ]
      refine q_mid 29 (.tmp 53) g' (off' + q * 6) _ _ rfl rfl rfl h1'' hg'' Try.underlying29 rfl info29 ?_
      simp only [Act.put, List.setIfInBounds_toArray, List.set_cons_zero, List.set_cons_succ]
      refine q_pure (.pointer (some ⟨b10, 0, none⟩)) rfl (by intro _; simp [go_sem]) ?_
      simp only [Act.put, List.setIfInBounds_toArray, List.set_cons_zero, List.set_cons_succ]
      refine q_at _ rfl (by intro w hw; have h := (E10.only hw (fun h => h)).cellv 0 rfl; simp [go_sem, h]; rfl) ?_
      simp only [Act.put, List.setIfInBounds_toArray, List.set_cons_zero, List.set_cons_succ]
      refine q_pure (.pointer (some ⟨b10, 1, none⟩)) rfl (by intro _; simp [go_sem]) ?_
      simp only [Act.put, List.setIfInBounds_toArray, List.set_cons_zero, List.set_cons_succ]
      refine q_at _ rfl (by intro w hw; have h := (E10.only hw (fun h => h)).cellv 1 rfl; simp [go_sem, h]; rfl) ?_
      simp only [Act.put, List.setIfInBounds_toArray, List.set_cons_zero, List.set_cons_succ]
      refine q_pure (.pointer (some ⟨b10, 2, none⟩)) rfl (by intro _; simp [go_sem]) ?_
      simp only [Act.put, List.setIfInBounds_toArray, List.set_cons_zero, List.set_cons_succ]
      refine q_at _ rfl (by intro w hw; have h := (E10.only hw (fun h => h)).cellv 2 rfl; simp [go_sem, h]; rfl) ?_
      simp only [Act.put, List.setIfInBounds_toArray, List.set_cons_zero, List.set_cons_succ]
      refine q_pure (.pointer (some ⟨b10, 3, none⟩)) rfl (by intro _; simp [go_sem]) ?_
      simp only [Act.put, List.setIfInBounds_toArray, List.set_cons_zero, List.set_cons_succ]
      refine q_at _ rfl (by intro w hw; have h := (E10.only hw (fun h => h)).cellv 3 rfl; simp [go_sem, h]; rfl) ?_
      simp only [Act.put, List.setIfInBounds_toArray, List.set_cons_zero, List.set_cons_succ]
      refine q_bits f rfl (by intro _; simp [go_sem]) ?_
      simp only [Act.put, List.setIfInBounds_toArray, List.set_cons_zero, List.set_cons_succ]
      refine q_pure (.pointer (some ⟨b10, 4, none⟩)) rfl (by intro _; simp [go_sem]) ?_
      simp only [Act.put, List.setIfInBounds_toArray, List.set_cons_zero, List.set_cons_succ]
      refine q_at _ rfl (by intro w hw; have h := (E10.only hw (fun h => h)).cellv 4 rfl; simp [go_sem, h]; rfl) ?_
      simp only [Act.put, List.setIfInBounds_toArray, List.set_cons_zero, List.set_cons_succ]
      refine q_pure (.float .f64 re) rfl (by intro _; simp [go_sem]) ?_
      simp only [Act.put, List.setIfInBounds_toArray, List.set_cons_zero, List.set_cons_succ]
      refine q_bits re rfl (by intro _; simp [go_sem]) ?_
      simp only [Act.put, List.setIfInBounds_toArray, List.set_cons_zero, List.set_cons_succ]
      refine q_pure (.pointer (some ⟨b10, 4, none⟩)) rfl (by intro _; simp [go_sem]) ?_
      simp only [Act.put, List.setIfInBounds_toArray, List.set_cons_zero, List.set_cons_succ]
      refine q_at _ rfl (by intro w hw; have h := (E10.only hw (fun h => h)).cellv 4 rfl; simp [go_sem, h]; rfl) ?_
      simp only [Act.put, List.setIfInBounds_toArray, List.set_cons_zero, List.set_cons_succ]
      refine q_pure (.float .f64 im) rfl (by intro _; simp [go_sem]) ?_
      simp only [Act.put, List.setIfInBounds_toArray, List.set_cons_zero, List.set_cons_succ]
      refine q_bits im rfl (by intro _; simp [go_sem]) ?_
      simp only [Act.put, List.setIfInBounds_toArray, List.set_cons_zero, List.set_cons_succ]
      refine q_pure (.pointer (some ⟨b10, 5, none⟩)) rfl (by intro _; simp [go_sem]) ?_
      simp only [Act.put, List.setIfInBounds_toArray, List.set_cons_zero, List.set_cons_succ]
      refine q_at _ rfl (by intro w hw; have h := (E10.only hw (fun h => h)).cellv 5 rfl; simp [go_sem, h]; rfl) ?_
      simp only [Act.put, List.setIfInBounds_toArray, List.set_cons_zero, List.set_cons_succ]
      refine q_pure (.agg (rwC k b n' f re im t)) rfl (by intro _; simp [go_sem]) ?_
      simp only [Act.put, List.setIfInBounds_toArray, List.set_cons_zero, List.set_cons_succ]
      refine q_call 23 _ _ rfl (by intro _; simp [go_sem]) HAk ?_
      simp only [Act.put, List.setIfInBounds_toArray, List.set_cons_zero, List.set_cons_succ]
      refine q_pure (.bool false) rfl (by intro _; simp [go_sem]) ?_
      simp only [Act.put, List.setIfInBounds_toArray, List.set_cons_zero, List.set_cons_succ]
      refine wpQuiet_nil fun w' hw' => ?_
      have HO5 := Lib.hid (HO4.out.trans hw')
      have HOw5 := Lib.hid (HOw4.out.trans hw')
      clear hw' h1'' hg'' E10
      go_wp2_with fail
      go_roundw
      case rel => exact ⟨HOw5.out, q + 1, by simp, by omega⟩
      case measure => simp [intOf]; omega
    · go_wp2_with fail
      refine (hD.out _).mono ?_; intro e0 w4 hd
      rcases dec_post hd with ⟨_, rfl, ho4⟩ | ⟨ys, A', cap', hr, rfl, hi, hwf, ho4⟩
      · have HO4 := Lib.hid (HO.out.trans ho4)
        clear ho4 hd
        go_wp2_with fail
        go_ret
        exact ⟨rfl, HO4.out⟩
      · have HO4 := Lib.hid (HO.out.trans ho4)
        have HJ := Lib.hid hi
        have HWF := Lib.hid hwf
        have HE := Lib.hid (HDS.out _ hr)
        have hyl : ys.length ≤ 9223372036854775807 := by
          rcases enc_ok HE.out with ⟨_, h, _⟩ | h | h
          · omega
          · simp at h
          · simp at h
        clear ho4 hd hi hwf hr
        go_wp2_with fail
        refine (encode_is w4 _ _ _ ys rfl hyl HJ.out HWF.out).mono ?_; rintro e0 w5 ⟨rfl, ho5⟩
        rw [HE.out]
        have HO5 := Lib.hid (HO4.out.trans ho5)
        clear ho5
        go_wp2_with fail
        go_ret
        exact ⟨by simp, HO5.out⟩

end Go.Proofs.Ytimoenpfnaaehaa
