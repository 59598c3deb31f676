/-
  Layer 4's law OrderDecodes, walked.
-/
import Derived.Test.YtimoenpfnaaehaaOW5
import Derived.Test.YtimoenpfnaaehaaON2
namespace Go.Proofs.Ytimoenpfnaaehaa
open Go.RowKit

set_option maxRecDepth 100000 in
set_option maxHeartbeats 2000000 in
theorem allAlike_is (xs : List It) (A B : Option Addr) (n m : Nat) (w : World) (hA : RowsAt w A 6 (xs.map fun x => x.c.toList)) (hB : RowsAt w B 7 (xs.map fun x => x.r.toList)) (hx : xs.length ≤ 4398046511104) : Calls Try.prog 33 #[.slice A xs.length n, .slice B xs.length m] w (Ans (.bool true) w) := by
  have HA := Lib.hid hA
  have HB := Lib.hid hB
  clear hA hB
  go_enter Try.func33, Try.ntmps33
  go_wp2_with fail
  go_loopw [5] (fun i wr => CntRel w xs.length i wr) (fun i _ => xs.length - (intOf i).toNat)
  case atStart => exact ⟨Only.refl _ _, 0, rfl, by omega⟩
  case round =>
    obtain ⟨ho, q, rfl, hq⟩ := hrel
    have HO := Lib.hid ho
    clear ho
    by_cases hlx : q < xs.length
    · obtain ⟨g, off, rfl, hg, h1⟩ := (HA.out.keep HO.out) q xs[q].c.toList (by simp [hlx])
      obtain ⟨g', off', rfl, hg', h1'⟩ := (HB.out.keep HO.out) q xs[q].r.toList (by simp [hlx])
      generalize xs[q] = x at *
      obtain ⟨k, b, n', f, re, im, t⟩ := x
      have HAk := fun u => Lib.hid (alike_is k b n' f re im t u)
      go_upto_region 6 with (fail)
      refine wp_region_aft (by kernel_rfl) (by kernel_rfl) ?_
      refine q_mv (.slice (some ⟨g, off, none⟩) xs.length n) _ rfl (.inl rfl) rfl ?_
      simp only [Act.put, List.setIfInBounds_toArray, List.set_cons_zero, List.set_cons_succ]
      refine q_mv (.int .i64 q) _ rfl (.inl rfl) rfl ?_
      simp only [Act.put, List.setIfInBounds_toArray, List.set_cons_zero, List.set_cons_succ]
      refine q_pure (.pointer (some ⟨g, off + q * 6, none⟩)) rfl (by intro _; simp [go_sem, hlx]) ?_
      simp only [Act.put, List.setIfInBounds_toArray, List.set_cons_zero, List.set_cons_succ]
      refine q_mid 29 (.tmp 19) g (off + q * 6) _ _ rfl rfl rfl h1 hg Try.underlying29 rfl info29 ?_
      simp only [Act.put, List.setIfInBounds_toArray, List.set_cons_zero, List.set_cons_succ]
      refine q_mv (.slice (some ⟨g', off', none⟩) xs.length m) _ rfl (.inl rfl) rfl ?_
      simp only [Act.put, List.setIfInBounds_toArray, List.set_cons_zero, List.set_cons_succ]
      refine q_mv (.int .i64 q) _ rfl (.inl rfl) rfl ?_
      simp only [Act.put, List.setIfInBounds_toArray, List.set_cons_zero, List.set_cons_succ]
      refine q_pure (.pointer (some ⟨g', off' + q * 7, none⟩)) rfl (by intro _; simp [go_sem, hlx]) ?_
      simp only [Act.put, List.setIfInBounds_toArray, List.set_cons_zero, List.set_cons_succ]
      refine q_mid 32 (.tmp 23) g' (off' + q * 7) _ _ rfl rfl rfl h1' hg' Try.underlying32 rfl info32 ?_
      simp only [Act.put, List.setIfInBounds_toArray, List.set_cons_zero, List.set_cons_succ]
      refine q_call 23 _ _ rfl (by intro _; simp [go_sem]) HAk ?_
      simp only [Act.put, List.setIfInBounds_toArray, List.set_cons_zero, List.set_cons_succ]
      refine q_pure (.bool false) rfl (by intro _; simp [go_sem]) ?_
      simp only [Act.put, List.setIfInBounds_toArray, List.set_cons_zero, List.set_cons_succ]
      refine wpQuiet_nil fun w' hw' => ?_
      have HW := Lib.hid (HO.out.trans hw')
      clear hw' h1 h1' hg hg' HAk
      go_wp2_with fail
      go_roundw
      case rel => exact ⟨HW.out, q + 1, by simp, by omega⟩
      case measure => simp [intOf]; omega
    · go_wp2_with fail
      go_ret
      exact ⟨rfl, HO.out⟩

theorem rdec_post {r : Option (List It)} {w w' : World} {e : Ending} (h : RDecPost r w e w') : (r = none ∧ e = .returned (.tuple #[.slice none 0 0, .int .i64 41]) ∧ Only NoneOf w w') ∨
    ∃ ys A cap, r = some ys ∧ e = .returned (.tuple #[.slice A ys.length cap, .int .i64 0]) ∧ RowsAt w' A 7 (ys.map fun x => x.r.toList) ∧ Only NoneOf w w' := by
  obtain ⟨h1, h2⟩ := h
  cases r with
  | none => exact .inl ⟨rfl, h1, h2⟩
  | some ys =>
    obtain ⟨v, rfl, hr⟩ := h1
    obtain ⟨A, cap, rfl, hi⟩ := hr.at
    exact .inr ⟨ys, A, cap, rfl, rfl, hi, h2⟩

theorem dec_few {s : ByteArray} {xs : List It} (h : decL s = some xs) : xs.length ≤ 64 := by
  rcases enc_ok (dec_some h) with ⟨_, h, _⟩ | h | h
  · exact h
  · simp at h
  · simp at h

set_option maxRecDepth 100000 in
set_option maxHeartbeats 2000000 in
theorem decodes_walk (s : ByteArray) (w : World) (hs : s.size ≤ 1048576) : Calls Try.prog 7 #[.string s] w (Ans (.bool true) w) := by
  have hAw := fun u => Lib.hid (awake_is u)
  have HD := Lib.hid fun u => decode_is s u (by omega)
  have HE := Lib.hid fun u => rdecode_is s u (by omega)
  rw [ref_dec] at HE
  obtain ⟨R, HR⟩ : ∃ R, Hid (decL s = R) := ⟨_, Lib.hid rfl⟩
  have hf := fun xs => @dec_few s xs
  rw [HR.out] at HD HE hf
  have HF := Lib.hid hf
  clear hf
  go_enter Try.func7, Try.ntmps7
  go_wp2_with fail
  refine (HD.out _).mono ?_; intro e0 w1 hd
  rcases dec_post hd with ⟨rfl, rfl, ho1⟩ | ⟨ys, A, cap, rfl, rfl, hi, _, ho1⟩
  · have HO1 := Lib.hid ho1
    clear ho1 hd
    go_wp2_with fail
    refine (HE.out _).mono ?_; intro e0 w2 hd
    rcases rdec_post hd with ⟨_, rfl, ho2⟩ | ⟨zs, A', cap', h, _⟩
    · have HO2 := Lib.hid (HO1.out.trans ho2)
      have HA := fun u => Lib.hid (allAlike_is [] none none 0 0 u (fun i r h => by simp at h) (fun i r h => by simp at h) (by simp))
      clear ho2 hd
      go_wp2_with fail
      refine (HA _).out.mono ?_; rintro e0 w3 ⟨rfl, ho3⟩
      have HO3 := Lib.hid (HO2.out.trans ho3)
      clear ho3
      go_wp2_with fail
      refine (hAw _).out.mono ?_; rintro e0 w4 ⟨rfl, ho4⟩
      have HO4 := Lib.hid (HO3.out.trans ho4)
      clear ho4
      go_wp2_with fail
      go_ret
      exact ⟨rfl, HO4.out⟩
    · cases h
  · have HO1 := Lib.hid ho1
    have HI := Lib.hid (items_rows hi)
    have hlen := HF.out _ rfl
    clear ho1 hd hi
    go_wp2_with fail
    refine (HE.out _).mono ?_; intro e0 w2 hd
    rcases rdec_post hd with ⟨h, _⟩ | ⟨zs, A', cap', h, rfl, hj, ho2⟩
    · cases h
    · obtain rfl : ys = zs := by simpa using h
      have HO2 := Lib.hid (HO1.out.trans ho2)
      have HI2 := Lib.hid (HI.out.keep ho2)
      have HJ := Lib.hid hj
      have HA := fun u (h1 : RowsAt u A 6 (ys.map fun x => x.c.toList)) h2 => Lib.hid (allAlike_is ys A A' cap cap' u h1 h2 (by omega))
      have HAA := Lib.hid HA
      clear ho2 hd hj h HA
      go_wp2_with fail
      refine (HAA.out _ HI2.out HJ.out).out.mono ?_; rintro e0 w3 ⟨rfl, ho3⟩
      have HO3 := Lib.hid (HO2.out.trans ho3)
      clear ho3
      go_wp2_with fail
      refine (hAw _).out.mono ?_; rintro e0 w4 ⟨rfl, ho4⟩
      have HO4 := Lib.hid (HO3.out.trans ho4)
      clear ho4
      go_wp2_with fail
      go_ret
      exact ⟨rfl, HO4.out⟩

end Go.Proofs.Ytimoenpfnaaehaa
