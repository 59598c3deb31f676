/-
  Layer 4's law OrderBeginnings, walked.
-/
import Derived.Test.YtimoenpfnaaehaaOK2
import Derived.Test.YtimoenpfnaaehaaOU1
namespace Go.Proofs.Ytimoenpfnaaehaa
open Go.RowKit

def pairZ (p : It × It) : Bool := decide (p.1.cmp p.2 = 0)
theorem first_zip : ∀ xs ys : List It, firstB xs ys = (decide (ys.length ≤ xs.length) && (xs.zip ys).all pairZ)
  | [], [] => by decide
  | [], _ :: _ => by simp [firstB]
  | _ :: _, [] => by simp [firstB]
  | x :: xs, y :: ys => by
    unfold firstB
    rw [first_zip xs ys]
    simp only [List.length_cons, List.zip_cons_cons, List.all_cons, Nat.add_le_add_iff_right, pairZ]
    cases decide (x.cmp y = 0) <;> simp

/-- so far -/
def firstQ (xs ys : List It) (q : Nat) : Bool := decide (ys.length ≤ xs.length) && ((xs.zip ys).take q).all pairZ
theorem firstQ_zero (xs ys : List It) : firstQ xs ys 0 = decide (ys.length ≤ xs.length) := by simp [firstQ]
theorem firstQ_next {xs ys : List It} {q : Nat} (hx : q < xs.length) (hy : q < ys.length) : firstQ xs ys (q + 1) = (firstQ xs ys q && decide ((xs[q]).cmp ys[q] = 0)) := by
  have hz : q < (xs.zip ys).length := by simp; omega
  unfold firstQ
  rw [List.take_succ_eq_append_getElem hz, List.all_append, List.getElem_zip]
  simp [pairZ, Bool.and_assoc]
theorem firstQ_end {xs ys : List It} {q : Nat} (h : min xs.length ys.length ≤ q) : firstQ xs ys q = firstB xs ys := by
  rw [first_zip, firstQ, List.take_of_length_le (by simp; omega)]

theorem enc_take {xs : List It} {r : ByteArray} (h : encL xs = (r, 0)) (q : Nat) : encL (xs.take q) = (⟨(bytesOf (xs.take q)).toArray⟩, 0) ∧ begB r ⟨(bytesOf (xs.take q)).toArray⟩ = true := by
  rcases enc_ok h with ⟨_, h1, h2, rfl⟩ | h0 | h0
  rotate_left
  · simp at h0
  · simp at h0
  refine ⟨?_, ?_⟩
  · unfold encL
    rw [if_neg (by simp; omega), if_pos]
    exact List.all_eq_true.2 fun x hx => List.all_eq_true.1 h2 x (List.mem_of_mem_take hx)
  · unfold begB
    rw [List.isPrefixOf_iff_prefix]
    have h3 : bytesOf (xs.take q ++ xs.drop q) = bytesOf (xs.take q) ++ bytesOf (xs.drop q) := List.flatMap_append
    rw [List.take_append_drop] at h3
    show bytesOf (xs.take q) <+: bytesOf xs
    rw [h3]
    exact List.prefix_append _ _

theorem begins_first {xs ys : List It} (hx : Small xs) (hy : Small ys) {r r' : ByteArray} (h : encL xs = (r, 0)) (h' : encL ys = (r', 0)) : begB r r' = firstB xs ys := by
  rcases enc_ok h with ⟨_, _, h1, rfl⟩ | h0 | h0
  rotate_left
  · simp at h0
  · simp at h0
  rcases enc_ok h' with ⟨_, _, h2, rfl⟩ | h0 | h0
  rotate_left
  · simp at h0
  · simp at h0
  exact all_first (hx.fine h1) (hy.fine h2)

theorem RawsAt.take {w : World} {A : Option Addr} {xs : List It} (h : RawsAt w A xs) (q : Nat) : RawsAt w A (xs.take q) := fun i x hx => by
  rw [List.getElem?_take] at hx
  split at hx
  · exact h i x hx
  · cases hx

def LenRel (w : World) (n : Nat) (i : Value) (wr : World) : Prop := Only NoneOf w wr ∧ ∃ q : Nat, i = .int .i64 q ∧ q ≤ n + 1
def FirstRel (xs ys : List It) (w : World) (v i : Value) (wr : World) : Prop := Only NoneOf w wr ∧ ∃ q : Nat, i = .int .i64 q ∧ q ≤ min xs.length ys.length ∧ v = .bool (firstQ xs ys q)

set_option maxRecDepth 100000 in
set_option maxHeartbeats 1000000 in
theorem beginnings_walk (xs ys : List It) (A B : Option Addr) (n m : Nat) (w : World) (hnx : xs.length ≤ n) (hA : RawsAt w A xs) (hB : RawsAt w B ys) (hX : Small xs) (hY : Small ys) : Calls Try.prog 10 #[.slice A xs.length n, .slice B ys.length m] w (Ans (.bool true) w) := by
  have HA := Lib.hid hA
  have HB := Lib.hid hB
  have hAw := fun u => Lib.hid (awake_is u)
  have lx : xs.length ≤ 4398046511104 := Nat.le_trans hX.len (by omega)
  have ly : ys.length ≤ 4398046511104 := Nat.le_trans hY.len (by omega)
  have WX := Lib.hid hX.wf
  have WY := Lib.hid hY.wf
  have HK := Lib.hid fun r r' => @begins_first xs ys hX hY r r'
  clear hA hB hX hY
  cases hex : encL xs with
  | mk r e =>
  cases hey : encL ys with
  | mk r' e' =>
  have HEX := Lib.hid hex
  have HEY := Lib.hid hey
  clear hex hey
  go_enter Try.func10, Try.ntmps10
  go_wp2_with fail
  refine (hAw _).out.mono ?_; rintro e0 w0 ⟨rfl, ho0⟩
  have HO0 := Lib.hid ho0
  clear ho0
  go_wp2_with fail
  refine (items_is xs A n w0 (HA.out.keep HO0.out) lx).mono ?_; rintro e0 w1 ⟨b1, rfl, hb1, h1, ho1⟩
  have HO1 := Lib.hid (HO0.out.trans ho1)
  have H1 := Lib.hid h1.items
  clear ho1 h1 hb1
  go_wp2_with fail
  refine (encode_is w1 _ _ _ xs rfl (by omega) H1.out WX.out).mono ?_; rintro e0 w2 ⟨rfl, ho2⟩
  rw [HEX.out]
  have HO2 := Lib.hid (HO1.out.trans ho2)
  clear ho2 H1
  go_wp2_with fail
  refine (items_is ys B m w2 (HB.out.keep HO2.out) ly).mono ?_; rintro e0 w3 ⟨b3, rfl, hb3, h3, ho3⟩
  have HO3 := Lib.hid (HO2.out.trans ho3)
  have H3 := Lib.hid h3.items
  clear ho3 h3 hb3
  go_wp2_with fail
  refine (encode_is w3 _ _ _ ys rfl (by omega) H3.out WY.out).mono ?_; rintro e0 w4 ⟨rfl, ho4⟩
  rw [HEY.out]
  have HO4 := Lib.hid (HO3.out.trans ho4)
  clear ho4 H3
  by_cases he : e = 0
  rotate_left
  · go_wp2_with fail
    go_ret
    exact ⟨rfl, HO4.out⟩
  by_cases he' : e' = 0
  rotate_left
  · go_wp2_with fail
    go_ret
    exact ⟨rfl, HO4.out⟩
  subst he; subst he'
  have HT := fun q => Lib.hid (enc_take HEX.out q)
  have HZ := Lib.hid (HK.out _ _ HEX.out HEY.out)
  have hBg := fun x p u => Lib.hid (begins_is x p u)
  clear HK
  go_wp2_with fail
  go_loopw [9] (fun i wr => LenRel w xs.length i wr) (fun i _ => xs.length + 1 - (intOf i).toNat)
  case atStart => exact ⟨HO4.out, 0, rfl, by omega⟩
  case round =>
    obtain ⟨ho, q, rfl, hq⟩ := hrel
    have HO := Lib.hid ho
    clear ho
    by_cases hlt : q ≤ xs.length
    · obtain ⟨ht1, ht2⟩ := (HT q).out
      have HT1 := Lib.hid ht1
      have hlen : (xs.take q).length = q := by simp; omega
      have hcap : q ≤ n := by omega
      have HI := Lib.hid (fun u (ho : Only NoneOf w u) => items_is (xs.take q) A n u ((HA.out.keep ho).take q) (by rw [hlen]; omega))
      rw [hlen] at HI
      go_wp2_with fail
      refine (HI.out wr HO.out).mono ?_; rintro e0 w5 ⟨b5, rfl, hb5, h5, ho5⟩
      have HO5 := Lib.hid (HO.out.trans ho5)
      have H5 := Lib.hid h5.items
      clear ho5 h5 hb5 HI
      go_wp2_with fail
      refine (encode_is w5 _ _ _ (xs.take q) hlen (by omega) H5.out (fun x hx => WX.out x (List.mem_of_mem_take hx))).mono ?_; rintro e0 w6 ⟨rfl, ho6⟩
      rw [HT1.out]
      have HO6 := Lib.hid (HO5.out.trans ho6)
      clear ho6 H5
      go_wp2_with fail
      refine (hBg _ _ _).out.mono ?_; rintro e0 w7 ⟨rfl, rfl⟩
      rw [ht2]
      go_wp2_with fail
      go_roundw
      case rel => exact ⟨HO6.out, q + 1, by simp, by omega⟩
      case measure => simp [intOf]; omega
    · have hq' : q = xs.length + 1 := by omega
      subst hq'
      go_wp2_with fail
      go_loopw [12, 13] (fun v i wr => FirstRel xs ys w v i wr) (fun _ i _ => xs.length - (intOf i).toNat)
      case atStart => exact ⟨HO.out, 0, rfl, by omega, by rw [firstQ_zero]⟩
      case round =>
        clear HO hq hlt
        obtain ⟨ho, q, rfl, hq, rfl⟩ := hrel
        have HO := Lib.hid ho
        clear ho
        by_cases hlt : q < min xs.length ys.length
        · have hlx : q < xs.length := by omega
          have hly : q < ys.length := by omega
          obtain ⟨g, off, rfl, hg, h1⟩ := (raws_rows (HA.out.keep HO.out)) q xs[q].r.toList (by simp [hlx])
          obtain ⟨g', off', rfl, hg', h1'⟩ := (raws_rows (HB.out.keep HO.out)) q ys[q].r.toList (by simp [hly])
          have HE := Lib.hid (firstQ_next hlx hly)
          have HI1 := fun u => Lib.hid (item_is xs[q].k xs[q].b xs[q].n xs[q].f xs[q].re xs[q].im xs[q].t u)
          have HI2 := fun u => Lib.hid (item_is ys[q].k ys[q].b ys[q].n ys[q].f ys[q].re ys[q].im ys[q].t u)
          have HI := fun u => Lib.hid (compare_is xs[q] ys[q] u)
          generalize xs[q] = x at *
          generalize ys[q] = y at *
          go_upto_region 17 with (fail)
          refine wp_region_aft (by kernel_rfl) (by kernel_rfl) ?_
          refine q_mv (.slice (some ⟨g, off, none⟩) xs.length n) _ rfl (.inl rfl) rfl ?_
          simp only [Act.put, List.setIfInBounds_toArray, List.set_cons_zero, List.set_cons_succ]
          refine q_mv (.int .i64 q) _ rfl (.inl rfl) rfl ?_
          simp only [Act.put, List.setIfInBounds_toArray, List.set_cons_zero, List.set_cons_succ]
          refine q_pure (.pointer (some ⟨g, off + q * 7, none⟩)) rfl (by intro _; simp [go_sem, hlx]) ?_
          simp only [Act.put, List.setIfInBounds_toArray, List.set_cons_zero, List.set_cons_succ]
          refine q_mid 25 (.tmp 75) g (off + q * 7) _ _ rfl rfl rfl h1 hg Try.underlying25 rfl info25 ?_
          simp only [Act.put, List.setIfInBounds_toArray, List.set_cons_zero, List.set_cons_succ]
          refine q_call 18 _ _ rfl (by intro _; simp [go_sem]) HI1 ?_
          simp only [Act.put, List.setIfInBounds_toArray, List.set_cons_zero, List.set_cons_succ]
          refine q_mv (.slice (some ⟨g', off', none⟩) ys.length m) _ rfl (.inl rfl) rfl ?_
          simp only [Act.put, List.setIfInBounds_toArray, List.set_cons_zero, List.set_cons_succ]
          refine q_mv (.int .i64 q) _ rfl (.inl rfl) rfl ?_
          simp only [Act.put, List.setIfInBounds_toArray, List.set_cons_zero, List.set_cons_succ]
          refine q_pure (.pointer (some ⟨g', off' + q * 7, none⟩)) rfl (by intro _; simp [go_sem, hly]) ?_
          simp only [Act.put, List.setIfInBounds_toArray, List.set_cons_zero, List.set_cons_succ]
          refine q_mid 25 (.tmp 80) g' (off' + q * 7) _ _ rfl rfl rfl h1' hg' Try.underlying25 rfl info25 ?_
          simp only [Act.put, List.setIfInBounds_toArray, List.set_cons_zero, List.set_cons_succ]
          refine q_call 18 _ _ rfl (by intro _; simp [go_sem]) HI2 ?_
          simp only [Act.put, List.setIfInBounds_toArray, List.set_cons_zero, List.set_cons_succ]
          refine q_call 25 _ _ rfl (by intro _; simp [go_sem]) HI ?_
          simp only [Act.put, List.setIfInBounds_toArray, List.set_cons_zero, List.set_cons_succ]
          refine q_pure (.bool (x.cmp y != 0)) rfl (by intro _; simp [go_sem]) ?_
          simp only [Act.put, List.setIfInBounds_toArray, List.set_cons_zero, List.set_cons_succ]
          refine wpQuiet_nil fun w' hw' => ?_
          have HW := Lib.hid (HO.out.trans hw')
          clear hw' h1 h1' hg hg' HI HI1 HI2
          by_cases he : x.cmp y = 0
          · go_wp2_with fail
            go_roundw
            case rel => 
              exact ⟨HW.out, q + 1, by simp, by omega, by rw [HE.out]; simp [he]⟩
            case measure => simp [intOf]; omega
          · go_wp2_with fail
            go_roundw
            case rel => 
              exact ⟨HW.out, q + 1, by simp, by omega, by rw [HE.out]; simp [he]⟩
            case measure => simp [intOf]; omega
        · have hz := firstQ_end (show min xs.length ys.length ≤ q by omega)
          have HZ' := Lib.hid (HZ.out.trans hz.symm)
          by_cases hn : q < xs.length
          · have hm : ¬ q < ys.length := by omega
            go_wp2_with fail
            refine (hBg _ _ _).out.mono ?_; rintro e0 w7 ⟨rfl, rfl⟩
            rw [HZ'.out]
            go_wp2_with fail
            go_ret
            exact ⟨by simp, HO.out⟩
          · go_wp2_with fail
            refine (hBg _ _ _).out.mono ?_; rintro e0 w7 ⟨rfl, rfl⟩
            rw [HZ'.out]
            go_wp2_with fail
            go_ret
            exact ⟨by simp, HO.out⟩

end Go.Proofs.Ytimoenpfnaaehaa
