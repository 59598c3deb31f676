/-
  Layer 4's reference (cloisterref04): Texts.
-/
import Derived.Test.YtimoenpfnaaehaaOR2
import Derived.BigQuiet
namespace Go.Proofs.Ytimoenpfnaaehaa
open Go.RowKit

def cmpFrom (a b : ByteArray) (i : Nat) : Int := Lib.compareBytes (a.data.toList.drop i) (b.data.toList.drop i)
theorem cmpFrom_eq {a b : ByteArray} {i : Nat} (ha : i < a.size) (hb : i < b.size) (h : a[i] = b[i]) : cmpFrom a b i = cmpFrom a b (i + 1) := by
  unfold cmpFrom
  rw [List.drop_eq_getElem_cons (show i < a.data.toList.length by simpa using ha), List.drop_eq_getElem_cons (show i < b.data.toList.length by simpa using hb)]
  have ea : a.data.toList[i]'(by simpa using ha) = a[i] := by simp; rfl
  have eb : b.data.toList[i]'(by simpa using hb) = b[i] := by simp; rfl
  have h' : a.data.toList[i]'(by simpa using ha) = b.data.toList[i]'(by simpa using hb) := by rw [ea, eb, h]
  rw [h']
  show (if _ then _ else if _ then _ else _) = _
  rw [if_neg (by simp), if_neg (by simp)]
theorem cmpFrom_ne {a b : ByteArray} {i : Nat} (ha : i < a.size) (hb : i < b.size) (h : a[i] ≠ b[i]) : cmpFrom a b i = cmpI (a[i].toNat : Int) (b[i].toNat : Int) := by
  unfold cmpFrom
  rw [List.drop_eq_getElem_cons (show i < a.data.toList.length by simpa using ha), List.drop_eq_getElem_cons (show i < b.data.toList.length by simpa using hb)]
  have ea : a.data.toList[i]'(by simpa using ha) = a[i] := by simp; rfl
  have eb : b.data.toList[i]'(by simpa using hb) = b[i] := by simp; rfl
  rw [ea, eb]
  have hn : a[i].toNat ≠ b[i].toNat := fun e => h (UInt8.toNat_inj.1 e)
  show (if a[i] < b[i] then (-1 : Int) else if b[i] < a[i] then 1 else _) = _
  unfold cmpI
  rcases Nat.lt_or_gt_of_ne hn with hl | hl
  · rw [if_pos (UInt8.lt_iff_toNat_lt.2 hl), if_pos (by omega)]
  · rw [if_neg (fun e => by have := UInt8.lt_iff_toNat_lt.1 e; omega), if_pos (UInt8.lt_iff_toNat_lt.2 hl), if_neg (by omega), if_pos (by omega)]
theorem cmpFrom_end {a b : ByteArray} {i : Nat} (ha : i ≤ a.size) (hb : i ≤ b.size) (h : i = a.size ∨ i = b.size) : cmpFrom a b i = cmpI (a.size : Int) (b.size : Int) := by
  unfold cmpFrom cmpI
  have la : a.data.toList.length = a.size := by simp
  have lb : b.data.toList.length = b.size := by simp
  by_cases e1 : i = a.size
  · rw [List.drop_eq_nil_of_le (show a.data.toList.length ≤ i by omega)]
    by_cases e2 : i = b.size
    · rw [List.drop_eq_nil_of_le (show b.data.toList.length ≤ i by omega), if_neg (by omega), if_neg (by omega)]
      rfl
    · rw [List.drop_eq_getElem_cons (show i < b.data.toList.length by omega), if_pos (by omega)]
      rfl
  · have e2 : i = b.size := by omega
    rw [List.drop_eq_nil_of_le (show b.data.toList.length ≤ i by omega), List.drop_eq_getElem_cons (show i < a.data.toList.length by omega), if_neg (by omega), if_pos (by omega)]
    rfl

def TextsRel (a b : ByteArray) (w : World) (i : Value) (wr : World) : Prop := Only NoneOf w wr ∧ ∃ q : Nat, i = .int .i64 q ∧ q ≤ a.size ∧ q ≤ b.size ∧ cmpS a b = cmpFrom a b q

set_option maxRecDepth 100000 in
set_option maxHeartbeats 1000000 in
theorem texts_is (a b : ByteArray) (w : World) (ha : a.size ≤ 9223372036854775807) : Calls Try.prog 56 #[.string a, .string b] w (Ans (.int .i64 (cmpS a b)) w) := by
  obtain ⟨R, HRS⟩ : ∃ R, Hid (cmpS a b = R) := ⟨_, Lib.hid rfl⟩
  rw [HRS.out]
  go_enter Try.func56, Try.ntmps56
  go_wp2_with fail
  go_loopw [5] (fun i wr => TextsRel a b w i wr) (fun i _ => a.size - (intOf i).toNat)
  case atStart => exact ⟨Only.refl _ _, 0, rfl, Nat.zero_le _, Nat.zero_le _, rfl⟩
  case round =>
    obtain ⟨ho, q, rfl, hqa, hqb, hu⟩ := hrel
    have HU := Lib.hid hu
    have HO := Lib.hid ho
    clear hu ho
    by_cases h1 : q < a.size
    · by_cases h2 : q < b.size
      · by_cases hc : a[q] = b[q]
        · have hd : ((a[q].toNat : Int) != (b[q].toNat : Int)) = false := by rw [hc]; simp
          have HV := Lib.hid (cmpFrom_eq h1 h2 hc)
          clear hc
          go_wp2_with fail
          go_quiet (fail)
          go_wp2_with fail
          go_roundw
          case rel => exact ⟨HO.out.drewN _, q + 1, by go_num, by omega, by omega, HU.out.trans HV.out⟩
          case measure => simp [intOf]; omega
        · have hd : ((a[q].toNat : Int) != (b[q].toNat : Int)) = true := by
            have : ¬ (a[q].toNat : Int) = (b[q].toNat : Int) := fun e => hc (UInt8.toNat_inj.1 (by omega))
            simp [this]
          have HV := Lib.hid (cmpFrom_ne h1 h2 hc)
          clear hc
          go_wp2_with fail
          go_quiet (fail)
          go_wp2_with fail
          go_still_tail 8, (by kernel_rfl)
          go_wp2_with fail
          refine (ints_is _ _ _).mono ?_; rintro e w2 ⟨rfl, rfl⟩
          go_wp2_with fail
          go_ret
          refine ⟨?_, by first | exact (HO.out.drewN _).drew | exact HO.out.drew | exact HO.out⟩
          have l1 := a[q].toNat_lt
          have l2 := b[q].toNat_lt
          rw [← HRS.out, HU.out, HV.out]
          show Ending.returned (Value.int .i64 (cmpI (wrap64 (a[q].toNat : Int)) (wrap64 (b[q].toNat : Int)))) = _
          rw [IntWalk.wrap64_in (a[q].toNat : Int) (by omega), IntWalk.wrap64_in (b[q].toNat : Int) (by omega)]
      · have HV := Lib.hid (cmpFrom_end hqa hqb (.inr (by omega)))
        go_wp2_with fail
        refine (ints_is _ _ _).mono ?_; rintro e w2 ⟨rfl, rfl⟩
        go_wp2_with fail
        go_ret
        exact ⟨by rw [← HRS.out, HU.out, HV.out]; rfl, HO.out⟩
    · have HV := Lib.hid (cmpFrom_end hqa hqb (.inl (by omega)))
      go_wp2_with fail
      refine (ints_is _ _ _).mono ?_; rintro e w2 ⟨rfl, rfl⟩
      go_wp2_with fail
      go_ret
      exact ⟨by rw [← HRS.out, HU.out, HV.out]; rfl, HO.out⟩

end Go.Proofs.Ytimoenpfnaaehaa
