/-
  Layer 4: Next.
-/
import Derived.Test.YtimoenpfnaaehaaO7
import Derived.RegionTactic
import Derived.ChangeAlike
namespace Go.Proofs.Ytimoenpfnaaehaa
open Go.RowKit

/-- The place of the last byte that is not 255, ahead of q. -/
def upAt (s : ByteArray) : Nat → Option Nat
  | 0 => none
  | q + 1 => if s.data.toList.getD q 0 = 255 then upAt s q else some q
theorem upAt_some {s : ByteArray} : ∀ {q k : Nat}, upAt s q = some k → k < q ∧ s.data.toList.getD k 0 ≠ 255 ∧ ∀ j, k < j → j < q → s.data.toList.getD j 0 = 255
  | 0, k, h => by cases h
  | q + 1, k, h => by
    unfold upAt at h
    split at h
    · rename_i he
      obtain ⟨h1, h2, h3⟩ := upAt_some h
      exact ⟨by omega, h2, fun j hj hq => by
        by_cases e : j = q
        · rw [e]; exact he
        · exact h3 j hj (by omega)⟩
    · rename_i he
      injection h with h
      subst h
      exact ⟨by omega, he, fun j hj hq => by omega⟩
theorem upAt_none {s : ByteArray} : ∀ {q : Nat}, upAt s q = none → ∀ j, j < q → s.data.toList.getD j 0 = 255
  | 0, _ => fun j hj => absurd hj (by omega)
  | q + 1, h => by
    unfold upAt at h
    split at h
    · rename_i he
      intro j hj
      by_cases e : j = q
      · rw [e]; exact he
      · exact upAt_none h j (by omega)
    · cases h

/-- The text ahead of the place k, and its byte raised by one. -/
def raised (s : ByteArray) (k : Nat) : ByteArray := s.extract 0 k ++ ⟨#[UInt8.ofNat ((s.data.toList.getD k 0).toNat + 1)]⟩
/-- What Next answers. -/
def nextS (s : ByteArray) : ByteArray × Bool := match upAt s s.size with
  | none => (⟨#[]⟩, false)
  | some k => (raised s k, true)

/-- How a call ends that answers a text and whether. -/
def TBPost (r : ByteArray × Bool) (w : World) (e : Ending) (w' : World) : Prop := e = .returned (.tuple #[.string r.1, .bool r.2]) ∧ Only NoneOf w w'

theorem getD_get (s : ByteArray) (q : Nat) (h : q < s.size) : s.data.toList.getD q 0 = s[q] := by
  simp [List.getD, h]
  rfl
theorem one_byte (w : World) (x : Int) : (convert 84 9 (.slice (some ⟨w.heap.size, 0, none⟩) 1 1)).run Try.prog (w.alloc (.cells #[.int .u8 x] 5)).drew = .ok (.string ⟨#[UInt8.ofNat x.toNat]⟩) (w.alloc (.cells #[.int .u8 x] 5)).drew := by
  have h := run_convert_bytes_arg (w.alloc (.cells #[.int .u8 x] 5)).drew 84 5 Try.underlying84 Try.underlying5 w.heap.size 0 1 1 [x] rfl (fun i hi => by
    obtain rfl : i = 0 := by omega
    exact (Blk.new w 5 #[.int .u8 x]).drew.cellv 0 rfl) 9 Try.underlying9
  rw [h]
  rfl

theorem ne255 {c : UInt8} (h : c ≠ 255) : ((c.toNat : Int) == 255) = false ∧ ((c.toNat : Int) != 255) = true := by
  have : ¬ (c.toNat : Int) = 255 := fun e => h (UInt8.toNat_inj.1 (by show c.toNat = 255; omega))
  constructor
  · simp [this]
  · simp [this]

theorem raise_ok (s : ByteArray) (q : Nat) (h : q < s.size) : s.extract 0 q ++ ⟨#[UInt8.ofNat ((((s[q].toNat : Int) + 1) % 256)).toNat]⟩ = raised s q := by
  unfold raised
  rw [getD_get s q h]
  congr 4
  apply UInt8.toNat_inj.1
  simp
  omega

def NextRel (s : ByteArray) (w : World) (i : Value) (wr : World) : Prop := wr = w ∧ ∃ q : Nat, i = .int .i64 ((q : Int) - 1) ∧ q ≤ s.size ∧ upAt s q = upAt s s.size

set_option maxRecDepth 100000 in
set_option maxHeartbeats 1000000 in
theorem next_is (s : ByteArray) (w : World) (hs : s.size ≤ 9223372036854775807) : Calls Try.prog 34 #[.string s] w (TBPost (nextS s) w) := by
  have HR := Lib.hid (show nextS s = nextS s from rfl)
  obtain ⟨R, HRS⟩ : ∃ R, Hid (nextS s = R) := ⟨_, Lib.hid rfl⟩
  rw [HRS.out]
  clear HR
  go_enter Try.func34, Try.ntmps34
  go_wp2_with fail
  go_loopw [4] (fun i wr => NextRel s w i wr) (fun i _ => (intOf i + 1).toNat)
  case atStart => exact ⟨rfl, s.size, rfl, Nat.le_refl _, rfl⟩
  case round =>
    obtain ⟨rfl, q, rfl, hq, hu⟩ := hrel
    have HU := Lib.hid hu
    clear hu
    rcases q with _ | q
    · rw [show ((0 : Nat) : Int) - 1 = -1 by rfl]
      go_wp2_with fail
      go_ret2
      have e : R = (⟨#[]⟩, false) := by rw [← HRS.out]; unfold nextS; rw [← HU.out]; rfl
      exact ⟨by rw [e]; rfl, Only.refl _ _⟩
    · rw [show ((q + 1 : Nat) : Int) - 1 = q by omega]
      have hlt : q < s.size := by omega
      by_cases hc : s[q] = 255
      · have h0 : ((s[q].toNat : Int) == 255) = true := by rw [hc]; rfl
        have HV := Lib.hid (show upAt s (q + 1) = upAt s q by
          show (if s.data.toList.getD q 0 = 255 then upAt s q else some q) = _
          rw [getD_get s q hlt, if_pos hc])
        clear hc
        go_wp2_with fail
        go_roundw
        case rel => exact ⟨rfl, q, rfl, by omega, HV.out.symm.trans HU.out⟩
        case measure => simp [intOf]
      · obtain ⟨h0, _⟩ := ne255 hc
        have HV := Lib.hid (show upAt s (q + 1) = some q by
          show (if s.data.toList.getD q 0 = 255 then upAt s q else some q) = _
          rw [getD_get s q hlt, if_neg hc])
        clear hc
        have hle : q ≤ s.size := by omega
        have hcv := one_byte wr (((s[q].toNat : Int) + 1) % 256)
        have HE := Lib.hid (raise_ok s q hlt)
        go_wp2_with fail
        go_region
        go_wp2_with fail
        go_ret2
        have e : R = (raised s q, true) := by rw [← HRS.out]; unfold nextS; rw [← HU.out, HV.out]
        exact ⟨by rw [e, ← HE.out]; rfl, ((Only.refl _ _).alloc _).drew⟩

set_option maxRecDepth 100000 in
set_option maxHeartbeats 1000000 in
theorem rnext_is (s : ByteArray) (w : World) (hs : s.size ≤ 9223372036854775807) : Calls Try.prog 35 #[.string s] w (TBPost (nextS s) w) := by
  obtain ⟨R, HRS⟩ : ∃ R, Hid (nextS s = R) := ⟨_, Lib.hid rfl⟩
  rw [HRS.out]
  go_enter Try.func35, Try.ntmps35
  go_wp2_with fail
  go_loopw [4] (fun i wr => NextRel s w i wr) (fun i _ => (intOf i + 1).toNat)
  case atStart => exact ⟨rfl, s.size, rfl, Nat.le_refl _, rfl⟩
  case round =>
    obtain ⟨rfl, q, rfl, hq, hu⟩ := hrel
    have HU := Lib.hid hu
    clear hu
    rcases q with _ | q
    · rw [show ((0 : Nat) : Int) - 1 = -1 by rfl]
      go_wp2_with fail
      go_ret2
      have e : R = (⟨#[]⟩, false) := by rw [← HRS.out]; unfold nextS; rw [← HU.out]; rfl
      exact ⟨by rw [e]; rfl, Only.refl _ _⟩
    · rw [show ((q + 1 : Nat) : Int) - 1 = q by omega]
      have hlt : q < s.size := by omega
      by_cases hc : s[q] = 255
      · have h0 : ((s[q].toNat : Int) != 255) = false := by rw [hc]; rfl
        have HV := Lib.hid (show upAt s (q + 1) = upAt s q by
          show (if s.data.toList.getD q 0 = 255 then upAt s q else some q) = _
          rw [getD_get s q hlt, if_pos hc])
        clear hc
        go_wp2_with fail
        go_roundw
        case rel => exact ⟨rfl, q, rfl, by omega, HV.out.symm.trans HU.out⟩
        case measure => simp [intOf]
      · obtain ⟨_, h0⟩ := ne255 hc
        have HV := Lib.hid (show upAt s (q + 1) = some q by
          show (if s.data.toList.getD q 0 = 255 then upAt s q else some q) = _
          rw [getD_get s q hlt, if_neg hc])
        clear hc
        have hle : q ≤ s.size := by omega
        have hcv := one_byte wr (((s[q].toNat : Int) + 1) % 256)
        have HE := Lib.hid (raise_ok s q hlt)
        go_wp2_with fail
        go_region
        go_wp2_with fail
        go_ret2
        have e : R = (raised s q, true) := by rw [← HRS.out]; unfold nextS; rw [← HU.out, HV.out]
        exact ⟨by rw [e, ← HE.out]; rfl, ((Only.refl _ _).alloc _).drew⟩

end Go.Proofs.Ytimoenpfnaaehaa
