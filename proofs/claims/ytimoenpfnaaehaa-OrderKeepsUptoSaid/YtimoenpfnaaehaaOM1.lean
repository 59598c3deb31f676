/-
  Layer 4: the reference's numbers laid down (functions 60, 61).
-/
import Derived.Test.YtimoenpfnaaehaaO7
import Derived.Test.YtimoenpfnaaehaaOR2
namespace Go.Proofs.Ytimoenpfnaaehaa
open Go.RowKit

def EightRel (w : World) (B u : Nat) (v : Value) (l : List UInt8) (v0 i : Value) (wr : World) : Prop :=
  ∃ q : Nat, q ≤ 8 ∧ i = .int .i64 (8 * (q : Int) - 8) ∧ ∃ done, done ++ lastB u q = put8 u ∧ Went B v w v0 (l ++ done) wr

set_option maxRecDepth 100000 in
set_option maxHeartbeats 1000000 in
theorem eight_is (w : World) (B : Nat) (v : Value) (l : List UInt8) (u : Nat) (hr : RowB w B v l) (hl : l.length ≤ 1099511627776) (hB : B ≤ w.heap.size) :
    Calls Try.prog 60 #[v, .int .u64 u] w (LaidPost B v (l ++ put8 u) w) := by
  have HR := Lib.hid hr
  clear hr
  go_enter Try.func60, Try.ntmps60
  go_wp2_with fail
  go_loopw [0, 5] (fun v0 i wr => EightRel w B u v l v0 i wr) (fun _ i _ => (intOf i + 8).toNat)
  case atStart => exact ⟨8, Nat.le_refl _, rfl, [], rfl, by simpa using HR.out, Only.refl _ _, fun k h => .inl h⟩
  case round =>
    obtain ⟨q, hq, rfl, done, hd, hw⟩ := hrel
    have HD := Lib.hid hd
    have HW := Lib.hid hw
    clear hw
    rcases q with _ | r
    · rw [show 8 * ((0 : Nat) : Int) - 8 = -8 by rfl]
      clear hd
      go_wp2_with fail
      go_ret
      have e : done = put8 u := (List.append_nil done).symm.trans HD.out
      have hw := HW.out
      rw [e] at hw
      exact LaidPost.of hw
    · rw [show 8 * ((r + 1 : Nat) : Int) - 8 = ((8 * r : Nat) : Int) by omega]
      have hdl : done.length ≤ 8 := by
        have := congrArg List.length hd
        simp [lastB_len] at this
        omega
      have hsz := HW.out.2.1.size
      have hN := Blk.new wr 5 #[.int .u8 ((u : Int) / 2 ^ (8 * r) % 256)]
      have HB := Lib.hid (show #[Value.int .u8 ((u : Int) / 2 ^ (8 * r) % 256)].toList = [UInt8.ofNat (u / 256 ^ r)].map byteV by
        simp only [List.map_cons, List.map_nil, byteV, byte_ofNat, Int.natCast_ediv, Int.natCast_pow]
        rw [show ((256 : Nat) : Int) ^ r = 2 ^ (8 * r) by rw [Int.pow_mul]; rfl])
      clear hd
      go_wp2_with (at_builtin; refine app_bytes rfl (.tmp 10) (.tmp 16) rfl B _ (l ++ done) rfl (HW.out.1.alloc' _) wr.heap.size 1 1 [UInt8.ofNat (u / 256 ^ r)] _ rfl (by decide) HB.out rfl hN (by simp; omega) (by simp; omega) ?_; intro v2 w2 g1 g2 g3; have HG := Lib.hid (HW.out.step ((Only.refl NoneOf wr).alloc _) g1 g2 g3); clear g1 g2 g3)
      go_roundw
      case rel => exact ⟨r, by omega, by simp, done ++ [UInt8.ofNat (u / 256 ^ r)], by simpa [lastB] using HD.out, by simpa using HG.out⟩
      case measure => simp [intOf]; omega

set_option maxRecDepth 100000 in
set_option maxHeartbeats 1000000 in
theorem float_is (w : World) (B : Nat) (v : Value) (l : List UInt8) (a : Nat) (ha : a < 18446744073709551616) (hr : RowB w B v l) (hl : l.length ≤ 1099511627776) (hB : B ≤ w.heap.size) :
    Calls Try.prog 61 #[v, .int .u64 a] w (LaidPost B v (l ++ put8 (turnB (cln a))) w) := by
  have HC := fun u => Lib.hid (cleanBits_is a ha u)
  have hc := cln_lt ha
  have hE := fun n => eight_is w B v l n hr hl hB
  clear hr
  generalize cln a = c at *
  by_cases h : c < 9223372036854775808
  · have hE1 : Calls Try.prog 60 #[v, .int .u64 ((c : Int) + 9223372036854775808)] w (LaidPost B v (l ++ put8 (turnB c)) w) := by
      have := hE (c + 9223372036854775808)
      rw [show ((c + 9223372036854775808 : Nat) : Int) = (c : Int) + 9223372036854775808 by omega] at this
      rw [show turnB c = c + 9223372036854775808 by unfold turnB; rw [if_pos h]]
      exact this
    generalize put8 (turnB c) = R at *
    have HE := Lib.hid hE1
    clear hE hE1
    have h0 : ((c : Int) < 9223372036854775808) := by omega
    clear hc h
    go_enter Try.func61, Try.ntmps61
    go_wp2_with fail
    refine (HC _).out.mono ?_; rintro e w1 ⟨rfl, rfl⟩
    go_wp2_with fail
    refine HE.out.mono ?_; rintro e w1 ⟨v', rfl, h1⟩
    have H1 := Lib.hid h1
    clear h1
    go_wp2_with fail
    go_ret
    exact ⟨v', rfl, H1.out⟩
  · have hE1 : Calls Try.prog 60 #[v, .int .u64 (bits .xor .u64 IntKind.u64.max (c : Int))] w (LaidPost B v (l ++ put8 (turnB c)) w) := by
      rw [all_xor c hc, show turnB c = 18446744073709551615 - c by unfold turnB; rw [if_neg h]]
      exact hE _
    generalize put8 (turnB c) = R at *
    have HE := Lib.hid hE1
    have hs : IntKind.u64.signed = false := rfl
    clear hE hE1
    have h0 : decide ((c : Int) < 9223372036854775808) = false := decide_eq_false (by omega)
    clear hc h
    go_enter Try.func61, Try.ntmps61
    go_wp2_with fail
    refine (HC _).out.mono ?_; rintro e w1 ⟨rfl, rfl⟩
    go_wp2_with fail
    refine HE.out.mono ?_; rintro e w1 ⟨v', rfl, h1⟩
    have H1 := Lib.hid h1
    clear h1
    go_wp2_with fail
    go_ret
    exact ⟨v', rfl, H1.out⟩

end Go.Proofs.Ytimoenpfnaaehaa
