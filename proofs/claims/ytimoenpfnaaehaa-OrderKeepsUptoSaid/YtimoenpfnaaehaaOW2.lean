/-
  Layer 4: the reference's number, unfloat, untext (functions 73, 74, 75).
-/
import Derived.Test.YtimoenpfnaaehaaOW1
namespace Go.Proofs.Ytimoenpfnaaehaa
open Go.RowKit

def NumRel (l : List UInt8) (w : World) (u i : Value) (wr : World) : Prop := wr = w ∧ ∃ k : Nat, k ≤ 8 ∧ i = .int .i64 k ∧ u = .int .u64 (numB (l.take k) : Int)

theorem num_step (m : Nat) (c : UInt8) (h : m < 72057594037927936) : IntKind.u64.wrap (IntKind.u64.wrap ((m : Int) * 256) + IntKind.u64.wrap (c.toNat : Int)) = ((m * 256 + c.toNat : Nat) : Int) := by
  have hc := c.toNat_lt
  simp only [IntKind.wrap_u64]
  omega

set_option maxRecDepth 100000 in
set_option maxHeartbeats 1000000 in
theorem number_is (s : ByteArray) (p : Nat) (w : World) (hs : s.size ≤ 1073741824) (hp : p ≤ s.size) (h8 : 8 ≤ s.size - p) : Calls Try.prog 73 #[.string s, .int .i64 p] w (Same (.tuple #[.int .u64 (numB ((s.data.toList.drop p).take 8) : Int), .bool true]) w) := by
  go_enter Try.func73, Try.ntmps73
  go_wp2_with fail
  go_loopw [6, 7] (fun u i wr => NumRel (s.data.toList.drop p) w u i wr) (fun _ i _ => 8 - (intOf i).toNat)
  case atStart => exact ⟨rfl, 0, by omega, rfl, rfl⟩
  case round =>
    obtain ⟨rfl, k, hk, rfl, rfl⟩ := hrel
    by_cases hlt : k < 8
    · have hks : p + k < s.size := by omega
      have HT := Lib.hid (show (s.data.toList.drop p).take (k + 1) = (s.data.toList.drop p).take k ++ [s[p + k]] by
        rw [List.take_add_one, List.getElem?_drop]
        congr 1
        rw [List.getElem?_eq_getElem (by simpa using hks)]
        rfl)
      have HW := Lib.hid (num_step (numB ((s.data.toList.drop p).take k)) s[p + k] (num7_lt _ k hlt))
      go_wp2_with fail
      go_roundw
      case rel => exact ⟨rfl, k + 1, by omega, by go_num, by rw [HT.out, numB_snoc, ← HW.out]; try rfl⟩
      case measure => simp [intOf]; omega
    · obtain rfl : k = 8 := by omega
      go_wp2_with fail
      go_ret2
      exact ⟨rfl, rfl⟩

set_option maxHeartbeats 400000 in
theorem number_short (s : ByteArray) (p : Nat) (w : World) (hs : s.size ≤ 1073741824) (hp : p ≤ s.size) (h8 : s.size - p < 8) : Calls Try.prog 73 #[.string s, .int .i64 p] w (Same (.tuple #[.int .u64 0, .bool false]) w) := by
  go_enter Try.func73, Try.ntmps73
  go_wp2_with fail
  go_ret2
  exact ⟨rfl, rfl⟩

set_option maxRecDepth 100000 in
set_option maxHeartbeats 1000000 in
theorem unfloat_is (u : Nat) (is : Bool) (w : World) (hu : u < 18446744073709551616) : Calls Try.prog 74 #[.int .u64 u, .bool is] w (Same (.tuple #[.int .u64 (unturn u : Nat), .bool (is && cln (unturn u) == unturn u)]) w) := by
  have hv : unturn u < 18446744073709551616 := unturn_lt hu
  have HC := fun w => Lib.hid (cleanBits_is (unturn u) hv w)
  have HB : ∀ a b : Nat, ((a : Int) == (b : Int)) = (a == b) := fun a b => by
    rw [Bool.eq_iff_iff]
    simp
    omega
  have HBH := Lib.hid HB
  clear HB
  by_cases h : u < 9223372036854775808
  · have HU := Lib.hid (show bits .xor .u64 IntKind.u64.max (u : Int) = (unturn u : Nat) by rw [all_xor u hu]; unfold unturn; rw [if_pos h])
    have h0 : decide (9223372036854775808 ≤ (u : Int)) = false := decide_eq_false (by omega)
    have hs : IntKind.u64.signed = false := rfl
    clear hu hv h
    generalize unturn u = v at *
    cases is
    · go_enter Try.func74, Try.ntmps74
      go_wp2_with fail
      go_ret2
      exact ⟨by rw [← HU.out]; rfl, rfl⟩
    · go_enter Try.func74, Try.ntmps74
      go_wp2_with fail
      rw [HU.out]
      refine (HC _).out.mono ?_; rintro e w1 ⟨rfl, rfl⟩
      go_wp2_with fail
      go_ret2
      exact ⟨by rw [← HBH.out]; rfl, rfl⟩
  · have HU := Lib.hid (show IntKind.u64.wrap ((u : Int) - 9223372036854775808) = (unturn u : Nat) by rw [IntKind.wrap_u64]; unfold unturn; rw [if_neg h]; omega)
    have h0 : decide (9223372036854775808 ≤ (u : Int)) = true := decide_eq_true (by omega)
    have hs : IntKind.u64.signed = false := rfl
    clear hu hv h
    generalize unturn u = v at *
    cases is
    · go_enter Try.func74, Try.ntmps74
      go_wp2_with fail
      go_ret2
      exact ⟨by rw [← HU.out]; rfl, rfl⟩
    · go_enter Try.func74, Try.ntmps74
      go_wp2_with fail
      rw [HU.out]
      refine (HC _).out.mono ?_; rintro e w1 ⟨rfl, rfl⟩
      go_wp2_with fail
      go_ret2
      exact ⟨by rw [← HBH.out]; rfl, rfl⟩

def UTPost (R : Option (List UInt8 × List UInt8)) (s : ByteArray) (w : World) (e : Ending) (w' : World) : Prop :=
  (match R with
    | none => e = .returned (.tuple #[.string ⟨#[]⟩, .int .i64 (-1)])
    | some (t, r) => ∃ p : Nat, e = .returned (.tuple #[.string ⟨t.toArray⟩, .int .i64 p]) ∧ p ≤ s.size ∧ r = s.data.toList.drop p) ∧ Only NoneOf w w'

def UTRel (s : ByteArray) (p : Nat) (w : World) (i v0 : Value) (wr : World) : Prop :=
  ∃ k : Nat, k ≤ s.size ∧ i = .int .i64 k ∧ ∃ done : List UInt8, done.length ≤ k ∧ Went w.heap.size nilS w v0 done wr ∧ untextL (s.data.toList.drop p) = (untextL (s.data.toList.drop k)).map fun (t, r) => (done ++ t, r)

set_option maxRecDepth 100000 in
set_option maxHeartbeats 4000000 in
theorem untext_is (s : ByteArray) (p : Nat) (w : World) (hs : s.size ≤ 1073741824) (hp : p ≤ s.size) : Calls Try.prog 75 #[.string s, .int .i64 p] w (UTPost (untextL (s.data.toList.drop p)) s w) := by
  obtain ⟨R, HRS⟩ : ∃ R, Hid (untextL (s.data.toList.drop p) = R) := ⟨_, Lib.hid rfl⟩
  rw [HRS.out]
  go_enter Try.func75, Try.ntmps75
  go_wp2_with fail
  go_loopw [1, 6] (fun i v0 wr => UTRel s p w i v0 wr) (fun i _ _ => s.size - (intOf i).toNat)
  case atStart => exact ⟨p, hp, rfl, [], Nat.zero_le _, ⟨rowB_nil _ _, Only.refl _ _, fun k h => .inl h⟩, by simp⟩
  case round =>
    obtain ⟨k, hk, rfl, done, hdl, hw, hu⟩ := hrel
    have HW := Lib.hid hw
    have HU := Lib.hid hu
    clear hw hu hp
    have hws := HW.out.none.size
    by_cases hlt : k < s.size
    · have hN := Blk.new wr 5 #[.int .u8 (s[k].toNat : Int)]
      have HD := Lib.hid (drop_get s k hlt)
      by_cases hc : s[k] = 0
      · have h0 : ((s[k].toNat : Int) != 0) = false := by rw [hc]; rfl
        have HC := Lib.hid hc
        clear hc
        by_cases hend : k + 1 = s.size
        · have HX := Lib.hid (show R = none by
            rw [← HRS.out, HU.out, HD.out, HC.out]
            have : s.data.toList.drop (k + 1) = [] := List.drop_of_length_le (by simp; omega)
            rw [this]
            rfl)
          go_wp2_with fail
          go_ret2
          rw [HX.out]
          exact ⟨rfl, HW.out.none⟩
        · have hk1 : k + 1 < s.size := by omega
          have HD1 := Lib.hid (drop_get s (k + 1) hk1)
          by_cases h1 : s[k + 1] = 1
          · have q1 : ((s[k + 1].toNat : Int) != 1) = false := by rw [h1]; rfl
            have q2 : ((s[k + 1].toNat : Int) == 1) = true := by rw [h1]; rfl
            have q3 : ((s[k + 1].toNat : Int) != 255) = true := by rw [h1]; rfl
            have HX := Lib.hid (show R = some (done, s.data.toList.drop (k + 2)) by
              rw [← HRS.out, HU.out, HD.out, HC.out, HD1.out, h1]
              simp [untextL])
            have hcv := row_string HW.out.1
            clear h1 hend
            go_wp2_with fail
            go_ret2
            rw [HX.out]
            exact ⟨⟨k + 2, by simp; try rfl, by omega, rfl⟩, HW.out.none⟩
          · have q1 : ((s[k + 1].toNat : Int) != 1) = true := (nz (d := 1) h1).2
            have q2 : ((s[k + 1].toNat : Int) == 1) = false := (nz (d := 1) h1).1
            by_cases h2 : s[k + 1] = 255
            · have q3 : ((s[k + 1].toNat : Int) != 255) = false := by rw [h2]; rfl
              have hN2 := Blk.new wr 5 #[.int .u8 0]
              have HX := Lib.hid (show untextL (s.data.toList.drop p) = (untextL (s.data.toList.drop (k + 2))).map fun (t, r) => (done ++ [0] ++ t, r) by
                rw [HU.out, HD.out, HC.out, HD1.out, h2, ← map_cons]
                rfl)
              clear h1 h2 hend hN
              go_wp2_with (at_builtin; refine app_bytes rfl (.tmp 51) (.tmp 52) rfl w.heap.size _ done rfl (HW.out.1.alloc' _) wr.heap.size 1 1 [0] _ rfl (by decide) rfl rfl hN2 (by omega) (by simp; omega) ?_; intro v2 w2 g1 g2 g3; have HG := Lib.hid (HW.out.step ((Only.refl NoneOf wr).alloc _) g1 g2 g3); clear g1 g2 g3)
              go_roundw
              case rel => exact ⟨k + 2, by omega, by go_num, done ++ [0], by simp; omega, HG.out, HX.out⟩
              case measure => simp [intOf]; omega
            · have q3 : ((s[k + 1].toNat : Int) != 255) = true := (nz (d := 255) h2).2
              have HX := Lib.hid (show R = none by
                rw [← HRS.out, HU.out, HD.out, HC.out, HD1.out]
                simp [untextL, h1, h2])
              clear h1 h2 hend
              go_wp2_with fail
              go_ret2
              rw [HX.out]
              exact ⟨rfl, HW.out.none⟩
      · have h0 : ((s[k].toNat : Int) != 0) = true := (nz (d := 0) hc).2
        have HX := Lib.hid (show untextL (s.data.toList.drop p) = (untextL (s.data.toList.drop (k + 1))).map fun (t, r) => (done ++ [s[k]] ++ t, r) by
          rw [HU.out, HD.out, untextL_cons hc, map_cons])
        clear hc
        go_wp2_with (at_builtin; refine app_bytes rfl (.tmp 15) (.tmp 19) rfl w.heap.size _ done rfl (HW.out.1.alloc' _) wr.heap.size 1 1 [s[k]] _ rfl (by decide) rfl rfl hN (by omega) (by simp; omega) ?_; intro v2 w2 g1 g2 g3; have HG := Lib.hid (HW.out.step ((Only.refl NoneOf wr).alloc _) g1 g2 g3); clear g1 g2 g3)
        go_roundw
        case rel => exact ⟨k + 1, by omega, by go_num, done ++ [s[k]], by simp; omega, HG.out, HX.out⟩
        case measure => simp [intOf]; omega
    · have HX := Lib.hid (show R = none by
        rw [← HRS.out, HU.out, List.drop_of_length_le (by simp; omega)]
        rfl)
      go_wp2_with fail
      go_ret2
      rw [HX.out]
      exact ⟨rfl, HW.out.none⟩

end Go.Proofs.Ytimoenpfnaaehaa
