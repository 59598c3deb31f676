/-
  Layer 15: QuotaScript walked: joined.
-/
import Derived.Test.YtkfihfipnbbfcaaQS5a
import Derived.Test.YtkfihfipnbbfcaaQS5b
import Derived.Test.YtkfihfipnbbfcaaQS5c
import Derived.Test.YtkfihfipnbbfcaaQS5d
import Derived.Test.YtkfihfipnbbfcaaQS5e
namespace Go.Proofs.Ytkfihfipnbbfcaa
open Go.RowKit

set_option maxRecDepth 100000 in
theorem frame4 {w : World} {b3 b4 n cap m : Nat} {A : Option Addr} {a : Act} {w' : World} (h : WF w b3 b4 n cap A m a w') : ∃ u : Nat → Value, a = ⟨#[.slice A n cap, u 1, u 2, .pointer (some ⟨b3, 0, none⟩), .pointer (some ⟨b4, 0, none⟩), u 5, u 6, u 7, u 8, u 9, u 10, u 11, u 12, u 13, u 14, u 15, .slice A n cap, .int .i64 n, .int .i64 m, u 19, u 20, u 21, u 22, u 23, u 24, u 25, u 26, u 27, u 28, u 29, u 30, u 31, u 32, u 33, u 34, u 35, u 36, u 37, u 38, u 39, u 40, u 41, u 42, u 43, u 44, u 45, u 46, u 47, u 48, u 49, u 50, u 51, u 52, u 53, u 54, u 55, u 56, u 57, u 58, u 59, u 60, u 61, u 62, u 63, u 64, u 65, u 66, u 67, u 68, u 69, u 70, u 71, u 72, u 73, u 74, u 75, u 76, u 77, u 78, u 79, u 80, u 81, u 82, u 83, u 84, u 85, u 86, u 87, u 88, u 89, u 90, u 91, u 92, u 93, u 94, u 95, u 96, u 97, u 98, u 99, u 100, u 101, u 102, u 103, u 104, u 105, u 106, u 107, u 108, u 109, u 110, u 111, u 112, u 113, u 114, u 115, u 116, u 117, u 118, u 119, u 120, u 121, u 122, u 123, u 124, u 125, u 126, u 127, u 128, u 129, u 130, u 131, u 132, u 133, u 134, u 135, u 136, u 137, u 138, u 139, u 140, u 141, u 142, u 143, u 144, u 145, u 146, u 147, u 148, u 149, u 150, u 151, u 152, u 153, u 154, u 155, u 156, u 157, u 158, u 159, u 160, u 161, u 162, u 163, u 164], []⟩ := by
  obtain ⟨tm, df⟩ := a
  obtain ⟨hd, hsz, s0, s3, s4, s16, s17, s18, _⟩ := h
  simp only at hd hsz s0 s3 s4 s16 s17 s18
  subst hd
  obtain ⟨u, hu⟩ := arr_frame hsz
  have e : ((List.range 165).map u).toArray = #[u 0, u 1, u 2, u 3, u 4, u 5, u 6, u 7, u 8, u 9, u 10, u 11, u 12, u 13, u 14, u 15, u 16, u 17, u 18, u 19, u 20, u 21, u 22, u 23, u 24, u 25, u 26, u 27, u 28, u 29, u 30, u 31, u 32, u 33, u 34, u 35, u 36, u 37, u 38, u 39, u 40, u 41, u 42, u 43, u 44, u 45, u 46, u 47, u 48, u 49, u 50, u 51, u 52, u 53, u 54, u 55, u 56, u 57, u 58, u 59, u 60, u 61, u 62, u 63, u 64, u 65, u 66, u 67, u 68, u 69, u 70, u 71, u 72, u 73, u 74, u 75, u 76, u 77, u 78, u 79, u 80, u 81, u 82, u 83, u 84, u 85, u 86, u 87, u 88, u 89, u 90, u 91, u 92, u 93, u 94, u 95, u 96, u 97, u 98, u 99, u 100, u 101, u 102, u 103, u 104, u 105, u 106, u 107, u 108, u 109, u 110, u 111, u 112, u 113, u 114, u 115, u 116, u 117, u 118, u 119, u 120, u 121, u 122, u 123, u 124, u 125, u 126, u 127, u 128, u 129, u 130, u 131, u 132, u 133, u 134, u 135, u 136, u 137, u 138, u 139, u 140, u 141, u 142, u 143, u 144, u 145, u 146, u 147, u 148, u 149, u 150, u 151, u 152, u 153, u 154, u 155, u 156, u 157, u 158, u 159, u 160, u 161, u 162, u 163, u 164] := rfl
  rw [e] at hu
  subst hu
  have t0 : u 0 = .slice A n cap := s0
  have t3 : u 3 = .pointer (some ⟨b3, 0, none⟩) := s3
  have t4 : u 4 = .pointer (some ⟨b4, 0, none⟩) := s4
  have t16 : u 16 = .slice A n cap := s16
  have t17 : u 17 = .int .i64 n := s17
  have t18 : u 18 = .int .i64 m := s18
  exact ⟨u, by rw [t0, t3, t4, t16, t17, t18]⟩

set_option maxRecDepth 100000 in
set_option maxHeartbeats 4000000 in
theorem arm_exit (w : World) (b3 b4 n cap : Nat) (A : Option Addr) (u : Nat → Value) (wr : World) (Q0 : Exit → Act → World → Prop) (K0 : Act → World → Prop)
    (hs : ∃ x0 x1 x2, ScIs w wr b3 b4 x0 x1 x2 x0 x1 x2) (hexit : ∀ a' w'', WF w b3 b4 n cap A n a' w'' → Q0 (.exit 0) a' w'') :
    Code.wp Try.prog body4 (Exit.then K0 Q0) ⟨#[.slice A n cap, u 1, u 2, .pointer (some ⟨b3, 0, none⟩), .pointer (some ⟨b4, 0, none⟩), u 5, u 6, u 7, u 8, u 9, u 10, u 11, u 12, u 13, u 14, u 15, .slice A n cap, .int .i64 n, .int .i64 n, u 19, u 20, u 21, u 22, u 23, u 24, u 25, u 26, u 27, u 28, u 29, u 30, u 31, u 32, u 33, u 34, u 35, u 36, u 37, u 38, u 39, u 40, u 41, u 42, u 43, u 44, u 45, u 46, u 47, u 48, u 49, u 50, u 51, u 52, u 53, u 54, u 55, u 56, u 57, u 58, u 59, u 60, u 61, u 62, u 63, u 64, u 65, u 66, u 67, u 68, u 69, u 70, u 71, u 72, u 73, u 74, u 75, u 76, u 77, u 78, u 79, u 80, u 81, u 82, u 83, u 84, u 85, u 86, u 87, u 88, u 89, u 90, u 91, u 92, u 93, u 94, u 95, u 96, u 97, u 98, u 99, u 100, u 101, u 102, u 103, u 104, u 105, u 106, u 107, u 108, u 109, u 110, u 111, u 112, u 113, u 114, u 115, u 116, u 117, u 118, u 119, u 120, u 121, u 122, u 123, u 124, u 125, u 126, u 127, u 128, u 129, u 130, u 131, u 132, u 133, u 134, u 135, u 136, u 137, u 138, u 139, u 140, u 141, u 142, u 143, u 144, u 145, u 146, u 147, u 148, u 149, u 150, u 151, u 152, u 153, u 154, u 155, u 156, u 157, u 158, u 159, u 160, u 161, u 162, u 163, u 164], []⟩ wr := by
  conv => arg 2; whnf
  have HS := Lib.hid hs
  clear hs
  go_wp2_with fail
  exact ⟨rfl, rfl, rfl, rfl, rfl, rfl, rfl, rfl, HS.out⟩

theorem round4 (w : World) (b3 b4 n cap : Nat) (A : Option Addr) (Q0 : Exit → Act → World → Prop) (hn : n ≤ 9223372036854775807) (hA : OpsIn w w.heap.size A n)
    (hexit : ∀ a' w'', WF w b3 b4 n cap A n a' w'' → Q0 (.exit 0) a' w'') (a : Act) (wr : World) (hI : WI w b3 b4 n cap A a wr) :
    Code.wp Try.prog body4 (Exit.then (fun a' w'' => WI w b3 b4 n cap A a' w'' ∧ mu4 n a' w'' < mu4 n a wr) Q0) a wr := by
  obtain ⟨m, hm, hf⟩ := hI
  have hmu : mu4 n a wr = n - m := by unfold mu4; rw [hf.s18]; simp [intOf]
  rw [hmu]
  obtain ⟨x0, x1, x2, hs⟩ := hf.sc
  obtain ⟨u, hu⟩ := frame4 hf
  by_cases hlt : m < n
  · have hcell := (hA.only (Nat.le_refl _) hs.only (fun _ _ h => h)) m hlt
    obtain ⟨blk, off, k, i, q, o, x, hA', hb', e0, e1, e2, e3, e4⟩ := hcell
    subst hA'
    rw [hu]
    by_cases hi : 0 ≤ i ∧ i < 3
    · obtain ⟨j, rfl⟩ : ∃ j : Nat, i = j := ⟨i.toNat, by omega⟩
      have hj : j < 3 := by omega
      by_cases hk1 : k = 1
      · exact arm_in1 w b3 b4 n cap blk off u m wr x0 x1 x2 k q o x Q0 hn hs hlt j hj e0 e1 e2 e3 e4 hk1
      by_cases hk2 : k = 2
      · exact arm_in2 w b3 b4 n cap blk off u m wr x0 x1 x2 k q o x Q0 hn hs hlt j hj e0 e1 e2 e3 e4 hk2
      by_cases hk3 : k = 3
      · exact arm_in3 w b3 b4 n cap blk off u m wr x0 x1 x2 k q o x Q0 hn hs hlt j hj e0 e1 e2 e3 e4 hk3
      by_cases hk4 : k = 4
      · exact arm_in4 w b3 b4 n cap blk off u m wr x0 x1 x2 k q o x Q0 hn hs hlt j hj e0 e1 e2 e3 e4 hk4
      by_cases hk5 : k = 5
      · exact arm_in5 w b3 b4 n cap blk off u m wr x0 x1 x2 k q o x Q0 hn hs hlt j hj e0 e1 e2 e3 e4 hk5
      by_cases hk6 : k = 6
      · exact arm_in6 w b3 b4 n cap blk off u m wr x0 x1 x2 k q o x Q0 hn hs hlt j hj e0 e1 e2 e3 e4 hk6
      by_cases hk7 : k = 7
      · exact arm_in7 w b3 b4 n cap blk off u m wr x0 x1 x2 k q o x Q0 hn hs hlt j hj e0 e1 e2 e3 e4 hk7
      by_cases hk0 : k = 0
      · exact arm_in0 w b3 b4 n cap blk off u m wr x0 x1 x2 k q o x Q0 hn hs hlt j hj e0 e1 e2 e3 e4 hk0
      exact arm_inx w b3 b4 n cap blk off u m wr x0 x1 x2 k q o x Q0 hn hs hlt j hj e0 e1 e2 e3 e4 hk0 hk1 hk2 hk3 hk4 hk5 hk6 hk7
    · by_cases hi0 : i < 0
      · by_cases hk1 : k = 1
        · exact arm_lo1 w b3 b4 n cap blk off u m wr x0 x1 x2 k q o x Q0 hn hs hlt i hi0 e0 e1 e2 e3 e4 hk1
        by_cases hk2 : k = 2
        · exact arm_lo2 w b3 b4 n cap blk off u m wr x0 x1 x2 k q o x Q0 hn hs hlt i hi0 e0 e1 e2 e3 e4 hk2
        by_cases hk3 : k = 3
        · exact arm_lo3 w b3 b4 n cap blk off u m wr x0 x1 x2 k q o x Q0 hn hs hlt i hi0 e0 e1 e2 e3 e4 hk3
        by_cases hk4 : k = 4
        · exact arm_lo4 w b3 b4 n cap blk off u m wr x0 x1 x2 k q o x Q0 hn hs hlt i hi0 e0 e1 e2 e3 e4 hk4
        by_cases hk5 : k = 5
        · exact arm_lo5 w b3 b4 n cap blk off u m wr x0 x1 x2 k q o x Q0 hn hs hlt i hi0 e0 e1 e2 e3 e4 hk5
        by_cases hk6 : k = 6
        · exact arm_lo6 w b3 b4 n cap blk off u m wr x0 x1 x2 k q o x Q0 hn hs hlt i hi0 e0 e1 e2 e3 e4 hk6
        by_cases hk7 : k = 7
        · exact arm_lo7 w b3 b4 n cap blk off u m wr x0 x1 x2 k q o x Q0 hn hs hlt i hi0 e0 e1 e2 e3 e4 hk7
        by_cases hk0 : k = 0
        · exact arm_lo0 w b3 b4 n cap blk off u m wr x0 x1 x2 k q o x Q0 hn hs hlt i hi0 e0 e1 e2 e3 e4 hk0
        exact arm_lox w b3 b4 n cap blk off u m wr x0 x1 x2 k q o x Q0 hn hs hlt i hi0 e0 e1 e2 e3 e4 hk0 hk1 hk2 hk3 hk4 hk5 hk6 hk7
      · have hi1 : 0 ≤ i := by omega
        have hi3 : 3 ≤ i := by omega
        by_cases hk1 : k = 1
        · exact arm_hi1 w b3 b4 n cap blk off u m wr x0 x1 x2 k q o x Q0 hn hs hlt i hi1 hi3 e0 e1 e2 e3 e4 hk1
        by_cases hk2 : k = 2
        · exact arm_hi2 w b3 b4 n cap blk off u m wr x0 x1 x2 k q o x Q0 hn hs hlt i hi1 hi3 e0 e1 e2 e3 e4 hk2
        by_cases hk3 : k = 3
        · exact arm_hi3 w b3 b4 n cap blk off u m wr x0 x1 x2 k q o x Q0 hn hs hlt i hi1 hi3 e0 e1 e2 e3 e4 hk3
        by_cases hk4 : k = 4
        · exact arm_hi4 w b3 b4 n cap blk off u m wr x0 x1 x2 k q o x Q0 hn hs hlt i hi1 hi3 e0 e1 e2 e3 e4 hk4
        by_cases hk5 : k = 5
        · exact arm_hi5 w b3 b4 n cap blk off u m wr x0 x1 x2 k q o x Q0 hn hs hlt i hi1 hi3 e0 e1 e2 e3 e4 hk5
        by_cases hk6 : k = 6
        · exact arm_hi6 w b3 b4 n cap blk off u m wr x0 x1 x2 k q o x Q0 hn hs hlt i hi1 hi3 e0 e1 e2 e3 e4 hk6
        by_cases hk7 : k = 7
        · exact arm_hi7 w b3 b4 n cap blk off u m wr x0 x1 x2 k q o x Q0 hn hs hlt i hi1 hi3 e0 e1 e2 e3 e4 hk7
        by_cases hk0 : k = 0
        · exact arm_hi0 w b3 b4 n cap blk off u m wr x0 x1 x2 k q o x Q0 hn hs hlt i hi1 hi3 e0 e1 e2 e3 e4 hk0
        exact arm_hix w b3 b4 n cap blk off u m wr x0 x1 x2 k q o x Q0 hn hs hlt i hi1 hi3 e0 e1 e2 e3 e4 hk0 hk1 hk2 hk3 hk4 hk5 hk6 hk7
  · obtain rfl : m = n := by omega
    rw [hu]
    exact arm_exit w b3 b4 m cap A u wr Q0 _ ⟨x0, x1, x2, hs⟩ hexit

theorem loop4 (w : World) (b3 b4 n cap : Nat) (A : Option Addr) (Q0 : Exit → Act → World → Prop) (hn : n ≤ 9223372036854775807) (hA : OpsIn w w.heap.size A n)
    (hexit : ∀ a' w'', WF w b3 b4 n cap A n a' w'' → Q0 (.exit 0) a' w'') (a : Act) (wr : World) (hI : WI w b3 b4 n cap A a wr) : Code.wp Try.prog (Code.loop body4) Q0 a wr :=
  wp_loop (WI w b3 b4 n cap A) (mu4 n) hI (fun a w' h => round4 w b3 b4 n cap A Q0 hn hA hexit a w' h)

set_option maxRecDepth 100000 in
set_option maxHeartbeats 4000000 in
theorem script_any (A : Option Addr) (n cap : Nat) (w : World) (hA : OpsIn w w.heap.size A n) (hn : n ≤ maxLen) :
    Calls Try.prog 4 #[.slice A n cap] w (LPost w) := by
  have W0 := fun u => Lib.hid (head_any u)
  have hA' := Lib.hid hA
  clear hA
  unfold maxLen at hn
  go_enter Try.func4, Try.ntmps4
  go_wp2_with fail
  refine (W0 _).out.mono ?_; rintro e w1 ⟨rfl, ho1⟩
  go_wp2_with fail
  have hS : ScIs w ((w1.alloc (.cells #[.pointer none, .pointer none, .pointer none] 34)).alloc (.cells (want3 none none none) 37)) w1.heap.size (w1.heap.size + 1) none none none none none none := by
    have hs := ho1.size
    refine ⟨(ho1.alloc _).alloc _, (Blk.new w1 34 _).alloc _, Blk.new' _ _ _ (by simp), none_is _, none_is _, none_is _, fun k hk => by simp [Pl.block] at hk, fun k hk => by simp [Pl.block] at hk, fun k hk => by simp [Pl.block] at hk, fun k hk => by simp [Pl.block] at hk, by omega, by omega, by omega⟩
  refine loop4 w w1.heap.size (w1.heap.size + 1) n cap A _ hn hA'.out ?_ _ _ ⟨0, Nat.zero_le _, rfl, rfl, rfl, rfl, rfl, rfl, rfl, rfl, none, none, none, hS⟩
  intro a2 w2 hf
  obtain ⟨x0, x1, x2, hs⟩ := hf.sc
  obtain ⟨u, rfl⟩ := frame4 hf
  clear hf hS
  have HS := Lib.hid hs
  clear hs
  go_wp2_with fail
  go_loopw [13] (fun i wr2 => ∃ p : Nat, p ≤ 3 ∧ i = .int .i64 p ∧ ScIs w wr2 w1.heap.size (w1.heap.size + 1) x0 x1 x2 x0 x1 x2) (fun i _ => 3 - (intOf i).toNat)
  case atStart => exact ⟨0, by omega, rfl, HS.out⟩
  case round =>
    obtain ⟨p, hp, rfl, hs2⟩ := hrel
    have HT := Lib.hid hs2
    by_cases hp3 : p < 3
    · have g0 := HT.out.here_at hp3
      obtain ⟨v0, v1, v2, v3, v4, v5⟩ := HT.out.want_at hp3
      have hS := fun u hu => Lib.hid (shown_any (pick p x0 x1 x2) u hu)
      clear hs2
      go_wp2_with fail
      go_still_tail 6, (by kernel_rfl)
      change wpList _ _ _ _ _ wr.drew
      have HT2 := Lib.hid (HT.out.keep (Only.refl NoneOf wr).drew)
      generalize wr.drew = W2 at *
      go_wp2_with fail
      refine (hS _ HT2.out.pick_is).out.mono ?_; rintro e w4 ⟨rfl, ho4⟩
      go_wp2_with fail
      go_roundw
      case rel => exact ⟨p + 1, by omega, by go_num, HT2.out.keep ho4⟩
      case measure => simp [intOf]; omega
    · obtain rfl : p = 3 := by omega
      clear hs2
      go_wp2_with fail
      go_ret
      exact ⟨rfl, HT.out.only⟩

end Go.Proofs.Ytkfihfipnbbfcaa
