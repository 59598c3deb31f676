/-
  Layer 15: QuotaNever and QuotaBack walked.
-/
import Derived.Test.YtkfihfipnbbfcaaQ5
namespace Go.Proofs.Ytkfihfipnbbfcaa
open Go.RowKit

set_option maxHeartbeats 400000 in
theorem never_bad (k i q o x : Int) (A : Option Addr) (n cap : Nat) (w : World) (h : ¬ Limits q o) :
    Calls Try.prog 5 #[.agg (opCells k i q o x), .slice A n cap] w (LPost w) := by
  have W0 := fun u => Lib.hid (head_any u)
  have W1 := fun u => Lib.hid (made_bad k i q o x u h); clear h
  have hB := Blk.new w 23 (opCells k i q o x)
  have HO := Lib.hid ((Only.refl NoneOf w).alloc (.cells (opCells k i q o x) 23))
  go_enter Try.func5, Try.ntmps5
  go_wp2_with fail
  refine (W0 _).out.mono ?_; rintro e w1 ⟨rfl, ho1⟩
  have hB1 := hB.only ho1 (fun h => h)
  have b0 := hB1.cellv 0 rfl
  have b1 := hB1.cellv 1 rfl
  have b2 := hB1.cellv 2 rfl
  have b3 := hB1.cellv 3 rfl
  have b4 := hB1.cellv 4 rfl
  go_wp2_with fail
  refine (W1 _).out.mono ?_; rintro e w2 ⟨rfl, ho2⟩
  go_wp2_with fail
  go_ret
  exact ⟨rfl, (HO.out.trans ho1).trans ho2⟩

theorem never_any (k i q o x : Int) (A : Option Addr) (n cap : Nat) (w : World) (hA : OpsIn w w.heap.size A n) (hn : n ≤ maxLen) :
    Calls Try.prog 5 #[.agg (opCells k i q o x), .slice A n cap] w (LPost w) := by
  by_cases h : Limits q o
  · exact never_ok k i q o x A n cap w h hA hn
  · exact never_bad k i q o x A n cap w h

set_option maxHeartbeats 400000 in
theorem back_bad (k i q o x old now : Int) (A : Option Addr) (n cap : Nat) (w : World) (h : ¬ Limits q o) :
    Calls Try.prog 6 #[.agg (opCells k i q o x), .slice A n cap, .agg #[.int .i64 old, .int .i64 now]] w (LPost w) := by
  have W0 := fun u => Lib.hid (head_any u)
  have W1 := fun u => Lib.hid (made_bad k i q o x u h); clear h
  have hB := (Blk.new w 23 (opCells k i q o x)).alloc (.cells #[.int .i64 old, .int .i64 now] 48)
  have hP := Blk.new' (w.alloc (.cells (opCells k i q o x) 23)) 48 #[.int .i64 old, .int .i64 now] (n := w.heap.size + 1) (by simp)
  have HO := Lib.hid (((Only.refl NoneOf w).alloc (.cells (opCells k i q o x) 23)).alloc (.cells #[.int .i64 old, .int .i64 now] 48))
  go_enter Try.func6, Try.ntmps6
  go_wp2_with fail
  refine (W0 _).out.mono ?_; rintro e w1 ⟨rfl, ho1⟩
  have hB1 := hB.only ho1 (fun h => h)
  have hP1 := hP.only ho1 (fun h => h)
  have b0 := hB1.cellv 0 rfl
  have b1 := hB1.cellv 1 rfl
  have b2 := hB1.cellv 2 rfl
  have b3 := hB1.cellv 3 rfl
  have b4 := hB1.cellv 4 rfl
  have p0 := hP1.cellv 0 rfl
  have p1 := hP1.cellv 1 rfl
  go_wp2_with fail
  refine (W1 _).out.mono ?_; rintro e w2 ⟨rfl, ho2⟩
  go_wp2_with fail
  go_ret
  exact ⟨rfl, (HO.out.trans ho1).trans ho2⟩

def BackRel (w : World) (b : Nat) (n : Nat) (v : Value) (wr : World) : Prop :=
  ∃ (k : Nat) (s : Ac), k ≤ n ∧ v = .int .i64 k ∧ AcIs wr b s ∧ s.Ok ∧ Only NoneOf w wr

set_option maxRecDepth 100000 in
set_option maxHeartbeats 2000000 in
theorem back_ok (k i q o x old now : Int) (A : Option Addr) (n cap : Nat) (w : World) (h : Limits q o) (hA : OpsIn w w.heap.size A n) (hn : n ≤ maxLen) :
    Calls Try.prog 6 #[.agg (opCells k i q o x), .slice A n cap, .agg #[.int .i64 old, .int .i64 now]] w (LPost w) := by
  have W0 := fun u => Lib.hid (head_any u)
  have W1 := fun u => Lib.hid (made_ok k i q o x u h)
  obtain ⟨q0, q1, o0, o1⟩ := h
  have ok : Ac.Ok ⟨q, o, 0, 0, 0⟩ := by constructor <;> simp <;> omega
  have hB := (Blk.new w 23 (opCells k i q o x)).alloc (.cells #[.int .i64 old, .int .i64 now] 48)
  have hP := Blk.new' (w.alloc (.cells (opCells k i q o x) 23)) 48 #[.int .i64 old, .int .i64 now] (n := w.heap.size + 1) (by simp)
  have HO := Lib.hid (((Only.refl NoneOf w).alloc (.cells (opCells k i q o x) 23)).alloc (.cells #[.int .i64 old, .int .i64 now] 48))
  have hA' := Lib.hid hA
  clear hA
  unfold maxLen at hn
  go_enter Try.func6, Try.ntmps6
  go_wp2_with fail
  refine (W0 _).out.mono ?_; rintro e w1 ⟨rfl, ho1⟩
  have hB1 := hB.only ho1 (fun h => h)
  have hP1 := hP.only ho1 (fun h => h)
  have b0 := hB1.cellv 0 rfl
  have b1 := hB1.cellv 1 rfl
  have b2 := hB1.cellv 2 rfl
  have b3 := hB1.cellv 3 rfl
  have b4 := hB1.cellv 4 rfl
  have p0 := hP1.cellv 0 rfl
  have p1 := hP1.cellv 1 rfl
  go_wp2_with fail
  refine (W1 _).out.mono ?_; rintro e w2 ⟨b, rfl, hb, ha2, ho2⟩
  clear b0 b1 b2 b3 b4 p0 p1
  have hO2 := (HO.out.trans ho1).trans ho2
  have hwb : w.heap.size < b := by have := hB1.lt; omega
  go_wp2_with fail
  go_loopw [33] (fun v wr => BackRel w b n v wr) (fun v _ => n - (intOf v).toNat)
  case atStart => exact ⟨0, _, Nat.zero_le _, rfl, ha2, ok, hO2⟩
  case round =>
    obtain ⟨m, s, hm, rfl, has, oks, hor⟩ := hrel
    by_cases hlt : m < n
    · have hcell := (hA'.out.only (Nat.le_refl _) hor (fun _ _ h => h)) m hlt
      obtain ⟨blk, off, k', j', x', y', z', rfl, hb', e0, e1, e2, e3, e4⟩ := hcell
      have hax := has.alloc (.cells (opCells k' j' x' y' z') 23)
      have hOx := Lib.hid (hor.alloc (.cells (opCells k' j' x' y' z') 23))
      have hN := Blk.new wr 23 (opCells k' j' x' y' z')
      have n0 := hN.cellv 0 rfl
      have n1 := hN.cellv 1 rfl
      have n2 := hN.cellv 2 rfl
      have n3 := hN.cellv 3 rfl
      have n4 := hN.cellv 4 rfl
      go_wp2_with fail
      refine (one_any b s k' j' x' y' z' _ hax oks).mono ?_; rintro e w7 ⟨⟨s', c⟩, rfl, ⟨oks', _, _, _⟩, hat, hot⟩
      have hO7 := Lib.hid (only_on hOx.out hot (by omega))
      clear n0 n1 n2 n3 n4 e0 e1 e2 e3 e4
      go_wp2_with fail
      go_roundw
      case rel => exact ⟨m + 1, s', by omega, by go_num, hat, oks', hO7.out⟩
      case measure => simp [intOf]; omega
    · obtain ⟨l0, l1, l2, l3, l4, l5, l6, l7, l8⟩ := id oks
      have hO := Lib.hid hor
      clear hor
      go_wp2_with fail
      refine (used_has b s _ has oks).mono ?_; rintro e w8 ⟨rfl, n8, rfl⟩
      go_wp2_with fail
      refine (pending_has b s _ (has.drewN _)).mono ?_; rintro e w9 ⟨rfl, rfl⟩
      go_wp2_with fail
      refine (open_has b s _ (has.drewN _)).mono ?_; rintro e w9 ⟨rfl, rfl⟩
      go_wp2_with fail
      by_cases hbg : s.opened < s.mostOpen
      · refine (begin_ok b s _ (has.drewN _) oks hbg).mono ?_; rintro e w10 ⟨rfl, ha10, ho10⟩
        have ok10 : Ac.Ok { s with opened := s.opened + 1 } := by constructor <;> simp <;> omega
        go_wp2_with fail
        refine (open_has b _ _ ha10).mono ?_; rintro e w11 ⟨rfl, rfl⟩
        go_wp2_with fail
        refine (end_ok b _ 0 _ ha10 ok10 (by simp; omega) (by omega) (by simp; omega)).mono ?_; rintro e w11 ⟨rfl, ha11, ho11⟩
        have es : ({ s with opened := s.opened + 1 - 1, pending := s.pending - 0 } : Ac) = s := by
          obtain ⟨a1, a2, a3, a4, a5⟩ := s; simp
        rw [es] at ha11
        clear es
        have hO11 := Lib.hid (only_on (only_on (hO.out.drewN _) ho10 (by omega)) ho11 (by omega))
        by_cases hch : (0 ≤ old ∧ old ≤ s.pending) ∧ (0 ≤ now ∧ now ≤ 1048576) ∧ s.live + s.pending - old + now ≤ s.most
        · obtain ⟨⟨c0, c1⟩, ⟨c2, c3⟩, c4⟩ := hch
          go_wp2_with fail
          refine (charge_ok b s old now _ ha11 oks c0 c1 c2 c3 c4).mono ?_; rintro e w12 ⟨rfl, ha12, ho12⟩
          have ok12 : Ac.Ok { s with pending := s.pending + (now - old) } := by constructor <;> simp <;> omega
          go_wp2_with fail
          refine (used_has b _ _ ha12 ok12).mono ?_; rintro e w13 ⟨rfl, n13, rfl⟩
          go_wp2_with fail
          refine (charge_ok b _ now old _ (ha12.drewN _) ok12 (by omega) (by simp; omega) (by omega) (by omega) (by simp; omega)).mono ?_; rintro e w14 ⟨rfl, ha14, ho14⟩
          have es : ({ s with pending := s.pending + (now - old) + (old - now) } : Ac) = s := by
            obtain ⟨a1, a2, a3, a4, a5⟩ := s; simp; omega
          rw [es] at ha14
          clear es
          have hO14 := Lib.hid (only_on ((only_on hO11.out ho12 (by omega)).drewN _) ho14 (by omega))
          go_wp2_with fail
          refine (used_has b s _ ha14 oks).mono ?_; rintro e w15 ⟨rfl, n15, rfl⟩
          go_wp2_with fail
          refine (pending_has b s _ (ha14.drewN _)).mono ?_; rintro e w16 ⟨rfl, rfl⟩
          go_wp2_with fail
          refine (open_has b s _ (ha14.drewN _)).mono ?_; rintro e w16 ⟨rfl, rfl⟩
          go_wp2_with fail
          go_ret
          exact ⟨rfl, hO14.out.drewN _⟩
        · have hch' : ∃ c : Int, (c == 0) = false ∧ s.doCharge old now = (s, c) := by
            unfold Ac.doCharge
            by_cases h1 : 0 ≤ old ∧ old ≤ s.pending
            · by_cases h2 : 0 ≤ now ∧ now ≤ 1048576
              · rw [if_neg (not_not_intro h1), if_neg (not_not_intro h2), if_pos (by omega)]; exact ⟨_, by decide, rfl⟩
              · rw [if_neg (not_not_intro h1), if_pos h2]; exact ⟨_, by decide, rfl⟩
            · rw [if_pos h1]; exact ⟨_, by decide, rfl⟩
          obtain ⟨c, hc, hcc⟩ := hch'
          clear hch
          have W := charge_is b s old now _ ha11 oks
          rw [hcc] at W
          have W' := Lib.hid W
          clear W hcc
          go_wp2_with fail
          refine W'.out.mono ?_; rintro e w12 ⟨rfl, ha12, ho12⟩
          have hO14 := Lib.hid (only_on hO11.out ho12 (by omega))
          go_wp2_with fail
          refine (used_has b s _ ha12 oks).mono ?_; rintro e w15 ⟨rfl, n15, rfl⟩
          go_wp2_with fail
          refine (pending_has b s _ (ha12.drewN _)).mono ?_; rintro e w16 ⟨rfl, rfl⟩
          go_wp2_with fail
          refine (open_has b s _ (ha12.drewN _)).mono ?_; rintro e w16 ⟨rfl, rfl⟩
          go_wp2_with fail
          go_ret
          exact ⟨rfl, hO14.out.drewN _⟩
      · refine (begin_full b s _ (has.drewN _) oks (by omega)).mono ?_; rintro e w11 ⟨rfl, ha11, ho11⟩
        have hO11 := Lib.hid (only_on (hO.out.drewN _) ho11 (by omega))
        by_cases hch : (0 ≤ old ∧ old ≤ s.pending) ∧ (0 ≤ now ∧ now ≤ 1048576) ∧ s.live + s.pending - old + now ≤ s.most
        · obtain ⟨⟨c0, c1⟩, ⟨c2, c3⟩, c4⟩ := hch
          go_wp2_with fail
          refine (charge_ok b s old now _ ha11 oks c0 c1 c2 c3 c4).mono ?_; rintro e w12 ⟨rfl, ha12, ho12⟩
          have ok12 : Ac.Ok { s with pending := s.pending + (now - old) } := by constructor <;> simp <;> omega
          go_wp2_with fail
          refine (used_has b _ _ ha12 ok12).mono ?_; rintro e w13 ⟨rfl, n13, rfl⟩
          go_wp2_with fail
          refine (charge_ok b _ now old _ (ha12.drewN _) ok12 (by omega) (by simp; omega) (by omega) (by omega) (by simp; omega)).mono ?_; rintro e w14 ⟨rfl, ha14, ho14⟩
          have es : ({ s with pending := s.pending + (now - old) + (old - now) } : Ac) = s := by
            obtain ⟨a1, a2, a3, a4, a5⟩ := s; simp; omega
          rw [es] at ha14
          clear es
          have hO14 := Lib.hid (only_on ((only_on hO11.out ho12 (by omega)).drewN _) ho14 (by omega))
          go_wp2_with fail
          refine (used_has b s _ ha14 oks).mono ?_; rintro e w15 ⟨rfl, n15, rfl⟩
          go_wp2_with fail
          refine (pending_has b s _ (ha14.drewN _)).mono ?_; rintro e w16 ⟨rfl, rfl⟩
          go_wp2_with fail
          refine (open_has b s _ (ha14.drewN _)).mono ?_; rintro e w16 ⟨rfl, rfl⟩
          go_wp2_with fail
          go_ret
          exact ⟨rfl, hO14.out.drewN _⟩
        · have hch' : ∃ c : Int, (c == 0) = false ∧ s.doCharge old now = (s, c) := by
            unfold Ac.doCharge
            by_cases h1 : 0 ≤ old ∧ old ≤ s.pending
            · by_cases h2 : 0 ≤ now ∧ now ≤ 1048576
              · rw [if_neg (not_not_intro h1), if_neg (not_not_intro h2), if_pos (by omega)]; exact ⟨_, by decide, rfl⟩
              · rw [if_neg (not_not_intro h1), if_pos h2]; exact ⟨_, by decide, rfl⟩
            · rw [if_pos h1]; exact ⟨_, by decide, rfl⟩
          obtain ⟨c, hc, hcc⟩ := hch'
          clear hch
          have W := charge_is b s old now _ ha11 oks
          rw [hcc] at W
          have W' := Lib.hid W
          clear W hcc
          go_wp2_with fail
          refine W'.out.mono ?_; rintro e w12 ⟨rfl, ha12, ho12⟩
          have hO14 := Lib.hid (only_on hO11.out ho12 (by omega))
          go_wp2_with fail
          refine (used_has b s _ ha12 oks).mono ?_; rintro e w15 ⟨rfl, n15, rfl⟩
          go_wp2_with fail
          refine (pending_has b s _ (ha12.drewN _)).mono ?_; rintro e w16 ⟨rfl, rfl⟩
          go_wp2_with fail
          refine (open_has b s _ (ha12.drewN _)).mono ?_; rintro e w16 ⟨rfl, rfl⟩
          go_wp2_with fail
          go_ret
          exact ⟨rfl, hO14.out.drewN _⟩

theorem back_any (k i q o x old now : Int) (A : Option Addr) (n cap : Nat) (w : World) (hA : OpsIn w w.heap.size A n) (hn : n ≤ maxLen) :
    Calls Try.prog 6 #[.agg (opCells k i q o x), .slice A n cap, .agg #[.int .i64 old, .int .i64 now]] w (LPost w) := by
  by_cases h : Limits q o
  · exact back_ok k i q o x old now A n cap w h hA hn
  · exact back_bad k i q o x old now A n cap w h

end Go.Proofs.Ytkfihfipnbbfcaa
