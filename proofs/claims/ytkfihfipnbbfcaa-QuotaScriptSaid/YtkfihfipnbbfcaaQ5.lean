/-
  Layer 15: QuotaNever walked.
-/
import Derived.Test.YtkfihfipnbbfcaaQ4
namespace Go.Proofs.Ytkfihfipnbbfcaa
open Go.RowKit

/-- A slice of Ops reads, in w: each of its n elements lies below B as five integers. -/
def OpsIn (w : World) (B : Nat) (A : Option Addr) (n : Nat) : Prop :=
  ∀ i, i < n → ∃ (blk off : Nat) (k j x y z : Int), A = some ⟨blk, off, none⟩ ∧ blk < B ∧
    w.cell? ⟨blk, off + i * 5, none⟩ = some (.int .i64 k) ∧ w.cell? ⟨blk, off + i * 5 + 1, none⟩ = some (.int .i64 j) ∧ w.cell? ⟨blk, off + i * 5 + 2, none⟩ = some (.int .i64 x) ∧
    w.cell? ⟨blk, off + i * 5 + 3, none⟩ = some (.int .i64 y) ∧ w.cell? ⟨blk, off + i * 5 + 4, none⟩ = some (.int .i64 z)

theorem OpsIn.only {w w' : World} {S : Nat → Prop} {B n : Nat} {A : Option Addr} (h : OpsIn w B A n) (hB : B ≤ w.heap.size) (ho : Only S w w') (hS : ∀ k, k < B → ¬ S k) : OpsIn w' B A n := by
  intro i hi
  obtain ⟨blk, off, k, j, x, y, z, hA, hb, h0, h1, h2, h3, h4⟩ := h i hi
  have hc : ∀ o, w'.cell? ⟨blk, o, none⟩ = w.cell? ⟨blk, o, none⟩ := fun o => ho.cell (p := ⟨blk, o, none⟩) (by show blk < _; omega) (hS blk hb)
  exact ⟨blk, off, k, j, x, y, z, hA, hb, by rw [hc, h0], by rw [hc, h1], by rw [hc, h2], by rw [hc, h3], by rw [hc, h4]⟩

def NeverRel (w : World) (b : Nat) (q o : Int) (cs : Array Value) (n : Nat) (v : Value) (wr : World) : Prop :=
  ∃ (k : Nat) (s : Ac), k ≤ n ∧ v = .int .i64 k ∧ AcIs wr b s ∧ s.Ok ∧ s.most = q ∧ s.mostOpen = o ∧ Only NoneOf w wr ∧ Blk wr w.heap.size 23 cs

set_option maxHeartbeats 1000000 in
set_option maxRecDepth 100000 in
theorem never_ok (k i q o x : Int) (A : Option Addr) (n cap : Nat) (w : World) (h : Limits q o) (hA : OpsIn w w.heap.size A n) (hn : n ≤ maxLen) :
    Calls Try.prog 5 #[.agg (opCells k i q o x), .slice A n cap] w (LPost w) := by
  have W0 := fun u => Lib.hid (head_any u)
  have W1 := fun u => Lib.hid (made_ok k i q o x u h)
  obtain ⟨q0, q1, o0, o1⟩ := h
  have ok : Ac.Ok ⟨q, o, 0, 0, 0⟩ := by constructor <;> simp <;> omega
  have hB := Blk.new w 23 (opCells k i q o x)
  have HO := Lib.hid ((Only.refl NoneOf w).alloc (.cells (opCells k i q o x) 23))
  have hA' := Lib.hid hA
  clear hA
  unfold maxLen at hn
  go_enter Try.func5, Try.ntmps5
  go_wp2_with fail
  refine (W0 _).out.mono ?_; rintro e w1 ⟨rfl, ho1⟩
  have hB1 := hB.only ho1 (fun h => h)
  have b0 := hB1.cellv 0 rfl
  have b1 := hB1.cellv 1 rfl
  have b2 := hB1.cellv 2 rfl
  have b3 := hB1.cellv 3 rfl
  have b4 := hB1.cellv 4 rfl
  go_wp2_with fail
  refine (W1 _).out.mono ?_; rintro e w2 ⟨b, rfl, hb, ha2, ho2⟩
  clear b0 b1 b2 b3 b4
  have hB2 := hB1.only ho2 (fun h => h)
  have hO2 := (HO.out.trans ho1).trans ho2
  have hwb : w.heap.size < b := by have := hB1.lt; omega
  go_wp2_with fail
  go_loopw [29] (fun v wr => NeverRel w b q o (opCells k i q o x) n v wr) (fun v _ => n - (intOf v).toNat)
  case atStart => exact ⟨0, _, Nat.zero_le _, rfl, ha2, ok, rfl, rfl, hO2, hB2⟩
  case round =>
    obtain ⟨m, s, hm, rfl, has, oks, hq, hq2, hor, hBr⟩ := hrel
    by_cases hlt : m < n
    · have hcell := (hA'.out.only (Nat.le_refl _) hor (fun _ _ h => h)) m hlt
      obtain ⟨blk, off, k', j', x', y', z', rfl, hb', e0, e1, e2, e3, e4⟩ := hcell
      have hBx := hBr.alloc (.cells (opCells k' j' x' y' z') 23)
      have hax := has.alloc (.cells (opCells k' j' x' y' z') 23)
      have hOx := Lib.hid (hor.alloc (.cells (opCells k' j' x' y' z') 23))
      have hN := Blk.new wr 23 (opCells k' j' x' y' z')
      have n0 := hN.cellv 0 rfl
      have n1 := hN.cellv 1 rfl
      have n2 := hN.cellv 2 rfl
      have n3 := hN.cellv 3 rfl
      have n4 := hN.cellv 4 rfl
      have hws : w.heap.size ≤ wr.heap.size := hor.size
      go_wp2_with fail
      refine (used_has b s _ hax oks).mono ?_; rintro e w5 ⟨rfl, n5, rfl⟩
      go_wp2_with fail
      refine (pending_has b s _ (hax.drewN _)).mono ?_; rintro e w6 ⟨rfl, rfl⟩
      go_wp2_with fail
      refine (open_has b s _ (hax.drewN _)).mono ?_; rintro e w6 ⟨rfl, rfl⟩
      go_wp2_with fail
      refine (one_any b s k' j' x' y' z' _ (hax.drewN _) oks).mono ?_; rintro e w7 ⟨⟨s', c⟩, rfl, ⟨oks', hm', hm2', hsame⟩, hat, hot⟩
      have hB7 := (hBx.drewN n5).only hot (by omega)
      have hO7 := Lib.hid (only_on (hOx.out.drewN n5) hot (by omega))
      clear n0 n1 n2 n3 n4 e0 e1 e2 e3 e4
      have b2 := hB7.cellv 2 rfl
      have b3 := hB7.cellv 3 rfl
      simp only at hm' hm2' hsame hat oks'
      obtain ⟨l0, l1, l2, l3, l4, l5, l6, l7, l8⟩ := oks'
      rw [hm', hq] at l6
      rw [hm2', hq2] at l8
      have OK := Lib.hid (Ac.Ok.mk l0 l1 l2 l3 l4 l5 (by rw [hm', hq]; exact l6) l7 (by rw [hm2', hq2]; exact l8))
      have M1 := Lib.hid (hm'.trans hq)
      have M2 := Lib.hid (hm2'.trans hq2)
      clear l0 l1 l2 l3 hm' hm2' hq hq2
      by_cases hc : c = 0
      · have hc' : (c == 0) = true := beq_iff_eq.2 hc
        clear hsame hc
        go_wp2_with fail
        refine (used_has b s' _ hat OK.out).mono ?_; rintro e w8 ⟨rfl, n8, rfl⟩
        go_wp2_with fail
        refine (pending_has b s' _ (hat.drewN _)).mono ?_; rintro e w9 ⟨rfl, rfl⟩
        go_wp2_with fail
        refine (open_has b s' _ (hat.drewN _)).mono ?_; rintro e w9 ⟨rfl, rfl⟩
        go_wp2_with fail
        go_roundw
        case rel => exact ⟨m + 1, s', by omega, by go_num, hat.drewN _, OK.out, M1.out, M2.out, hO7.out.drewN _, hB7.drewN _⟩
        case measure => simp [intOf]; omega
      · have hc' : (c == 0) = false := beq_eq_false_iff_ne.2 hc
        obtain rfl := hsame hc
        clear hsame hc
        go_wp2_with fail
        refine (used_has b s' _ hat OK.out).mono ?_; rintro e w8 ⟨rfl, n8, rfl⟩
        go_wp2_with fail
        refine (pending_has b s' _ (hat.drewN _)).mono ?_; rintro e w9 ⟨rfl, rfl⟩
        go_wp2_with fail
        refine (open_has b s' _ (hat.drewN _)).mono ?_; rintro e w9 ⟨rfl, rfl⟩
        go_wp2_with fail
        go_roundw
        case rel => exact ⟨m + 1, s', by omega, by go_num, hat.drewN _, OK.out, M1.out, M2.out, hO7.out.drewN _, hB7.drewN _⟩
        case measure => simp [intOf]; omega
    · go_wp2_with fail
      go_ret
      exact ⟨rfl, hor⟩

end Go.Proofs.Ytkfihfipnbbfcaa
