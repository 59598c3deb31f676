/-
  Layer 14's law: call, of whatever kind.
-/
import Derived.Test.YtnonnencdhogiaaS25
namespace Go.Proofs.Ytnonnencdhogiaa
open Go.RowKit

abbrev zeroT : Array Value := tellC 0 0 0 false (.slice none 0 0) (.slice none 0 0) (.slice none 0 0)

set_option maxRecDepth 100000 in
set_option maxHeartbeats 4000000 in
theorem call_other (w : World) (p : Option Addr) (v : Value) (x : Stp) (hk : x.kind ≠ 0 ∧ x.kind ≠ 1 ∧ x.kind ≠ 2 ∧ x.kind ≠ 3 ∧ x.kind ≠ 4 ∧ x.kind ≠ 5 ∧ x.kind ≠ 6 ∧ x.kind ≠ 7) :
    Calls Try.prog 17 #[.pointer p, .agg (stepC x.kind x.key x.st v x.dead x.tt)] w fun e w' => e = .returned (.agg zeroT) ∧ Only NoneOf w w' := by
  obtain ⟨kind, key, st, bs, dead, tt⟩ := x
  simp only at hk ⊢
  obtain ⟨k0, k1, k2, k3, k4, k5, k6, k7⟩ := hk
  have q0 : (kind == 0) = false := beq_eq_false_iff_ne.2 k0
  have q1 : (kind == 1) = false := beq_eq_false_iff_ne.2 k1
  have q2 : (kind == 2) = false := beq_eq_false_iff_ne.2 k2
  have q3 : (kind == 3) = false := beq_eq_false_iff_ne.2 k3
  have q4 : (kind == 4) = false := beq_eq_false_iff_ne.2 k4
  have q5 : (kind == 5) = false := beq_eq_false_iff_ne.2 k5
  have q6 : (kind == 6) = false := beq_eq_false_iff_ne.2 k6
  have q7 : (kind == 7) = false := beq_eq_false_iff_ne.2 k7
  clear k0 k1 k2 k3 k4 k5 k6 k7
  have hB3 := ((Blk.new w 29 (stepC kind key st v dead tt)).alloc (.cells zeroT 33)).alloc (.cells zeroT 33)
  have F4 := (Blk.new' (w.alloc (.cells (stepC kind key st v dead tt) 29)) 33 zeroT (n := w.heap.size + 1) (by simp)).alloc (.cells zeroT 33)
  have F5 := Blk.new' ((w.alloc (.cells (stepC kind key st v dead tt) 29)).alloc (.cells zeroT 33)) 33 zeroT (n := w.heap.size + 1 + 1) (by simp)
  have FR := Lib.hid (F4.row zeroT)
  have FO := Lib.hid (((((Only.refl NoneOf w).alloc (.cells (stepC kind key st v dead tt) 29)).alloc (.cells zeroT 33)).alloc (.cells zeroT 33)).row (b := w.heap.size + 1) (.inr (by omega)) zeroT)
  have H4 := Lib.hid F4
  have H5 := Lib.hid F5
  have c0 := hB3.cellv 0 rfl
  clear hB3 F4 F5
  go_enter Try.func17, Try.ntmps17
  go_wp2_with (first | (refine wpList_load_row rfl 33 (.tmp 5) rfl (w.heap.size + 1 + 1) rfl 33 _ (0, 0) _ H5.out Try.underlying33 rfl info33 ?_) | (refine wpList_store_row rfl 33 (.tmp 4) (.tmp 82) rfl (w.heap.size + 1) zeroT rfl rfl 33 zeroT H4.out info33 rfl (by simp [Value.oneCell']) ?_) | fail)
  exact bodyPost_ret (v := .agg zeroT) (results_cell_row rfl _ _ _ 33 _ (0, 0) _ rfl FR.out Try.underlying33 rfl info33) rfl ⟨rfl, FO.out⟩

theorem call_is (w : World) (s N : Nat) (T U : Nat → Prop) (R : List KV) (h : StoR w s T U R N) (hN : N < NMAX) (x : Stp) (A : Option Addr) (cc : Nat) (hkey : x.key.size ≤ maxLen) (hby : BytesAt w A x.bs) :
    Calls Try.prog 17 #[.pointer (some ⟨s, 0, none⟩), .agg (stepC x.kind x.key x.st (.slice A x.bs.length cc) x.dead x.tt)] w (CallPost s N T U R x w) := by
  by_cases k0 : x.kind = 0
  · exact call_0 w s N T U R h hN x A cc k0 hkey hby
  by_cases k1 : x.kind = 1
  · exact call_1 w s N T U R h hN x A cc k1 hkey hby
  by_cases k2 : x.kind = 2
  · exact call_2 w s N T U R h hN x A cc k2 hkey hby
  by_cases k3 : x.kind = 3
  · exact call_3 w s N T U R h hN x A cc k3 hkey hby
  by_cases k4 : x.kind = 4
  · exact call_4 w s N T U R h hN x A cc k4 hkey hby
  by_cases k5 : x.kind = 5
  · exact call_5 w s N T U R h hN x A cc k5 hkey hby
  by_cases k6 : x.kind = 6
  · exact call_6 w s N T U R h hN x A cc k6 hkey hby
  by_cases k7 : x.kind = 7
  · exact call_7 w s N T U R h hN x A cc k7 hkey hby
  refine (call_other w _ _ x ⟨k0, k1, k2, k3, k4, k5, k6, k7⟩).mono ?_
  rintro e w' ⟨rfl, ho⟩
  have e1 : ansR R x = {} := by simp [ansR, k0, k1, k2, k3, k4, k5, k6, k7]
  have e2 : stepR R x = R := by simp [stepR, k0, k4]
  exact ⟨zeroT, T, rfl, by rw [e1]; exact tstay_plain _ _ _ _ _ _, by rw [e2]; exact (h.keep ho).more (by omega), ho.mono (fun _ _ h => h.elim), fun k hk => .inl hk⟩

end Go.Proofs.Ytnonnencdhogiaa
