/-
  Layer 4: a cleaned item and the reference's are alike.
-/
import Derived.Test.YtimoenpfnaaehaaOP1
namespace Go.Proofs.Ytimoenpfnaaehaa
open Go.RowKit

theorem cln_zero {a : Nat} (h : isZeroB a = true) : cln a = cln 0 := by
  have h1 : isNaNB a = false := by
    unfold isZeroB at h
    unfold isNaNB
    simp only [decide_eq_true_eq] at h
    simp only [decide_eq_false_iff_not]
    omega
  unfold cln
  rw [h, h1]
  rfl
theorem empty_is {t : ByteArray} (h : emptyB t = true) : t = ⟨#[]⟩ := by
  unfold emptyB at h
  have h1 := eq_of_beq h
  rw [ByteArray.toList_eq, ByteArray.toList_eq] at h1
  obtain ⟨⟨l⟩⟩ := t
  simp at h1
  rw [h1]

/-- Both Cleans. -/
theorem clean_same {x : It} (h : x.ok = true) : x.clean = { x with f := cln x.f, re := cln x.re, im := cln x.im } := by
  have hr := ok_kind h
  unfold It.clean
  rw [if_pos h]
  obtain ⟨k, b, n, f, re, im, t⟩ := x
  simp only at hr
  have : k = 1 ∨ k = 2 ∨ k = 3 ∨ k = 4 ∨ k = 5 ∨ k = 6 := by omega
  rcases this with rfl | rfl | rfl | rfl | rfl | rfl
  all_goals
    simp [It.ok, It.only] at h ⊢
    simp_all [cln_zero]
    try exact (empty_is (by simp_all)).symm

theorem rclean_is (x : It) (hf : x.f < 18446744073709551616) (hre : x.re < 18446744073709551616) (him : x.im < 18446744073709551616) (w : World) : Calls Try.prog 19 #[.agg x.r] w (Ans (.agg x.clean.r) w) := by
  cases h : x.ok
  · have e : x.clean = x := by unfold It.clean; rw [if_neg (by rw [h]; simp)]
    rw [e]
    exact rclean_no x hf hre him h w
  · rw [clean_same h]
    exact rclean_ok x hf hre him h w

section
variable {ops : Array Oper} {W : World} {Q : Act → Prop} {a : Act} {o : Oper} {rest : List Oper}
/-- a float's bits, from outside -/
theorem q_bits (n : Nat) (hg : Region.wanted o (yielded ops a.tmps) = true) (ho : ∀ w, (execOp a.eval o).run Try.prog w = (callFunc 36 #[.float .f64 n]).run Try.prog w) (hk : wpQuiet Try.prog ops (Aft W) Q rest (a.put o.dst (.int .u64 (n : Int)))) : wpQuiet Try.prog ops (Aft W) Q (o :: rest) a :=
  q_pure _ hg (fun w => (ho w).trans (ext36 n w)) hk
end

set_option maxRecDepth 100000 in
set_option maxHeartbeats 1000000 in
theorem alike_is (k : Int) (b : Bool) (n : Int) (f re im : Nat) (t : ByteArray) (w : World) : Calls Try.prog 23 #[.agg (itC k b n f re im t), .agg (rwC k b n f re im t)] w (Ans (.bool true) w) := by
  obtain ⟨B1, B2, O⟩ := new2 w 29 32 (itC k b n f re im t) (rwC k b n f re im t)
  have HO := Lib.hid O
  clear O
  go_enter Try.func23, Try.ntmps23
  go_upto_region 1 with (fail)
  generalize (w.alloc (.cells (itC k b n f re im t) 29)).alloc (.cells (rwC k b n f re im t) 32) = W at *
  refine wp_region_aft (by kernel_rfl) (by kernel_rfl) ?_
  refine q_pure _ rfl (by intro _; simp [go_sem]; rfl) ?_
  simp only [Act.put, List.setIfInBounds_toArray, List.set_cons_zero, List.set_cons_succ]
  refine q_at _ rfl (by intro w hw; have h := (B1.only hw (fun h => h)).cellv 0 rfl; simp [go_sem, h]; rfl) ?_
  simp only [Act.put, List.setIfInBounds_toArray, List.set_cons_zero, List.set_cons_succ]
  refine q_pure _ rfl (by intro _; simp [go_sem]; rfl) ?_
  simp only [Act.put, List.setIfInBounds_toArray, List.set_cons_zero, List.set_cons_succ]
  refine q_at _ rfl (by intro w hw; have h := (B2.only hw (fun h => h)).cellv 0 rfl; simp [go_sem, h]; rfl) ?_
  simp only [Act.put, List.setIfInBounds_toArray, List.set_cons_zero, List.set_cons_succ]
  refine q_pure (.bool true) rfl (by intro _; simp [go_sem]) ?_
  simp only [Act.put, List.setIfInBounds_toArray, List.set_cons_zero, List.set_cons_succ]
  refine q_move _ rfl (.inl rfl) ?_
  simp only [Act.put, List.setIfInBounds_toArray, List.set_cons_zero, List.set_cons_succ]
  refine q_pure _ rfl (by intro _; simp [go_sem]; rfl) ?_
  simp only [Act.put, List.setIfInBounds_toArray, List.set_cons_zero, List.set_cons_succ]
  refine q_at _ rfl (by intro w hw; have h := (B1.only hw (fun h => h)).cellv 1 rfl; simp [go_sem, h]; rfl) ?_
  simp only [Act.put, List.setIfInBounds_toArray, List.set_cons_zero, List.set_cons_succ]
  refine q_pure _ rfl (by intro _; simp [go_sem]; rfl) ?_
  simp only [Act.put, List.setIfInBounds_toArray, List.set_cons_zero, List.set_cons_succ]
  refine q_at _ rfl (by intro w hw; have h := (B2.only hw (fun h => h)).cellv 1 rfl; simp [go_sem, h]; rfl) ?_
  simp only [Act.put, List.setIfInBounds_toArray, List.set_cons_zero, List.set_cons_succ]
  refine q_pure (.bool true) rfl (by intro _; simp [go_sem]) ?_
  simp only [Act.put, List.setIfInBounds_toArray, List.set_cons_zero, List.set_cons_succ]
  refine q_pure (.bool true) rfl (by intro _; simp [go_sem]) ?_
  simp only [Act.put, List.setIfInBounds_toArray, List.set_cons_zero, List.set_cons_succ]
  refine q_move _ rfl (.inl rfl) ?_
  simp only [Act.put, List.setIfInBounds_toArray, List.set_cons_zero, List.set_cons_succ]
  refine q_pure _ rfl (by intro _; simp [go_sem]; rfl) ?_
  simp only [Act.put, List.setIfInBounds_toArray, List.set_cons_zero, List.set_cons_succ]
  refine q_at _ rfl (by intro w hw; have h := (B1.only hw (fun h => h)).cellv 2 rfl; simp [go_sem, h]; rfl) ?_
  simp only [Act.put, List.setIfInBounds_toArray, List.set_cons_zero, List.set_cons_succ]
  refine q_pure _ rfl (by intro _; simp [go_sem]; rfl) ?_
  simp only [Act.put, List.setIfInBounds_toArray, List.set_cons_zero, List.set_cons_succ]
  refine q_at _ rfl (by intro w hw; have h := (B2.only hw (fun h => h)).cellv 2 rfl; simp [go_sem, h]; rfl) ?_
  simp only [Act.put, List.setIfInBounds_toArray, List.set_cons_zero, List.set_cons_succ]
  refine q_pure (.bool true) rfl (by intro _; simp [go_sem]) ?_
  simp only [Act.put, List.setIfInBounds_toArray, List.set_cons_zero, List.set_cons_succ]
  refine q_pure (.bool true) rfl (by intro _; simp [go_sem]) ?_
  simp only [Act.put, List.setIfInBounds_toArray, List.set_cons_zero, List.set_cons_succ]
  refine q_move _ rfl (.inl rfl) ?_
  simp only [Act.put, List.setIfInBounds_toArray, List.set_cons_zero, List.set_cons_succ]
  refine q_pure _ rfl (by intro _; simp [go_sem]; rfl) ?_
  simp only [Act.put, List.setIfInBounds_toArray, List.set_cons_zero, List.set_cons_succ]
  refine q_at _ rfl (by intro w hw; have h := (B1.only hw (fun h => h)).cellv 5 rfl; simp [go_sem, h]; rfl) ?_
  simp only [Act.put, List.setIfInBounds_toArray, List.set_cons_zero, List.set_cons_succ]
  refine q_pure _ rfl (by intro _; simp [go_sem]; rfl) ?_
  simp only [Act.put, List.setIfInBounds_toArray, List.set_cons_zero, List.set_cons_succ]
  refine q_at _ rfl (by intro w hw; have h := (B2.only hw (fun h => h)).cellv 6 rfl; simp [go_sem, h]; rfl) ?_
  simp only [Act.put, List.setIfInBounds_toArray, List.set_cons_zero, List.set_cons_succ]
  refine q_pure (.bool true) rfl (by intro _; simp [go_sem]) ?_
  simp only [Act.put, List.setIfInBounds_toArray, List.set_cons_zero, List.set_cons_succ]
  refine q_pure (.bool true) rfl (by intro _; simp [go_sem]) ?_
  simp only [Act.put, List.setIfInBounds_toArray, List.set_cons_zero, List.set_cons_succ]
  refine q_move _ rfl (.inl rfl) ?_
  simp only [Act.put, List.setIfInBounds_toArray, List.set_cons_zero, List.set_cons_succ]
  refine q_pure _ rfl (by intro _; simp [go_sem]; rfl) ?_
  simp only [Act.put, List.setIfInBounds_toArray, List.set_cons_zero, List.set_cons_succ]
  refine q_at _ rfl (by intro w hw; have h := (B1.only hw (fun h => h)).cellv 3 rfl; simp [go_sem, h]; rfl) ?_
  simp only [Act.put, List.setIfInBounds_toArray, List.set_cons_zero, List.set_cons_succ]
  refine q_bits f rfl (by intro _; simp [go_sem]) ?_
  simp only [Act.put, List.setIfInBounds_toArray, List.set_cons_zero, List.set_cons_succ]
  refine q_pure _ rfl (by intro _; simp [go_sem]; rfl) ?_
  simp only [Act.put, List.setIfInBounds_toArray, List.set_cons_zero, List.set_cons_succ]
  refine q_at _ rfl (by intro w hw; have h := (B2.only hw (fun h => h)).cellv 3 rfl; simp [go_sem, h]; rfl) ?_
  simp only [Act.put, List.setIfInBounds_toArray, List.set_cons_zero, List.set_cons_succ]
  refine q_pure (.bool true) rfl (by intro _; simp [go_sem]) ?_
  simp only [Act.put, List.setIfInBounds_toArray, List.set_cons_zero, List.set_cons_succ]
  refine q_pure (.bool true) rfl (by intro _; simp [go_sem]) ?_
  simp only [Act.put, List.setIfInBounds_toArray, List.set_cons_zero, List.set_cons_succ]
  refine q_move _ rfl (.inl rfl) ?_
  simp only [Act.put, List.setIfInBounds_toArray, List.set_cons_zero, List.set_cons_succ]
  refine q_pure _ rfl (by intro _; simp [go_sem]; rfl) ?_
  simp only [Act.put, List.setIfInBounds_toArray, List.set_cons_zero, List.set_cons_succ]
  refine q_at _ rfl (by intro w hw; have h := (B1.only hw (fun h => h)).cellv 4 rfl; simp [go_sem, h]; rfl) ?_
  simp only [Act.put, List.setIfInBounds_toArray, List.set_cons_zero, List.set_cons_succ]
  refine q_pure _ rfl (by intro _; simp [go_sem]; rfl) ?_
  simp only [Act.put, List.setIfInBounds_toArray, List.set_cons_zero, List.set_cons_succ]
  refine q_bits re rfl (by intro _; simp [go_sem]) ?_
  simp only [Act.put, List.setIfInBounds_toArray, List.set_cons_zero, List.set_cons_succ]
  refine q_pure _ rfl (by intro _; simp [go_sem]; rfl) ?_
  simp only [Act.put, List.setIfInBounds_toArray, List.set_cons_zero, List.set_cons_succ]
  refine q_at _ rfl (by intro w hw; have h := (B2.only hw (fun h => h)).cellv 4 rfl; simp [go_sem, h]; rfl) ?_
  simp only [Act.put, List.setIfInBounds_toArray, List.set_cons_zero, List.set_cons_succ]
  refine q_pure (.bool true) rfl (by intro _; simp [go_sem]) ?_
  simp only [Act.put, List.setIfInBounds_toArray, List.set_cons_zero, List.set_cons_succ]
  refine q_pure (.bool true) rfl (by intro _; simp [go_sem]) ?_
  simp only [Act.put, List.setIfInBounds_toArray, List.set_cons_zero, List.set_cons_succ]
  refine q_move _ rfl (.inl rfl) ?_
  simp only [Act.put, List.setIfInBounds_toArray, List.set_cons_zero, List.set_cons_succ]
  refine q_pure _ rfl (by intro _; simp [go_sem]; rfl) ?_
  simp only [Act.put, List.setIfInBounds_toArray, List.set_cons_zero, List.set_cons_succ]
  refine q_at _ rfl (by intro w hw; have h := (B1.only hw (fun h => h)).cellv 4 rfl; simp [go_sem, h]; rfl) ?_
  simp only [Act.put, List.setIfInBounds_toArray, List.set_cons_zero, List.set_cons_succ]
  refine q_pure _ rfl (by intro _; simp [go_sem]; rfl) ?_
  simp only [Act.put, List.setIfInBounds_toArray, List.set_cons_zero, List.set_cons_succ]
  refine q_bits im rfl (by intro _; simp [go_sem]) ?_
  simp only [Act.put, List.setIfInBounds_toArray, List.set_cons_zero, List.set_cons_succ]
  refine q_pure _ rfl (by intro _; simp [go_sem]; rfl) ?_
  simp only [Act.put, List.setIfInBounds_toArray, List.set_cons_zero, List.set_cons_succ]
  refine q_at _ rfl (by intro w hw; have h := (B2.only hw (fun h => h)).cellv 5 rfl; simp [go_sem, h]; rfl) ?_
  simp only [Act.put, List.setIfInBounds_toArray, List.set_cons_zero, List.set_cons_succ]
  refine q_pure (.bool true) rfl (by intro _; simp [go_sem]) ?_
  simp only [Act.put, List.setIfInBounds_toArray, List.set_cons_zero, List.set_cons_succ]
  refine q_pure (.bool true) rfl (by intro _; simp [go_sem]) ?_
  simp only [Act.put, List.setIfInBounds_toArray, List.set_cons_zero, List.set_cons_succ]
  refine q_move _ rfl (.inr rfl) ?_
  simp only [Act.put, List.setIfInBounds_toArray, List.set_cons_zero, List.set_cons_succ]
  refine wpQuiet_nil fun w' hw' => ?_
  have HO2 := Lib.hid (Only.trans HO.out hw')
  go_wp2_with fail
  go_ret
  exact ⟨rfl, HO2.out⟩

theorem asItIs_is (f : Nat) (w : World) : Calls Try.prog 24 #[.float .f64 f, .int .u64 (f : Int)] w (Same (.bool true) w) := by
  have e1 := ext45
  have e2 := ext36
  go_enter Try.func24, Try.ntmps24
  go_wp2_with fail
  go_ret
  exact same_ret rfl

end Go.Proofs.Ytimoenpfnaaehaa
