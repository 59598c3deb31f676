/-
  Layer 4's law OrderCompares, walked.
-/
import Derived.Test.YtimoenpfnaaehaaOR4
import Derived.Test.YtimoenpfnaaehaaOG
import Derived.Test.YtimoenpfnaaehaaONames
import Derived.Test.YtimoenpfnaaehaaOQ
namespace Go.Proofs.Ytimoenpfnaaehaa
open Go.RowKit



set_option maxRecDepth 100000 in
set_option maxHeartbeats 1000000 in
theorem compares_walk (x y : It) (hx : x.In) (hy : y.In) (w : World) : Calls Try.prog 5 #[.agg x.r, .agg y.r] w (Ans (.bool true) w) := by
  have HC := fun u => Lib.hid (compare_is x y u)
  have HR := fun u => Lib.hid (rcompare_is x y hx hy u)
  have HA := fun u => Lib.hid (awake_is u)
  generalize x.cmp y = R at *
  clear hx hy
  obtain ⟨k, b, n, f, re, im, t⟩ := x
  obtain ⟨k', b', n', f', re', im', t'⟩ := y
  have HI := fun u => Lib.hid (item_is k b n f re im t u)
  have HJ := fun u => Lib.hid (item_is k' b' n' f' re' im' t' u)
  have HD := fun u => Lib.hid (doc_is k b n f re im t u)
  have HE := fun u => Lib.hid (doc_is k' b' n' f' re' im' t' u)
  obtain ⟨B1, B2, O⟩ := new2 w 25 25 (rwC k b n f re im t) (rwC k' b' n' f' re' im' t')
  have HO := Lib.hid O
  clear O
  go_enter Try.func5, Try.ntmps5
  go_upto_region 1 with (fail)
  generalize (w.alloc (.cells (rwC k b n f re im t) 25)).alloc (.cells (rwC k' b' n' f' re' im' t') 25) = W at *
  refine wp_region_aft (by kernel_rfl) (by kernel_rfl) ?_
  refine q_load 25 (.tmp 2) w.heap.size 25 _ _ rfl rfl rfl B1 Try.underlying25 rfl info25 ?_
  simp only [Act.put, List.setIfInBounds_toArray, List.set_cons_zero, List.set_cons_succ]
  refine q_call 18 _ _ rfl (by intro _; simp [go_sem]) HI ?_
  simp only [Act.put, List.setIfInBounds_toArray, List.set_cons_zero, List.set_cons_succ]
  refine q_load 25 (.tmp 3) (w.heap.size + 1) 25 _ _ rfl rfl rfl B2 Try.underlying25 rfl info25 ?_
  simp only [Act.put, List.setIfInBounds_toArray, List.set_cons_zero, List.set_cons_succ]
  refine q_call 18 _ _ rfl (by intro _; simp [go_sem]) HJ ?_
  simp only [Act.put, List.setIfInBounds_toArray, List.set_cons_zero, List.set_cons_succ]
  refine q_call 25 _ _ rfl (by intro _; simp [go_sem]) HC ?_
  simp only [Act.put, List.setIfInBounds_toArray, List.set_cons_zero, List.set_cons_succ]
  refine q_load 25 (.tmp 2) w.heap.size 25 _ _ rfl rfl rfl B1 Try.underlying25 rfl info25 ?_
  simp only [Act.put, List.setIfInBounds_toArray, List.set_cons_zero, List.set_cons_succ]
  refine q_call 20 _ _ rfl (by intro _; simp [go_sem]) HD ?_
  simp only [Act.put, List.setIfInBounds_toArray, List.set_cons_zero, List.set_cons_succ]
  refine q_load 25 (.tmp 3) (w.heap.size + 1) 25 _ _ rfl rfl rfl B2 Try.underlying25 rfl info25 ?_
  simp only [Act.put, List.setIfInBounds_toArray, List.set_cons_zero, List.set_cons_succ]
  refine q_call 20 _ _ rfl (by intro _; simp [go_sem]) HE ?_
  simp only [Act.put, List.setIfInBounds_toArray, List.set_cons_zero, List.set_cons_succ]
  refine q_call 26 _ _ rfl (by intro _; simp [go_sem]) HR ?_
  simp only [Act.put, List.setIfInBounds_toArray, List.set_cons_zero, List.set_cons_succ]
  refine q_pure (.bool true) rfl (fun _ => by simp [go_sem]) ?_
  simp only [Act.put, List.setIfInBounds_toArray, List.set_cons_zero, List.set_cons_succ]
  refine q_move _ rfl (.inl rfl) ?_
  simp only [Act.put, List.setIfInBounds_toArray, List.set_cons_zero, List.set_cons_succ]
  refine q_call 16 _ _ rfl (by intro _; simp [go_sem]) HA ?_
  simp only [Act.put, List.setIfInBounds_toArray, List.set_cons_zero, List.set_cons_succ]
  refine q_pure _ rfl (by intro _; simp [go_sem]; rfl) ?_
  simp only [Act.put, List.setIfInBounds_toArray, List.set_cons_zero, List.set_cons_succ]
  refine q_move _ rfl (.inr rfl) ?_
  simp only [Act.put, List.setIfInBounds_toArray, List.set_cons_zero, List.set_cons_succ]
  refine wpQuiet_nil fun w' hw' => ?_
  have HO2 := Lib.hid (Only.trans HO.out hw')
  go_wp2_with fail
  go_ret
  exact ⟨rfl, HO2.out⟩

end Go.Proofs.Ytimoenpfnaaehaa
