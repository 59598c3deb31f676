/-
  Layer 4's law OrderNextLeast, walked.
-/
import Derived.Test.YtimoenpfnaaehaaOU1
namespace Go.Proofs.Ytimoenpfnaaehaa
open Go.RowKit

set_option maxHeartbeats 1000000 in
theorem least_walk (p x : ByteArray) (w : World) (hs : p.size ≤ 140737488355328) (hx : x.size ≤ 140737488355328) : Calls Try.prog 11 #[.string p, .string x] w (Ans (.bool true) w) := by
  have hA := fun u => Lib.hid (awake_is u)
  have hN := fun u => Lib.hid (next_is p u (by omega))
  have hB := fun y u => Lib.hid (begins_is y p u)
  have g1 := begin_law x p
  have g2 := begin_law (p ++ x) p
  have hB2 := begins_add p x
  rw [hB2] at g2
  have hadd : ¬ (9223372036854775807 < p.size + x.size) := by omega
  generalize nextS p = r at *
  obtain ⟨t, b⟩ := r
  simp only at g1 g2
  cases b
  · obtain g3 : Op.bytesLess (p ++ x).toList p.toList = false := by
      cases h : Op.bytesLess (p ++ x).toList p.toList <;> simp [h] at g2 ⊢
    clear g2
    cases h1 : Op.bytesLess x.toList p.toList
    all_goals
      rw [h1] at g1
      simp only [Bool.not_true, Bool.not_false, Bool.true_and, Bool.false_and, Bool.true_or] at g1
      go_enter Try.func11, Try.ntmps11
      go_wp2_with fail
      refine (hA _).out.mono ?_; rintro e w1 ⟨rfl, ho1⟩
      go_wp2_with fail
      refine (hN _).out.mono ?_; rintro e w2 ⟨rfl, ho2⟩
      have HO := Lib.hid (ho1.trans ho2)
      clear ho1 ho2
      go_wp2_with (go_at_call 37; refine (hB _ _).out.mono ?_; rintro e w3 ⟨rfl, rfl⟩)
      go_ret
      exact ⟨rfl, HO.out⟩
  · obtain ⟨g3, g4⟩ : Op.bytesLess (p ++ x).toList p.toList = false ∧ Op.bytesLess (p ++ x).toList t.toList = true := by
      cases h : Op.bytesLess (p ++ x).toList p.toList <;> cases h' : Op.bytesLess (p ++ x).toList t.toList <;> simp [h, h'] at g2 ⊢
    clear g2
    cases h1 : Op.bytesLess x.toList p.toList <;> cases h2 : Op.bytesLess x.toList t.toList
    all_goals
      rw [h1, h2] at g1
      simp only [Bool.not_true, Bool.not_false, Bool.true_and, Bool.false_and, Bool.false_or] at g1
      go_enter Try.func11, Try.ntmps11
      go_wp2_with fail
      refine (hA _).out.mono ?_; rintro e w1 ⟨rfl, ho1⟩
      go_wp2_with fail
      refine (hN _).out.mono ?_; rintro e w2 ⟨rfl, ho2⟩
      have HO := Lib.hid (ho1.trans ho2)
      clear ho1 ho2
      go_wp2_with (go_at_call 37; refine (hB _ _).out.mono ?_; rintro e w3 ⟨rfl, rfl⟩)
      go_ret
      exact ⟨rfl, HO.out⟩

end Go.Proofs.Ytimoenpfnaaehaa
