/-
  cloisterlaw04.OrderNextLeast answers true at every input, and leaves its arguments as they were. No condition.
-/
import Derived.Test.YtimoenpfnaaehaaOU2
import Derived.Test.YtimoenpfnaaehaaOOpen
namespace Go.Proofs.Ytimoenpfnaaehaa
open Go.ChangeShapes Go.WideShapes Go.ChangeAt Go.RowKit

set_option maxRecDepth 100000 in
theorem orderNextLeast_lifted (os : Os) (started : os.Started) (H : Type) (enc : TypeId × Value → H) :
    ReturnsInHanded {} Try.checked os 11 .any (Rows.orderNextLeastSpec.pre6 enc Try.prog Try.f11 Rows.orderNextLeastRow.domain false) (Rows.orderNextLeastSpec.post enc Try.prog Try.f11 false true false false) := by
  refine returnsInHanded_of_change_sized (C := Try.checked) ownKnob_none started (by kernel_rfl) Try.func11
    (ChangeSpec.witness6 (enc := enc) (C := Try.checked) false ⟨#[], #[.string ⟨#[]⟩, .string ⟨#[]⟩], []⟩ 8 (by kernel_rfl) (by kernel_rfl) (by kernel_rfl) (by kernel_rfl)) ?_
  intro W base args ds gs before hval0 hW _ hsz0 _
  have hsz : (DataW.weightsEach Try.prog (Try.f11.params.toList ++ []) (ds ++ gs)).all (· ≤ reachBytes) = true := hsz0
  clear hsz0
  have hval : ∀ (j : Nat) t v, Try.f11.params[j]? = some t → args[j]? = some v → Value.okWide Try.prog W .any base t v := hval0
  clear hval0
  have hW' := hW
  obtain ⟨p, q, hA0, hV, rfl, _, _⟩ := hW
  have hA : DataW.TrodAll enc Try.prog W 0 (fun _ => true) true Try.f11.params.toList args.toList ds p := hA0
  rw [Try.params11] at hA hval hsz
  obtain ⟨v0, vs0, d0, ds0, p0, q0, hargs, rfl, rfl, h0, r0⟩ := trodAll_cons hA
  obtain ⟨v1, vs1, d1, ds1, p1, q1, rfl, rfl, rfl, h1, r1⟩ := trodAll_cons r0
  obtain ⟨rfl, rfl, rfl⟩ := trodAll_nil r1
  obtain rfl : args = #[v0, v1] := by cases args; simp_all
  obtain ⟨rfl, rfl⟩ := trodVars_none hV
  have hsize : (DataW.weightsEach Try.prog [9, 9] [d0, d1]).all (· ≤ reachBytes) = true := by simpa using hsz
  obtain ⟨s0, rfl, hd0, _, _⟩ := Go.ChangeMaps.open_string Try.underlying9 (hval 0 9 v0 rfl rfl) h0
  have hz0 : s0.size ≤ 140737488355328 := by
    have h1 := sized_string hsize (j := 0) rfl (congrArg some hd0)
    have h2 := reachBytes_lt
    simp at h1
    omega
  obtain ⟨s1, rfl, hd1, _, _⟩ := Go.ChangeMaps.open_string Try.underlying9 (hval 1 9 v1 rfl rfl) h1
  have hz1 : s1.size ≤ 140737488355328 := by
    have h1 := sized_string hsize (j := 1) rfl (congrArg some hd1)
    have h2 := reachBytes_lt
    simp at h1
    omega
  exact law_calls laidOut (by kernel_rfl) rfl rfl Try.underlying4 rfl rfl rfl hW' (lawPost (least_walk s0 s1 W hz0 hz1))

theorem orderNextLeast_holds : Rows.OrderNextLeastSaid :=
  OpenClaim.holds_of_wide 11 Try.f11 rfl rfl rfl rfl rfl rfl rfl ⟨rfl, rfl, rfl, rfl, rfl⟩ rfl rfl rfl rfl rfl (by kernel_rfl) Try.func11 (by kernel_rfl)
    (of_decide_eq_true (by kernel_rfl)) (by unfold Func.isWrapper; first | (rw [if_pos (by decide +kernel)]; kernel_rfl) | (rw [if_neg (by decide +kernel)]; exact ⟨rfl, rfl⟩))
    (fun os started H enc _ => orderNextLeast_lifted os started H enc)

end Go.Proofs.Ytimoenpfnaaehaa
