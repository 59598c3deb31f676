/-
  cloisterlaw04.OrderComparesAll answers true at every input, and leaves its arguments as they were. No condition.
-/
import Derived.Test.YtimoenpfnaaehaaOV2
import Derived.Test.YtimoenpfnaaehaaOPL
namespace Go.Proofs.Ytimoenpfnaaehaa
open Go.ChangeShapes Go.WideShapes Go.ChangeAt Go.RowKit

set_option maxRecDepth 100000 in
theorem orderComparesAll_lifted (os : Os) (started : os.Started) (H : Type) (enc : TypeId × Value → H) :
    ReturnsInHanded {} Try.checked os 13 .any (Rows.orderComparesAllSpec.pre6 enc Try.prog Try.f13 Rows.orderComparesAllRow.domain false) (Rows.orderComparesAllSpec.post enc Try.prog Try.f13 false true false false) := by
  refine returnsInHanded_of_change_sized (C := Try.checked) ownKnob_none started (by kernel_rfl) Try.func13
    (ChangeSpec.witness6 (enc := enc) (C := Try.checked) false ⟨#[], #[.slice none 0 0, .slice none 0 0], []⟩ 8 (by kernel_rfl) (by kernel_rfl) (by kernel_rfl) (by kernel_rfl)) ?_
  intro W base args ds gs before hval0 hW _ hsz0 _
  have hsz : (DataW.weightsEach Try.prog (Try.f13.params.toList ++ []) (ds ++ gs)).all (· ≤ reachBytes) = true := hsz0
  clear hsz0
  have hval : ∀ (j : Nat) t v, Try.f13.params[j]? = some t → args[j]? = some v → Value.okWide Try.prog W .any base t v := hval0
  clear hval0
  have hW' := hW
  obtain ⟨p, q, hA0, hV, rfl, _, _⟩ := hW
  have hA : DataW.TrodAll enc Try.prog W 0 (fun _ => true) true Try.f13.params.toList args.toList ds p := hA0
  rw [Try.params13] at hA hval hsz
  obtain ⟨v0, vs0, d0, ds0, p0, q0, hargs, rfl, rfl, h0, r0⟩ := trodAll_cons hA
  obtain ⟨v1, vs1, d1, ds1, p1, q1, rfl, rfl, rfl, h1, r1⟩ := trodAll_cons r0
  obtain ⟨rfl, rfl, rfl⟩ := trodAll_nil r1
  obtain rfl : args = #[v0, v1] := by cases args; simp_all
  obtain ⟨rfl, rfl⟩ := trodVars_none hV
  have hsize : (DataW.weightsEach Try.prog [44, 44] [d0, d1]).all (· ≤ reachBytes) = true := by simpa using hsz
  obtain ⟨A0, cap0, s0, rfl, hl0, hd0, hS0, hR0⟩ := open_raws (okWide_slice Try.underlying44 (hval 0 44 v0 rfl rfl)) h0
  obtain ⟨A1, cap1, s1, rfl, hl1, hd1, hS1, hR1⟩ := open_raws (okWide_slice Try.underlying44 (hval 1 44 v1 rfl rfl)) h1
  exact law_calls laidOut (by kernel_rfl) rfl rfl Try.underlying4 rfl rfl rfl hW' (lawPost (comparesAll_walk s0 s1 A0 A1 cap0 cap1 W hS0 hS1 (fun x h => (hR0 x h).In) (fun x h => (hR1 x h).In) (raws_few 0 hsize rfl rfl hd0) (raws_few 1 hsize rfl rfl hd1)))

theorem orderComparesAll_holds : Rows.OrderComparesAllSaid :=
  OpenClaim.holds_of_wide 13 Try.f13 rfl rfl rfl rfl rfl rfl rfl ⟨rfl, rfl, rfl, rfl, rfl⟩ rfl rfl rfl rfl rfl (by kernel_rfl) Try.func13 (by kernel_rfl)
    (of_decide_eq_true (by kernel_rfl)) (by unfold Func.isWrapper; first | (rw [if_pos (by decide +kernel)]; kernel_rfl) | (rw [if_neg (by decide +kernel)]; exact ⟨rfl, rfl⟩))
    (fun os started H enc _ => orderComparesAll_lifted os started H enc)

end Go.Proofs.Ytimoenpfnaaehaa
