/-
  cloisterlaw14.StoreEarlier answers true at every input, and leaves its arguments as they were. No condition.
-/
import Derived.Test.YtnonnencdhogiaaStoreEarlierX1
namespace Go.Proofs.Ytnonnencdhogiaa
open Go.ChangeShapes Go.WideShapes Go.ChangeAt Go.RowKit

set_option maxRecDepth 100000 in
theorem storeEarlier_lifted (os : Os) (started : os.Started) (H : Type) (enc : TypeId × Value → H) :
    ReturnsInHanded {} Try.checked os 6 .any (Rows.storeEarlierSpec.pre6 enc Try.prog Try.f6 Rows.storeEarlierRow.domain false) (Rows.storeEarlierSpec.post enc Try.prog Try.f6 false true false false) := by
  refine returnsInHanded_of_change_sized (C := Try.checked) ownKnob_none started (by kernel_rfl) Try.func6
    (ChangeSpec.witness6 (enc := enc) (C := Try.checked) false ⟨#[], #[.slice none 0 0, .agg #[.string ⟨#[]⟩, .int .i64 0, .slice none 0 0, .bool false], .slice none 0 0], []⟩ 8 (by kernel_rfl) (by kernel_rfl) (by kernel_rfl) (by kernel_rfl)) ?_
  intro W base args ds gs before hval0 hW _ hsz0 _
  have hsz : (DataW.weightsEach Try.prog (Try.f6.params.toList ++ []) (ds ++ gs)).all (· ≤ reachBytes) = true := hsz0
  clear hsz0
  have hval : ∀ (j : Nat) t v, Try.f6.params[j]? = some t → args[j]? = some v → Value.okWide Try.prog W .any base t v := hval0
  clear hval0
  have hW' := hW
  obtain ⟨p, q, hA0, hV, rfl, _, _⟩ := hW
  have hA : DataW.TrodAll enc Try.prog W 0 (fun _ => true) true Try.f6.params.toList args.toList ds p := hA0
  rw [Try.params6] at hA hval hsz
  obtain ⟨v0, vs0, d0, ds0, p0, q0, hargs, rfl, rfl, h0, r0⟩ := trodAll_cons hA
  obtain ⟨v1, vs1, d1, ds1, p1, q1, rfl, rfl, rfl, h1, r1⟩ := trodAll_cons r0
  obtain ⟨v2, vs2, d2, ds2, p2, q2, rfl, rfl, rfl, h2, r2⟩ := trodAll_cons r1
  obtain ⟨rfl, rfl, rfl⟩ := trodAll_nil r2
  obtain rfl : args = #[v0, v1, v2] := by cases args; simp_all
  obtain ⟨rfl, rfl⟩ := trodVars_none hV
  have hsize : (DataW.weightsEach Try.prog [31, 27, 23] [d0, d1, d2]).all (· ≤ reachBytes) = true := by simpa using hsz
  obtain ⟨A0, cap0, s0, rfl, hd0, hS0⟩ := open_vers (okWide_slice Try.underlying31 (hval 0 31 v0 rfl rfl)) h0
  obtain ⟨key1, st1, A1, cap1, bs1, dead1, rfl, hk1, hB1⟩ := open_ver (okWide_struct Try.underlying27 (hval 1 27 v1 rfl rfl)) h1
  obtain ⟨A2, cap2, s2, rfl, hd2, hS2⟩ := open_steps (okWide_slice Try.underlying23 (hval 2 23 v2 rfl rfl)) h2
  exact law_calls laidOut (by kernel_rfl) rfl rfl Try.underlying4 rfl rfl rfl hW' (lawPost (earlier_walk A0 cap0 s0 key1 st1 A1 cap1 bs1 dead1 A2 cap2 s2 W hS0 (vers_few 0 hsize rfl rfl hd0) hB1 hS2 (steps_few 2 hsize rfl rfl hd2)))

theorem storeEarlier_holds : Rows.StoreEarlierSaid :=
  OpenClaim.holds_of_wide 6 Try.f6 rfl rfl rfl rfl rfl rfl rfl ⟨rfl, rfl, rfl, rfl, rfl⟩ rfl rfl rfl rfl rfl (by kernel_rfl) Try.func6 (by kernel_rfl)
    (of_decide_eq_true (by kernel_rfl)) (by unfold Func.isWrapper; first | (rw [if_pos (by decide +kernel)]; kernel_rfl) | (rw [if_neg (by decide +kernel)]; exact ⟨rfl, rfl⟩))
    (fun os started H enc _ => storeEarlier_lifted os started H enc)

end Go.Proofs.Ytnonnencdhogiaa
