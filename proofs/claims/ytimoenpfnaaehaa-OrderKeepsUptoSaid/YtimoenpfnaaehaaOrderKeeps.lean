/-
  cloisterlaw04.OrderKeeps answers true at every input, and leaves its arguments as they were. Condition: what comes in is of bulk at most 1048576 ('..UptoSaid').
-/
import Derived.Test.YtimoenpfnaaehaaOX3
import Derived.Test.YtimoenpfnaaehaaOPU
namespace Go.Proofs.Ytimoenpfnaaehaa
open Go.ChangeShapes Go.WideShapes Go.ChangeAt Go.RowKit

set_option maxRecDepth 100000 in
theorem orderKeeps_lifted (os : Os) (started : os.Started) (H : Type) (enc : TypeId × Value → H) (F : Stop.Interp) :
    ReturnsInHanded {} Try.checked os 15 .any ((Rows.OpenSpec.upto Rows.orderKeepsSpec).pre6 enc Try.prog Try.f15 Rows.orderKeepsUptoRow.domain false) (((Rows.OpenSpec.upto Rows.orderKeepsSpec).at F).post enc Try.prog Try.f15 false true false false) := by
  refine returnsInHanded_of_cond (C := Try.checked) (s := Rows.OpenSpec.upto Rows.orderKeepsSpec) (k := Rows.uptoSmall) rfl ownKnob_none started (by kernel_rfl) Try.func15
    (OpenSpec.witness (enc := enc) (C := Try.checked) (s := Rows.OpenSpec.upto Rows.orderKeepsSpec) (k := Rows.uptoSmall) rfl false ⟨#[], #[.slice none 0 0, .string .empty, .string .empty], []⟩ 8 (by kernel_rfl) (by kernel_rfl) (by kernel_rfl)
      (x := ([.nil, .lit (.string []), .lit (.string [])], [], [])) (by kernel_rfl) rfl (by kernel_rfl)) ?_
  intro W base args ds gs before hval0 hW _ hk0 _
  have hval : ∀ (j : Nat) t v, Try.f15.params[j]? = some t → args[j]? = some v → Value.okWide Try.prog W .any base t v := hval0
  clear hval0
  have hW' := hW
  obtain ⟨p, q, hA0, hV, rfl, _, _⟩ := hW
  have hA : DataW.TrodAll enc Try.prog W 0 (fun _ => true) true Try.f15.params.toList args.toList ds p := hA0
  rw [Try.params15] at hA hval
  obtain ⟨v0, vs0, d0, ds0, p0, q0, hargs, rfl, rfl, h0, r0⟩ := trodAll_cons hA
  obtain ⟨v1, vs1, d1, ds1, p1, q1, rfl, rfl, rfl, h1, r1⟩ := trodAll_cons r0
  obtain ⟨v2, vs2, d2, ds2, p2, q2, rfl, rfl, rfl, h2, r2⟩ := trodAll_cons r1
  obtain ⟨rfl, rfl, rfl⟩ := trodAll_nil r2
  obtain rfl : args = #[v0, v1, v2] := by cases args; simp_all
  obtain ⟨rfl, rfl⟩ := trodVars_none hV
  have hk : Rows.uptoSmall H [d0, d1, d2] = true := hk0
  obtain ⟨A0, cap0, s0, rfl, hl0, hc0, hS0, hR0, hT0⟩ := open_rawsU (okWide_slice Try.underlying44 (hval 0 44 v0 rfl rfl)) h0
  have hb0 := bulk_arg hk 0 rfl
  have sm0 : Small s0 := ⟨by omega, hR0, fun x hx => Nat.le_trans (hT0 x hx) hb0⟩
  obtain ⟨s1, rfl, rfl, _, _⟩ := Go.ChangeMaps.open_string Try.underlying9 (hval 1 9 v1 rfl rfl) h1
  have hb1 : s1.size ≤ 1048576 := by
    have h1 := bulk_arg hk 1 rfl
    rw [bulk_string] at h1
    omega
  obtain ⟨s2, rfl, rfl, _, _⟩ := Go.ChangeMaps.open_string Try.underlying9 (hval 2 9 v2 rfl rfl) h2
  have hb2 : s2.size ≤ 1048576 := by
    have h1 := bulk_arg hk 2 rfl
    rw [bulk_string] at h1
    omega
  exact law_calls laidOut (by kernel_rfl) rfl rfl Try.underlying4 rfl rfl rfl hW' (lawPost (keeps_walk s0 A0 cap0 s1 s2 W hS0 sm0 hb1 hb2))

theorem orderKeeps_holds : Rows.OrderKeepsUptoSaid :=
  OpenClaim.holds_of_cond 15 Try.f15 rfl rfl rfl rfl rfl rfl rfl ⟨rfl, rfl, rfl, rfl, rfl⟩ rfl rfl rfl rfl rfl (by kernel_rfl) Try.func15 (by kernel_rfl)
    (of_decide_eq_true (by kernel_rfl)) (by unfold Func.isWrapper; first | (rw [if_pos (by decide +kernel)]; kernel_rfl) | (rw [if_neg (by decide +kernel)]; exact ⟨rfl, rfl⟩))
    (fun os started H enc _ F => orderKeeps_lifted os started H enc F)

end Go.Proofs.Ytimoenpfnaaehaa
