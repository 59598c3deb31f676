/-
  cloisterlaw15.QuotaRoom answers true at every input, and leaves its arguments as they were. No condition.
-/
import Derived.Test.YtkfihfipnbbfcaaQ3
import Derived.Test.YtkfihfipnbbfcaaLaw
namespace Go.Proofs.Ytkfihfipnbbfcaa
open Go.ChangeShapes Go.WideShapes Go.ChangeAt Go.RowKit

theorem lpost {P : Program} {f : FuncId} {args : Array Value} {w : World} (h : Calls P f args w (LPost w)) : Calls P f args w (LawPost w) :=
  h.mono fun _ _ ⟨he, ho⟩ => ⟨he, ho.below (fun _ h => h.elim) (Nat.le_refl _)⟩


/-- an Op by value -/
theorem open_op {H : Type} {enc : TypeId × Value → H} {w : World} {base : Nat} {spare : Nat → Bool} {held : Bool} {v : Value} {d : DataW H} {p : List MemPlace}
    (hv : ∃ cs, v = .agg cs ∧ cs.size = Try.prog.cellsOf 23) (h : DataW.Trod enc Try.prog w base spare held 23 v d p) : ∃ k i q o x, v = .agg (opCells k i q o x) := by
  obtain ⟨cs, rfl, hl, hf⟩ := open_fields Try.underlying23 (by kernel_rfl) (by kernel_rfl) hv h
  match cs, hl with
  | [c0, c1, c2, c3, c4], _ =>
    obtain ⟨x0, y0, n0, e0, h0⟩ := hf 0 _ rfl
    obtain ⟨x1, y1, n1, e1, h1⟩ := hf 1 _ rfl
    obtain ⟨x2, y2, n2, e2, h2⟩ := hf 2 _ rfl
    obtain ⟨x3, y3, n3, e3, h3⟩ := hf 3 _ rfl
    obtain ⟨x4, y4, n4, e4, h4⟩ := hf 4 _ rfl
    obtain ⟨a0, rfl, _⟩ := field_int Try.underlying3 h0
    obtain ⟨a1, rfl, _⟩ := field_int Try.underlying3 h1
    obtain ⟨a2, rfl, _⟩ := field_int Try.underlying3 h2
    obtain ⟨a3, rfl, _⟩ := field_int Try.underlying3 h3
    obtain ⟨a4, rfl, _⟩ := field_int Try.underlying3 h4
    simp at e0 e1 e2 e3 e4
    subst e0 e1 e2 e3 e4
    exact ⟨a0, a1, a2, a3, a4, rfl⟩

abbrev op0 : Value := .agg #[.int .i64 0, .int .i64 0, .int .i64 0, .int .i64 0, .int .i64 0]

set_option maxRecDepth 100000 in
theorem quotaRoom_lifted (os : Os) (started : os.Started) (H : Type) (enc : TypeId × Value → H) :
    ReturnsInHanded {} Try.checked os 3 .any (Rows.quotaRoomSpec.pre6 enc Try.prog Try.f3 Rows.quotaRoomRow.domain false) (Rows.quotaRoomSpec.post enc Try.prog Try.f3 false true false false) := by
  refine returnsInHanded_of_change_sized (C := Try.checked) ownKnob_none started (by kernel_rfl) Try.func3
    (ChangeSpec.witness6 (enc := enc) (C := Try.checked) false ⟨#[], #[op0, .int .i64 0, .int .i64 0], []⟩ 8 (by kernel_rfl) (by kernel_rfl) (by kernel_rfl) (by kernel_rfl)) ?_
  intro W base args ds gs before hval0 hW _ _ _
  have hval : ∀ (j : Nat) t v, Try.f3.params[j]? = some t → args[j]? = some v → Value.okWide Try.prog W .any base t v := hval0
  clear hval0
  have hW' := hW
  obtain ⟨p, q, hA0, hV, rfl, _, _⟩ := hW
  have hA : DataW.TrodAll enc Try.prog W 0 (fun _ => true) true Try.f3.params.toList args.toList ds p := hA0
  rw [Try.params3] at hA hval
  obtain ⟨v0, vs0, d0, ds0, p0, q0, hargs, rfl, rfl, h0, r0⟩ := trodAll_cons hA
  obtain ⟨v1, vs1, d1, ds1, p1, q1, rfl, rfl, rfl, h1, r1⟩ := trodAll_cons r0
  obtain ⟨v2, vs2, d2, ds2, p2, q2, rfl, rfl, rfl, h2, r2⟩ := trodAll_cons r1
  obtain ⟨rfl, rfl, rfl⟩ := trodAll_nil r2
  obtain rfl : args = #[v0, v1, v2] := by cases args; simp_all
  obtain ⟨rfl, rfl⟩ := trodVars_none hV
  obtain ⟨k, i, q, o, x, rfl⟩ := open_op (okWide_struct Try.underlying23 (hval 0 23 v0 rfl rfl)) h0
  obtain ⟨live, rfl, _⟩ := int_of Try.underlying3 (hval 1 3 v1 rfl rfl) h1
  obtain ⟨n, rfl, _⟩ := int_of Try.underlying3 (hval 2 3 v2 rfl rfl) h2
  exact law_calls laidOut (by kernel_rfl) rfl rfl Try.underlying4 rfl rfl rfl hW' (lpost (room_any k i q o x live n W))

theorem quotaRoom_holds : Rows.QuotaRoomSaid :=
  OpenClaim.holds_of_wide 3 Try.f3 rfl rfl rfl rfl rfl rfl rfl ⟨rfl, rfl, rfl, rfl, rfl⟩ rfl rfl rfl rfl rfl (by kernel_rfl) Try.func3 (by kernel_rfl)
    (of_decide_eq_true (by kernel_rfl)) (by unfold Func.isWrapper; first | (rw [if_pos (by decide +kernel)]; kernel_rfl) | (rw [if_neg (by decide +kernel)]; exact ⟨rfl, rfl⟩))
    (fun os started H enc _ => quotaRoom_lifted os started H enc)

end Go.Proofs.Ytkfihfipnbbfcaa
