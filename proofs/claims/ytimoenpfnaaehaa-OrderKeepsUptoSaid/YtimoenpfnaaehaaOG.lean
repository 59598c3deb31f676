/-
  Layer 4's laws: some calls whose answers the document fixes.
-/
import Derived.Test.YtimoenpfnaaehaaOE
import Derived.KernelRfl
namespace Go.Proofs.Ytimoenpfnaaehaa
open Go.RowKit

abbrev aw1 : It := ⟨3, false, -1, 0, 0, 0, E0⟩
abbrev aw2 : It := ⟨6, false, 0, 0, 0, 0, ⟨#[97, 0]⟩⟩
theorem aw_enc : encL [aw1, aw2] = (⟨#[3, 127, 255, 255, 255, 255, 255, 255, 255, 6, 97, 0, 255, 0, 1]⟩, 0) := by kernel_rfl
theorem aw_dec : decL ⟨#[4, 191, 240, 0, 0, 0, 0, 0, 0]⟩ = some [⟨4, false, 0, 4607182418800017408, 0, 0, E0⟩] := by kernel_rfl
theorem aw_next : nextS ⟨#[97, 255]⟩ = (⟨#[98]⟩, true) := by kernel_rfl
theorem aw_cmp : It.cmp ⟨2, false, 0, 0, 0, 0, E0⟩ ⟨2, true, 0, 0, 0, 0, E0⟩ = -1 := by kernel_rfl
theorem aw_one : (FloatKind.f64.format.order 4607182418800017408 4607182418800017408 == some Ordering.eq) = true := by kernel_rfl

theorem aw_wf : ∀ x ∈ [aw1, aw2], x.Wf := by
  intro x hx
  simp only [List.mem_cons, List.not_mem_nil, or_false] at hx
  rcases hx with rfl | rfl
  · exact ⟨by decide, by decide, by decide, by decide, by decide, by decide, by decide, by decide⟩
  · exact ⟨by decide, by decide, by decide, by decide, by decide, by decide, by decide, by decide⟩

theorem aw_at (w : World) (b : Nat) (h : Blk w b 29 (aw1.c ++ aw2.c)) : ItemsAt w (some ⟨b, 0, none⟩) [aw1, aw2] := by
  intro i x hx
  match i with
  | 0 =>
    simp at hx
    subst hx
    exact ⟨b, 0, rfl, h.lt, h.cellv 0 rfl, h.cellv 1 rfl, h.cellv 2 rfl, h.cellv 3 rfl, h.cellv 4 rfl, h.cellv 5 rfl⟩
  | 1 =>
    simp at hx
    subst hx
    exact ⟨b, 0, rfl, h.lt, h.cellv 6 rfl, h.cellv 7 rfl, h.cellv 8 rfl, h.cellv 9 rfl, h.cellv 10 rfl, h.cellv 11 rfl⟩
  | i + 2 => simp at hx

set_option maxRecDepth 100000 in
set_option maxHeartbeats 1000000 in
theorem awake_is (w : World) : Calls Try.prog 16 #[] w (Ans (.bool true) w) := by
  have hB : Blk (w.alloc (.cells (aw1.c ++ aw2.c) 29)) w.heap.size 29 (aw1.c ++ aw2.c) := Blk.new w 29 _
  have hE := fun u hu => Lib.hid (encode_is u (some ⟨w.heap.size, 0, none⟩) 2 2 [aw1, aw2] rfl (by omega) hu aw_wf)
  have hD := fun u => Lib.hid (decode_is ⟨#[4, 191, 240, 0, 0, 0, 0, 0, 0]⟩ u (by decide))
  have hN := fun u => Lib.hid (next_is ⟨#[97, 255]⟩ u (by decide))
  have hC := fun u => Lib.hid (compare_is ⟨2, false, 0, 0, 0, 0, E0⟩ ⟨2, true, 0, 0, 0, 0, E0⟩ u)
  simp only [aw_enc] at hE
  simp only [aw_dec] at hD
  simp only [aw_next] at hN
  simp only [aw_cmp] at hC
  have one := aw_one
  go_enter Try.func16, Try.ntmps16
  go_wp2_with fail
  refine (hE _ (aw_at _ _ hB)).out.mono ?_; rintro e w1 ⟨rfl, ho1⟩
  have HO1 := Lib.hid (((Only.refl NoneOf w).alloc (.cells (aw1.c ++ aw2.c) 29)).trans ho1)
  clear ho1 hB
  go_wp2_with fail
  refine (hD _).out.mono ?_; rintro e w2 ⟨⟨v, rfl, hr, _⟩, ho2⟩
  have HO2 := Lib.hid (HO1.out.trans ho2)
  clear ho2
  have HA := hr.at
  obtain ⟨A, cap, hv, hA⟩ := HA
  subst hv
  obtain ⟨g, off, hAe, hg, c0, c1, c2, c3, c4, c5⟩ := hA 0 _ rfl
  subst hAe
  clear hr hA c0 c1 c2 c4 c5
  rw [show off + 0 * 6 + 3 = off + 3 by omega] at c3
  have HC3 := Lib.hid c3
  clear c3
  simp only [List.length_cons, List.length_nil]
  go_wp2_with fail
  refine (hN _).out.mono ?_; rintro e w3 ⟨rfl, ho3⟩
  have HO3 := Lib.hid (HO2.out.trans ho3)
  have c3 := (ho3.cell (p := ⟨g, off + 3, none⟩) hg (fun h => h)).trans HC3.out
  clear ho3
  go_wp2_with fail
  refine (hC _).out.mono ?_; rintro e w4 ⟨rfl, ho4⟩
  go_wp2_with fail
  go_ret
  exact ⟨rfl, HO3.out.trans ho4⟩

end Go.Proofs.Ytimoenpfnaaehaa
