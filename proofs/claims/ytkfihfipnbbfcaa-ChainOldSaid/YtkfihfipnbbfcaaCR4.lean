/-
  Layer 13's reference (cloisterref13): All.
-/
import Derived.Test.YtkfihfipnbbfcaaCR3
namespace Go.Proofs.Ytkfihfipnbbfcaa
open Go.RowKit
namespace Rf
open Cs (IsV only_grown walked)

/-- How All ends: new memory. -/
def AllPost (xs : List Lk) (w : World) (e : Ending) (w' : World) : Prop :=
  ∃ d', e = .returned d' ∧ w'.ownsRow w.heap.size 71 3 d' xs.length (flat xs) ∧ Only NoneOf w w'

def AllRel (w : World) (ls : List Lk) (most : Int) (o i : Value) (wr : World) : Prop :=
  ∃ q : Nat, q ≤ ls.length ∧ i = .int .i64 ((q : Int) - 1) ∧ (most < 0 ∨ ((ls.length - q : Nat) : Int) ≤ most) ∧ wr.ownsRow w.heap.size 71 3 o (ls.length - q) (flat (ls.reverse.take (ls.length - q))) ∧ Only NoneOf w wr

theorem back_get {ls : List Lk} {r : Nat} (hr : r < ls.length) : ls.reverse[ls.length - (r + 1)]? = ls[r]? := by
  rw [List.getElem?_reverse (by omega), show ls.length - 1 - (ls.length - (r + 1)) = r by omega]

theorem back_row {w2 : World} {E : Nat} {v2 : Value} {ls : List Lk} {r : Nat} {st : Int} {x : ByteArray} {dead : Bool} (hl : ls[r]? = some ⟨st, .string x, dead⟩)
    (hr : w2.ownsRow E 71 3 v2 (ls.length - (r + 1) + 1) (flat (ls.reverse.take (ls.length - (r + 1))) ++ [.int .i64 st, .string x, .bool dead])) :
    w2.ownsRow E 71 3 v2 (ls.length - r) (flat (ls.reverse.take (ls.length - r))) := by
  have hk : r < ls.length := (List.getElem?_eq_some_iff.1 hl).1
  have e : ls.length - r = ls.length - (r + 1) + 1 := by omega
  rw [e, List.take_add_one, back_get hk, hl, flat_append]
  exact hr

theorem all_end {w wr : World} {ls : List Lk} {q : Nat} {most : Int} {o : Value} (hR : wr.ownsRow w.heap.size 71 3 o (ls.length - q) (flat (ls.reverse.take (ls.length - q)))) (hO : Only NoneOf w wr)
    (hm : most < 0 ∨ ((ls.length - q : Nat) : Int) ≤ most) (he : q = 0 ∨ (¬ most < 0 ∧ ¬ ((ls.length - q : Nat) : Int) < most)) : AllPost (walked ls.reverse most) w (.returned o) wr := by
  have hx : walked ls.reverse most = ls.reverse.take (ls.length - q) := by
    unfold walked
    by_cases h0 : most < 0
    · rw [if_pos h0]
      rcases he with he | he
      · subst he; rw [Nat.sub_zero, List.take_of_length_le (by simp)]
      · exact absurd h0 he.1
    · rw [if_neg h0]
      rcases he with he | he
      · subst he; rw [Nat.sub_zero, List.take_of_length_le (by simp; omega), List.take_of_length_le (by simp)]
      · congr 1; omega
  refine ⟨o, rfl, ?_, hO⟩
  rw [hx]
  have : (ls.reverse.take (ls.length - q)).length = ls.length - q := by simp
  rw [this]
  exact hR

set_option maxRecDepth 100000 in
set_option maxHeartbeats 1000000 in
theorem all_is (w : World) (d : Value) (ls : List Lk) (most : Int) (h : DocIs w d ls) : Calls Try.prog 55 #[d, .int .i64 most] w (AllPost (walked ls.reverse most) w) := by
  obtain ⟨i0, hi, hz0, hz1, hz2⟩ := info_parts infoR
  have hfew := h.few
  rcases form h.row h.vals with ⟨rfl, rfl⟩ | ⟨g, cap, rfl, hcap, hg, hcs⟩
  · clear h hfew
    go_enter Try.func55, Try.ntmps55
    go_wp2_with fail
    go_loopw [5, 6] (fun o i wr => o = .slice none 0 0 ∧ i = .int .i64 (-1) ∧ wr = w) (fun _ i _ => (intOf i).toNat)
    case atStart => exact ⟨rfl, rfl, rfl⟩
    case round =>
      obtain ⟨rfl, rfl, rfl⟩ := hrel
      go_wp2_with fail
      go_ret
      exact ⟨_, rfl, by unfold walked; split <;> exact ⟨by simp [flat], .inl ⟨rfl, by simp⟩⟩, Only.refl _ _⟩
  · have HC := Lib.hid hcs
    clear hcs h
    go_enter Try.func55, Try.ntmps55
    go_wp2_with fail
    go_loopw [5, 6] (fun o i wr => AllRel w ls most o i wr) (fun _ i _ => (intOf i + 1).toNat)
    case atStart => exact ⟨ls.length, Nat.le_refl _, rfl, by omega, ⟨by simp [flat], .inl ⟨rfl, by simp⟩⟩, Only.refl _ _⟩
    case round =>
      obtain ⟨q, hq, rfl, hm, hR, ho⟩ := hrel
      rcases q with _ | r
      · have hO := Lib.hid ho
        have HM := Lib.hid hm
        have HR := Lib.hid hR
        rw [show ((0 : Nat) : Int) - 1 = -1 by rfl]
        clear ho hm hR
        go_wp2_with fail
        go_ret
        exact all_end HR.out hO.out HM.out (.inl rfl)
      · rw [show ((r + 1 : Nat) : Int) - 1 = r by omega]
        have hlt : r < ls.length := by omega
        have hl : ls[r]? = some (ls[r]'hlt) := List.getElem?_eq_getElem _
        obtain ⟨x, hx, e0, e1, e2⟩ := HC.out r _ hl
        have HLk := Lib.hid hl
        have f0 : wr.cell? ⟨g, r * 3, none⟩ = some (.int .i64 (ls[r]'hlt).stamp) := by rw [ho.cell hg (fun h => h)]; exact e0
        have f1 : wr.cell? ⟨g, r * 3 + 1, none⟩ = some (.string x) := by rw [ho.cell hg (fun h => h)]; exact e1
        have f2 : wr.cell? ⟨g, r * 3 + 2, none⟩ = some (.bool (ls[r]'hlt).dead) := by rw [ho.cell hg (fun h => h)]; exact e2
        clear e0 e1 e2
        have hN := Blk.new wr 71 #[.int .i64 (ls[r]'hlt).stamp, .string x, .bool (ls[r]'hlt).dead]
        have hO := Lib.hid ho
        have hws := ho.size
        clear ho
        have HR := Lib.hid hR
        generalize ls[r]'hlt = l at *
        obtain ⟨st, val, dead⟩ := l
        clear hl
        simp only at f0 f1 f2 hx
        subst hx
        have hlen : ∀ (o : Value), wr.ownsRow w.heap.size 71 3 o (ls.length - (r + 1)) (flat (ls.reverse.take (ls.length - (r + 1)))) → (o = .slice none 0 0 ∧ ls.length - (r + 1) = 0) ∨ ∃ g' cap', o = .slice (some ⟨g', 0, none⟩) (ls.length - (r + 1)) cap' := by
          intro o ho
          rcases ho.2 with h | ⟨g', cap', _, h, _⟩
          · exact .inl h
          · exact .inr ⟨g', cap', h⟩
        by_cases hneg : most < 0
        · go_wp2_with (at_builtin; refine wpList_append_own _ rfl (.tmp 24) (.tmp 29) 56 rfl w.heap.size 71 i0 _ 3 32 Try.underlying56 hi hz0 hz1 hz2 rfl (by decide) _ (ls.length - (r + 1)) (flat (ls.reverse.take (ls.length - (r + 1)))) rfl (HR.out.alloc _) ⟨wr.heap.size, 0, none⟩ 1 1 [.int .i64 st, .string x, .bool dead] rfl rfl (World.news_of_block hN) (by simp [Value.oneCell']) (by unfold maxLen; omega) (by omega) (by simp; omega) ?_; intro v2 w2 hr2 hg2 _)
          go_roundw
          case rel => exact ⟨r, by omega, rfl, .inl hneg, back_row HLk.out hr2, Rf.kept_only hO.out HR.out hg2⟩
          case measure => simp [intOf]
        · have HM := Lib.hid hm
          rcases hlen _ HR.out with ⟨hv, hz⟩ | ⟨g', cap', hv⟩
          · subst hv
            by_cases hlm : (0 : Int) < most
            · clear hm
              go_wp2_with (at_builtin; refine wpList_append_own _ rfl (.tmp 24) (.tmp 29) 56 rfl w.heap.size 71 i0 _ 3 32 Try.underlying56 hi hz0 hz1 hz2 rfl (by decide) _ (ls.length - (r + 1)) (flat (ls.reverse.take (ls.length - (r + 1)))) rfl (HR.out.alloc _) ⟨wr.heap.size, 0, none⟩ 1 1 [.int .i64 st, .string x, .bool dead] rfl rfl (World.news_of_block hN) (by simp [Value.oneCell']) (by unfold maxLen; omega) (by omega) (by simp; omega) ?_; intro v2 w2 hr2 hg2 _)
              go_roundw
              case rel => exact ⟨r, by omega, rfl, .inr (by omega), back_row HLk.out hr2, Rf.kept_only hO.out HR.out hg2⟩
              case measure => simp [intOf]
            · have HZ := Lib.hid (show ¬ ((ls.length - (r + 1) : Nat) : Int) < most by omega)
              clear hm
              go_wp2_with fail
              go_ret
              exact all_end HR.out hO.out HM.out (.inr ⟨by omega, by have := HZ.out; omega⟩)
          · subst hv
            obtain ⟨z, hz⟩ : ∃ z, z = ls.length - (r + 1) := ⟨_, rfl⟩
            have HRz := HR.out
            rw [← hz] at HRz
            have HZR := Lib.hid HRz
            have HEQ := Lib.hid hz
            by_cases hlm : ((ls.length - (r + 1) : Nat) : Int) < most
            · clear hm hR HRz
              have hzm : (z : Int) < most := hz ▸ hlm
              rw [← hz]
              go_wp2_with (at_builtin; refine wpList_append_own _ rfl (.tmp 24) (.tmp 29) 56 rfl w.heap.size 71 i0 _ 3 32 Try.underlying56 hi hz0 hz1 hz2 rfl (by decide) _ z (flat (ls.reverse.take z)) rfl (HZR.out.alloc _) ⟨wr.heap.size, 0, none⟩ 1 1 [.int .i64 st, .string x, .bool dead] rfl rfl (World.news_of_block hN) (by simp [Value.oneCell']) (by unfold maxLen; omega) (by omega) (by simp; omega) ?_; intro v2 w2 hr2 hg2 _)
              go_roundw
              case rel => exact ⟨r, by omega, rfl, .inr (by omega), back_row HLk.out (HEQ.out ▸ hr2), Rf.kept_only hO.out HZR.out hg2⟩
              case measure => simp [intOf]
            · have HZ := Lib.hid hlm
              clear hm hR HRz
              have hzm : ¬ (z : Int) < most := hz ▸ hlm
              rw [← hz]
              go_wp2_with fail
              go_ret
              exact all_end HR.out hO.out HM.out (.inr ⟨by omega, by have := HZ.out; omega⟩)

end Rf
end Go.Proofs.Ytkfihfipnbbfcaa
