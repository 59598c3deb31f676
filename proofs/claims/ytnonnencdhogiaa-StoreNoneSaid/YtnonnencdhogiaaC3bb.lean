/-
  Layer 13: a chain in memory; how many links count at a stamp.
-/
import Derived.Test.YtnonnencdhogiaaC3b
namespace Go.Proofs.Ytnonnencdhogiaa
open Go.RowKit
namespace Cb

/-- The links that a search looks through. -/
theorem past_is (ls : List Lk) (hr : Rising ls) (s : Int) : (∀ i, i < cnt ls s → decide (s < ((ls[i]?).map (·.stamp)).getD 0) = false) ∧ (∀ i, cnt ls s ≤ i → i < ls.length → decide (s < ((ls[i]?).map (·.stamp)).getD 0) = true) := by
  constructor
  · intro i hi
    have hl : ls[i]? = some (ls[i]'(by have := cnt_le ls s; omega)) := List.getElem?_eq_getElem _
    have := cnt_lt hi hl
    rw [hl]
    simp
    omega
  · intro i hi hlt
    have hl : ls[i]? = some (ls[i]'hlt) := List.getElem?_eq_getElem _
    have := cnt_ge hr.2 hi hl
    rw [hl]
    simp
    omega

set_option maxHeartbeats 400000 in
theorem past_at (w : World) (p b1 b2 : Nat) (v : Value) (ls : List Lk) (s : Int) (i : Nat) (l : Lk) (h : ChIs w p v ls) (hl : ls[i]? = some l)
    (k1 : w.cell? ⟨b1, 0, none⟩ = some (.pointer (some ⟨p, 0, none⟩))) (k2 : w.cell? ⟨b2, 0, none⟩ = some (.int .i64 s)) :
    Calls Try.prog 85 #[.int .i64 i, .pointer (some ⟨b1, 0, none⟩), .pointer (some ⟨b2, 0, none⟩)] w fun e w' => e = .returned (.bool (decide (s < l.stamp))) ∧ Only NoneOf w w' := by
  have c0 := h.blk.cellv 0 rfl
  have hi : i < ls.length := (List.getElem?_eq_some_iff.1 hl).1
  have hfew := h.few
  rcases h.form with ⟨_, rfl⟩ | ⟨g, cap, rfl, hcap, hg, hc⟩
  · simp at hi
  · obtain ⟨x, hx, e0, e1, e2⟩ := hc i l hl
    clear hc e1 e2 hx
    go_enter Try.func85, Try.ntmps85
    go_wp2_with fail
    go_quiet (fail)
    go_wp2_with fail
    go_ret
    exact ⟨rfl, (Only.refl _ _).drewN _⟩

set_option maxHeartbeats 400000 in
theorem count_has (w : World) (p : Nat) (v : Value) (ls : List Lk) (s : Int) (h : ChIs w p v ls) :
    Calls Try.prog 64 #[.pointer (some ⟨p, 0, none⟩), .int .i64 s] w fun e w' => e = .returned (.int .i64 (cnt ls s)) ∧ Only NoneOf w w' := by
  have hO : Only NoneOf w ((w.alloc (.cells #[.pointer (some ⟨p, 0, none⟩)] 84)).alloc (.cells #[.int .i64 s] 3)) := ((Only.refl _ _).alloc _).alloc _
  have h2 := h.keep hO
  have hb1 := (Blk.new w 84 #[.pointer (some ⟨p, 0, none⟩)]).alloc (.cells #[.int .i64 s] 3)
  have hb2 := Blk.new' (w.alloc (.cells #[.pointer (some ⟨p, 0, none⟩)] 84)) 3 #[.int .i64 s] (n := w.heap.size + 1) (by simp)
  have hp := past_is ls h.rise s
  have S := Lib.hid (search_any 85 #[.pointer (some ⟨w.heap.size, 0, none⟩), .pointer (some ⟨w.heap.size + 1, 0, none⟩)] ls.length (cnt ls s) (fun i => decide (s < ((ls[i]?).map (·.stamp)).getD 0))
    ((w.alloc (.cells #[.pointer (some ⟨p, 0, none⟩)] 84)).alloc (.cells #[.int .i64 s] 3)) (by have := h.few; omega) (cnt_le ls s) hp.1 hp.2 (fun _ _ => by kernel_rfl) (fun u i hu hi => by
      have hl : ls[i]? = some (ls[i]'hi) := List.getElem?_eq_getElem _
      refine (past_at u p w.heap.size (w.heap.size + 1) v ls s i _ (h2.keep hu) hl ((hb1.only hu (fun h => h)).cellv 0 rfl) ((hb2.only hu (fun h => h)).cellv 0 rfl)).mono fun e u' ⟨he, ho⟩ => ⟨?_, ho⟩
      rw [he]
      simp only [hl, Option.map_some, Option.getD_some]))
  clear hp
  have c0 := h2.blk.cellv 0 rfl
  rcases h.form with ⟨rfl, rfl⟩ | ⟨g, cap, rfl, _, _, _⟩
  · go_enter Try.func64, Try.ntmps64
    go_wp2_with fail
    refine S.out.mono ?_; rintro e w1 ⟨rfl, ho⟩
    go_wp2_with fail
    go_ret
    exact ⟨rfl, hO.trans ho⟩
  · go_enter Try.func64, Try.ntmps64
    go_wp2_with fail
    refine S.out.mono ?_; rintro e w1 ⟨rfl, ho⟩
    go_wp2_with fail
    go_ret
    exact ⟨rfl, hO.trans ho⟩

set_option maxHeartbeats 400000 in
theorem count_nil (w : World) (s : Int) : Calls Try.prog 64 #[.pointer none, .int .i64 s] w fun e w' => e = .returned (.int .i64 0) ∧ Only NoneOf w w' := by
  go_enter Try.func64, Try.ntmps64
  go_wp2_with fail
  go_ret
  exact ⟨rfl, ((Only.refl _ _).alloc _).alloc _⟩

end Cb
end Go.Proofs.Ytnonnencdhogiaa
