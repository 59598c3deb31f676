/-
  Layer 14: keys (the keys that have versions, sorted).
-/
import Derived.Test.YtnonnencdhogiaaSL
namespace Go.Proofs.Ytnonnencdhogiaa
open Go.RowKit
open Cb (ChIs Foot)

/-- a slice of strings that is its own -/
def RowS (w : World) (B : Nat) (v : Value) (l : List (List UInt8)) : Prop := w.ownsRow B 9 1 v l.length (l.map encStr)
/-- a map's keys, sorted -/
def sortedKeys (D : MD) : List (List UInt8) := (strKeys D).mergeSort leB

def KeysPost (ks : List (List UInt8)) (w : World) (e : Ending) (w' : World) : Prop := ∃ v, e = .returned v ∧ RowS w' w.heap.size v ks ∧ Only NoneOf w w'

theorem ownsRow_base {w : World} {B B' : Nat} {t : TypeId} {sz : Nat} {v : Value} {n : Nat} {l : List Value} (h : w.ownsRow B t sz v n l) (hB : B' ≤ B) : w.ownsRow B' t sz v n l := by
  refine ⟨h.1, ?_⟩
  rcases h.2 with h0 | ⟨g, cap, cur, hv, hb, r⟩
  · exact .inl h0
  · exact .inr ⟨g, cap, cur, hv, Nat.le_trans hB hb, r⟩

set_option maxRecDepth 100000 in
set_option maxHeartbeats 1000000 in
theorem keys_is (w : World) (s m n : Nat) (D : MD) (C : ByteArray → Option Ch) (live : Int) (h : StIs w s m n D C live) (hfew : Go.Maps.size D * 16 ≤ 140737488355328) :
    Calls Try.prog 49 #[.pointer (some ⟨s, 0, none⟩)] w (KeysPost (sortedKeys D) w) := by
  have c0 := h.blk.cellv 0 rfl
  have HK := Lib.hid (fun u => callsIn_wide.1 (Try.maps_Keys_67 (some m) u))
  have HS := Lib.hid (callsIn_wide.1 (Try.slices_Sorted_keys_66_67 m n D RP w h.map (by unfold maxLen; omega) hfew))
  clear h hfew
  go_enter Try.func49, Try.ntmps49
  go_wp2_with fail
  refine (HK.out w).mono ?_; rintro e w1 ⟨rfl, rfl⟩
  go_wp2_with fail
  refine HS.out.mono ?_; rintro e w2 ⟨v, ss, rfl, hp, hrow, _, hb⟩
  have HB := Lib.hid ((Only.refl NoneOf w).alloc (.cells #[.map (some m)] 81) |>.trans (Only.of_below hb NoneOf))
  have HR := Lib.hid hrow
  have HP := Lib.hid hp
  have hl := hrow.1
  clear hrow hp hb
  go_wp2_with fail
  go_ret
  refine ⟨v, rfl, ?_, HB.out⟩
  have e : sortedKeys D = ss.mergeSort leB := by unfold sortedKeys; rw [mergeSort_of_perm HP.out]
  unfold RowS
  rw [e, List.length_mergeSort]
  exact ownsRow_base HR.out (by simp)

set_option maxHeartbeats 400000 in
theorem keys_nil (w : World) : Calls Try.prog 49 #[.pointer none] w fun e w' => e = .returned (.slice none 0 0) ∧ w = w' := by
  go_enter Try.func49, Try.ntmps49
  go_wp2_with fail
  go_ret
  exact ⟨rfl, rfl⟩

end Go.Proofs.Ytnonnencdhogiaa
