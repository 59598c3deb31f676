/-
  Layer 13: allAlike; what a pair told, beside the document's.
-/
import Derived.Test.YtkfihfipnbbfcaaCR4
import Derived.StillTailTactics
namespace Go.Proofs.Ytkfihfipnbbfcaa
open Go.RowKit
namespace Rf
open Cs (IsV only_grown walked)

set_option maxRecDepth 100000 in
set_option maxHeartbeats 1000000 in
theorem allAlike_is (w : World) (a b : Value) (ls : List Lk) (ha : w.ownsRow 0 65 3 a ls.length (flat ls)) (hb : w.ownsRow 0 71 3 b ls.length (flat ls)) (hv : ∀ l ∈ ls, IsV l.val) (hfew : ls.length ≤ 3518437208800) :
    Calls Try.prog 54 #[a, b] w fun e w' => e = .returned (.bool true) ∧ Only NoneOf w w' := by
  rcases form ha hv with ⟨rfl, h1⟩ | ⟨g, cap, rfl, hcap, hg, hcs⟩
  · subst h1
    rcases form hb hv with ⟨rfl, _⟩ | ⟨g', cap', rfl, _, _, _⟩
    all_goals
      clear ha hb
      go_enter Try.func54, Try.ntmps54
      go_wp2_with fail
      go_loopw [5] (fun i wr => i = .int .i64 0 ∧ wr = w) (fun _ _ => 0)
      case atStart => exact ⟨rfl, rfl⟩
      case round =>
        obtain ⟨rfl, rfl⟩ := hrel
        go_wp2_with fail
        go_ret
        exact ⟨rfl, Only.refl _ _⟩
  · rcases form hb hv with ⟨rfl, h1⟩ | ⟨g', cap', rfl, hcap', hg', hcs'⟩
    · subst h1
      clear ha hb hcs
      go_enter Try.func54, Try.ntmps54
      go_wp2_with fail
      go_loopw [5] (fun i wr => i = .int .i64 0 ∧ wr = w) (fun _ _ => 0)
      case atStart => exact ⟨rfl, rfl⟩
      case round =>
        obtain ⟨rfl, rfl⟩ := hrel
        go_wp2_with fail
        go_ret
        exact ⟨rfl, Only.refl _ _⟩
    · have HA := Lib.hid hcs
      have HB := Lib.hid hcs'
      clear ha hb hcs hcs'
      go_enter Try.func54, Try.ntmps54
      go_wp2_with fail
      go_loopw [5] (fun i wr => ∃ k : Nat, k ≤ ls.length ∧ i = .int .i64 k ∧ Only NoneOf w wr) (fun i _ => ls.length - (intOf i).toNat)
      case atStart => exact ⟨0, Nat.zero_le _, rfl, Only.refl _ _⟩
      case round =>
        obtain ⟨k, hk, rfl, ho⟩ := hrel
        by_cases hlt : k < ls.length
        · have hl : ls[k]? = some (ls[k]'hlt) := List.getElem?_eq_getElem _
          obtain ⟨x, hx, e0, e1, e2⟩ := HA.out k _ hl
          obtain ⟨x', hx', e0', e1', e2'⟩ := HB.out k _ hl
          obtain rfl : x = x' := by rw [hx] at hx'; injection hx'
          have f0 : wr.cell? ⟨g, k * 3, none⟩ = some (.int .i64 (ls[k]'hlt).stamp) := by rw [ho.cell hg (fun h => h)]; exact e0
          have f1 : wr.cell? ⟨g, k * 3 + 1, none⟩ = some (.string x) := by rw [ho.cell hg (fun h => h)]; exact e1
          have f2 : wr.cell? ⟨g, k * 3 + 2, none⟩ = some (.bool (ls[k]'hlt).dead) := by rw [ho.cell hg (fun h => h)]; exact e2
          have f0' : wr.cell? ⟨g', k * 3, none⟩ = some (.int .i64 (ls[k]'hlt).stamp) := by rw [ho.cell hg' (fun h => h)]; exact e0'
          have f1' : wr.cell? ⟨g', k * 3 + 1, none⟩ = some (.string x) := by rw [ho.cell hg' (fun h => h)]; exact e1'
          have f2' : wr.cell? ⟨g', k * 3 + 2, none⟩ = some (.bool (ls[k]'hlt).dead) := by rw [ho.cell hg' (fun h => h)]; exact e2'
          have hO := Lib.hid ho
          generalize ls[k]'hlt = l at *
          obtain ⟨st, val, dead⟩ := l
          clear hl e0 e1 e2 e0' e1' e2' ho
          simp only at f0 f1 f2 f0' f1' f2' hx
          subst hx
          go_wp2_with fail
          go_still_tail 8, (by kernel_rfl)
          change wpList _ _ _ _ _ wr.drew
          have hO1 := Lib.hid hO.out.drew
          generalize wr.drew = w2 at *
          go_wp2_with fail
          refine (Cs.alike_same st x dead _).mono ?_; rintro e w3 ⟨rfl, ho3⟩
          go_wp2_with fail
          go_roundw
          case rel => exact ⟨k + 1, by omega, by go_num, hO1.out.trans ho3⟩
          case measure => simp [intOf]; omega
        · obtain rfl : k = ls.length := by omega
          have hO := Lib.hid ho
          clear ho
          go_wp2_with fail
          go_ret
          exact ⟨rfl, hO.out⟩

end Rf
end Go.Proofs.Ytkfihfipnbbfcaa
