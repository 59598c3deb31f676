/-
  sort.Search over a closure that makes memory and changes none: how many places say no.
-/
import Derived.Test.YtnonnencdhogiaaC1
import Derived.WalkSpells
import Derived.WalkLawsBesides
import Derived.Deep.QuietTactic
import Derived.BigQuiet
import Derived.Lib.Hide
import Derived.Deep.LoopGhost
namespace Go.Proofs.Ytnonnencdhogiaa
open Go.RowKit

/-- What Search is told at the place i. -/
def SearchAsks (g : Nat) (cb : Array Value) (n : Nat) (p : Nat → Bool) (w : World) : Prop :=
  ∀ (u : World) (i : Nat), Only NoneOf w u → i < n → Calls Try.prog g (#[.int .i64 i] ++ cb) u fun e u' => e = .returned (.bool (p i)) ∧ Only NoneOf u u'

def SearchRel (w : World) (n c : Nat) (v5 v6 : Value) (wr : World) : Prop :=
  ∃ lo hi : Nat, v5 = .int .i64 lo ∧ v6 = .int .i64 hi ∧ lo ≤ c ∧ c ≤ hi ∧ hi ≤ n ∧ Only NoneOf w wr

set_option maxHeartbeats 2000000 in
theorem search_any (g : Nat) (cb : Array Value) (n c : Nat) (p : Nat → Bool) (w : World) (hn : n ≤ 4611686018427387904) (hc : c ≤ n) (hlo : ∀ i, i < c → p i = false) (hhi : ∀ i, c ≤ i → i < n → p i = true)
    (eg : ∀ args w, (callFunc g args).run Try.prog w = .ok (.enter g args) w) (hf : SearchAsks g cb n p w) :
    Calls Try.prog 84 #[.int .i64 n, .func (.func g) #[] cb] w fun e w' => e = .returned (.int .i64 c) ∧ Only NoneOf w w' := by
  have HL := Lib.hid hlo
  have HH := Lib.hid hhi
  have HF := Lib.hid hf
  clear hlo hhi hf
  go_enter Try.func84, Try.ntmps84
  go_wp2
  go_loopw [5, 6] (fun v5 v6 wr => SearchRel w n c v5 v6 wr) (fun v5 v6 _ => (intOf v6).toNat - (intOf v5).toNat)
  case atStart => exact ⟨0, n, rfl, rfl, Nat.zero_le _, hc, Nat.le_refl _, Only.refl _ _⟩
  case round =>
    obtain ⟨lo, hi, rfl, rfl, h1, h2, h3, ho⟩ := hrel
    by_cases hlt : lo < hi
    · have hm := HF.out wr ((lo + hi) / 2) ho (by omega)
      rw [show (((lo + hi) / 2 : Nat) : Int) = ((lo : Int) + (hi : Int)) / 2 by omega] at hm
      by_cases hp : (lo + hi) / 2 < c
      · rw [HL.out _ hp] at hm
        have HM := Lib.hid hm
        clear hm
        go_wp2_with fail
        refine HM.out.mono ?_; rintro e w1 ⟨rfl, ho1⟩
        go_wp2_with fail
        go_roundw
        case rel => exact ⟨(lo + hi) / 2 + 1, hi, by go_num, rfl, by omega, h2, h3, ho.trans ho1⟩
        case measure => simp [intOf]; omega
      · rw [HH.out _ (by omega) (by omega)] at hm
        have HM := Lib.hid hm
        clear hm
        go_wp2_with fail
        refine HM.out.mono ?_; rintro e w1 ⟨rfl, ho1⟩
        go_wp2_with fail
        go_roundw
        case rel => exact ⟨lo, (lo + hi) / 2, rfl, by go_num, h1, by omega, by omega, ho.trans ho1⟩
        case measure => simp [intOf]; omega
    · obtain rfl : lo = c := by omega
      go_wp2_with fail
      go_ret
      exact ⟨rfl, ho⟩

end Go.Proofs.Ytnonnencdhogiaa
