/-
  Layer 13's law: ChainBeside walked.
-/
import Derived.Test.YtkfihfipnbbfcaaCRD
namespace Go.Proofs.Ytkfihfipnbbfcaa
open Go.RowKit
namespace Rf
open Cs (IsV ChIs Foot)

/-- Two pairs that were played, apart. -/
structure Two (w w' : World) (q p : Nat) (v d : Value) (ls : List Lk) (q2 p2 : Nat) (v2 d2 : Value) (ls2 : List Lk) : Prop where
  one : Played w w' q p v d ls
  two : Played w w' q2 p2 v2 d2 ls2
  apart : ∀ k, PFoot q p v d k → ¬ PFoot q2 p2 v2 d2 k

section
variable {w w1 : World} {q p : Nat} {v d : Value} {ls : List Lk} {q2 p2 : Nat} {v2 d2 : Value} {ls2 : List Lk}
theorem Two.symm (h : Two w w1 q p v d ls q2 p2 v2 d2 ls2) : Two w w1 q2 p2 v2 d2 ls2 q p v d ls := ⟨h.two, h.one, fun k hk hh => h.apart k hh hk⟩
theorem Two.keep {w2 : World} (h : Two w w1 q p v d ls q2 p2 v2 d2 ls2) (ho : Only NoneOf w1 w2) : Two w w2 q p v d ls q2 p2 v2 d2 ls2 := ⟨h.one.keep ho, h.two.keep ho, h.apart⟩

def TwoPost (w : World) (q p : Nat) (ls : List Lk) (q2 p2 : Nat) (v2 d2 : Value) (ls2 : List Lk) (e : Ending) (w' : World) : Prop := e = .returned (.bool true) ∧ ∃ v' d', Two w w' q p v' d' ls q2 p2 v2 d2 ls2
def TwoPost2 (w : World) (q p : Nat) (v d : Value) (ls : List Lk) (q2 p2 : Nat) (ls2 : List Lk) (e : Ending) (w' : World) : Prop := e = .returned (.bool true) ∧ ∃ v' d', Two w w' q p v d ls q2 p2 v' d' ls2

theorem Two.step {ls' : List Lk} {e : Ending} {w2 : World} (h : Two w w1 q p v d ls q2 p2 v2 d2 ls2) (hs : StepPost q p v d ls' w1 e w2) : TwoPost w q p ls' q2 p2 v2 d2 ls2 e w2 := by
  obtain ⟨v', d', he, hp, ho, hf⟩ := hs
  refine ⟨he, v', d', ⟨hp, h.one.only.step ho (fun k hk hh => by have := h.one.new k hh; omega), fun k hk => ?_⟩, ⟨h.two.pair.only ho (fun k hk hh => h.apart k hh hk), h.one.only.step ho (fun k hk hh => by have := h.one.new k hh; omega), h.two.new⟩, fun k hk hh => ?_⟩
  · rcases hf k hk with hk | hk
    · exact h.one.new k hk
    · have := h.one.only.size; omega
  · rcases hf k hk with hk | hk
    · exact h.apart k hk hh
    · have := h.two.pair.foot_lt k hh; omega
end

theorem two_step {w w1 : World} {q p : Nat} {v d : Value} {ls : List Lk} {q2 p2 : Nat} {v2 d2 : Value} {ls2 : List Lk} (k n : Int) (x : ByteArray) (dead : Bool) (h : Two w w1 q p v d ls q2 p2 v2 d2 ls2) (hfew : ls.length < 3518437208800) :
    Calls Try.prog 33 #[.pointer (some ⟨q, 0, none⟩), .agg #[.int .i64 k, .int .i64 n, .string x, .bool dead]] w1 (TwoPost w q p (stepList ls k n x dead) q2 p2 v2 d2 ls2) :=
  (step_any w1 q p v d ls k n x dead h.one.pair hfew).mono fun _ _ hs => h.step hs
theorem two_step2 {w w1 : World} {q p : Nat} {v d : Value} {ls : List Lk} {q2 p2 : Nat} {v2 d2 : Value} {ls2 : List Lk} (k n : Int) (x : ByteArray) (dead : Bool) (h : Two w w1 q p v d ls q2 p2 v2 d2 ls2) (hfew : ls2.length < 3518437208800) :
    Calls Try.prog 33 #[.pointer (some ⟨q2, 0, none⟩), .agg #[.int .i64 k, .int .i64 n, .string x, .bool dead]] w1 (TwoPost2 w q p v d ls q2 p2 (stepList ls2 k n x dead)) :=
  (two_step k n x dead h.symm hfew).mono fun _ _ ⟨he, v', d', ht⟩ => ⟨he, v', d', ht.symm⟩
theorem two_all {w w1 : World} {q p : Nat} {v d : Value} {ls : List Lk} {q2 p2 : Nat} {v2 d2 : Value} {ls2 : List Lk} (h : Two w w1 q p v d ls q2 p2 v2 d2 ls2) :
    Calls Try.prog 33 #[.pointer (some ⟨q, 0, none⟩), .agg #[.int .i64 6, .int .i64 (-1), .string ⟨#[]⟩, .bool false]] w1 (TwoPost w q p ls q2 p2 v2 d2 ls2) :=
  (step_all w1 q p v d ls (-1) ⟨#[]⟩ false h.one.pair).mono fun _ _ hs => h.step hs
theorem two_all2 {w w1 : World} {q p : Nat} {v d : Value} {ls : List Lk} {q2 p2 : Nat} {v2 d2 : Value} {ls2 : List Lk} (h : Two w w1 q p v d ls q2 p2 v2 d2 ls2) :
    Calls Try.prog 33 #[.pointer (some ⟨q2, 0, none⟩), .agg #[.int .i64 6, .int .i64 (-1), .string ⟨#[]⟩, .bool false]] w1 (TwoPost2 w q p v d ls q2 p2 ls2) :=
  (two_all h.symm).mono fun _ _ ⟨he, v', d', ht⟩ => ⟨he, v', d', ht.symm⟩

def pairWorld (w : World) : World := (w.alloc (.cells #[.slice none 0 0] 55)).alloc (.cells #[.pointer (some ⟨w.heap.size, 0, none⟩), .slice none 0 0] 58)
theorem pairWorld_size (w : World) : (pairWorld w).heap.size = w.heap.size + 2 := by unfold pairWorld; simp

theorem new_two (w : World) : Two w (((((w.alloc (.cells #[.slice none 0 0] 55)).alloc (.cells #[.pointer (some ⟨w.heap.size, 0, none⟩), .slice none 0 0] 58)).alloc (.cells #[.slice none 0 0] 55)).alloc (.cells #[.pointer (some ⟨w.heap.size + 2, 0, none⟩), .slice none 0 0] 58)))
    (w.heap.size + 1) w.heap.size (.slice none 0 0) (.slice none 0 0) [] (w.heap.size + 3) (w.heap.size + 2) (.slice none 0 0) (.slice none 0 0) [] := by
  have h1 := new_played w
  have h2 := new_played (pairWorld w)
  have hs := pairWorld_size w
  rw [hs] at h2
  have ho : Only NoneOf w (pairWorld w) := h1.only
  refine ⟨(h1.keep ((Only.refl _ _).alloc _)).keep ((Only.refl _ _).alloc _), ⟨h2.pair, ho.trans h2.only, fun k hk => by have := h2.new k hk; omega⟩, fun k hk hh => ?_⟩
  have a := h2.new k hh
  have b := h1.pair.foot_lt k hk
  change k < (pairWorld w).heap.size at b
  omega

def TwoRel (w : World) (q p q2 p2 : Nat) (s s2 : List St) (i : Value) (wr : World) : Prop :=
  ∃ k : Nat, k ≤ max s.length s2.length ∧ i = .int .i64 k ∧ ∃ v d v2 d2, Two w wr q p v d (playList [] (s.take k)) q2 p2 v2 d2 (playList [] (s2.take k))

theorem play_few (s : List St) (k : Nat) (hn : s.length ≤ 3518437208780) : (playList [] (s.take k)).length < 3518437208800 := by
  have := playList_le (s.take k) []
  simp at this
  omega
theorem play_over {s : List St} {k : Nat} (h : s.length ≤ k) : playList [] (s.take (k + 1)) = playList [] (s.take k) := by
  rw [List.take_of_length_le h, List.take_of_length_le (by omega)]

set_option maxRecDepth 100000 in
set_option maxHeartbeats 1000000 in
theorem beside_any (A B : Option Addr) (cap cap2 : Nat) (s s2 : List St) (w : World) (hA : StepsIn w w.heap.size A s) (hB : StepsIn w w.heap.size B s2) (hn : s.length ≤ 3518437208780) (hn2 : s2.length ≤ 3518437208780) :
    Calls Try.prog 9 #[.slice A s.length cap, .slice B s2.length cap2] w (fun e w' => e = .returned (.bool true) ∧ Only NoneOf w w') := by
  have HA := Lib.hid hA
  have HB := Lib.hid hB
  clear hA hB
  go_enter Try.func9, Try.ntmps9
  go_wp2_with fail
  go_loopw [7] (fun i wr => TwoRel w (w.heap.size + 1) w.heap.size (w.heap.size + 3) (w.heap.size + 2) s s2 i wr) (fun i _ => max s.length s2.length - (intOf i).toNat)
  case atStart => exact ⟨0, Nat.zero_le _, rfl, _, _, _, _, new_two w⟩
  case round =>
    obtain ⟨k, hk, rfl, v, d, v2, d2, hP⟩ := hrel
    have hl1 := play_few s k hn
    have hl2 := play_few s2 k hn2
    by_cases hlt : k < s.length
    · obtain ⟨⟨k', n, x, dead⟩, hl⟩ : ∃ y, s[k]? = some y := ⟨_, List.getElem?_eq_getElem hlt⟩
      obtain ⟨blk, off, rfl, hb, e0, e1, e2, e3⟩ := (HA.out.only (Nat.le_refl _) hP.one.only (fun _ _ h => h)) k k' n x dead hl
      have HP := Lib.hid hP
      have HN := Lib.hid (play_next hl)
      clear hP hl
      by_cases hlt2 : k < s2.length
      · obtain ⟨⟨k2, n2, x2, dead2⟩, hl⟩ : ∃ y, s2[k]? = some y := ⟨_, List.getElem?_eq_getElem hlt2⟩
        have HL2 := Lib.hid hl
        have HN2 := Lib.hid (play_next hl)
        clear hl
        go_wp2_with fail
        refine (two_step k' n x dead HP.out hl1).mono ?_; rintro e w2 ⟨rfl, v', d', hP2⟩
        obtain ⟨blk2, off2, rfl, hb', e0', e1', e2', e3'⟩ := (HB.out.only (Nat.le_refl _) hP2.one.only (fun _ _ h => h)) k k2 n2 x2 dead2 HL2.out
        have HP2 := Lib.hid hP2
        clear hP2 e0 e1 e2 e3
        go_wp2_with fail
        refine (two_step2 k2 n2 x2 dead2 HP2.out hl2).mono ?_; rintro e w3 ⟨rfl, v3, d3, hP3⟩
        have HP3 := Lib.hid hP3
        clear hP3
        go_wp2_with fail
        go_roundw
        case rel => exact ⟨k + 1, by omega, by go_num, _, _, _, _, HN.out ▸ HN2.out ▸ HP3.out⟩
        case measure => simp [intOf]; omega
      · have HN2 := Lib.hid (play_over (s := s2) (k := k) (by omega))
        go_wp2_with fail
        refine (two_step k' n x dead HP.out hl1).mono ?_; rintro e w2 ⟨rfl, v', d', hP2⟩
        have HP2 := Lib.hid hP2
        clear hP2 e0 e1 e2 e3
        go_wp2_with fail
        go_roundw
        case rel => exact ⟨k + 1, by omega, by go_num, _, _, _, _, HN.out ▸ HN2.out ▸ HP2.out⟩
        case measure => simp [intOf]; omega
    · by_cases hlt2 : k < s2.length
      · obtain ⟨⟨k2, n2, x2, dead2⟩, hl⟩ : ∃ y, s2[k]? = some y := ⟨_, List.getElem?_eq_getElem hlt2⟩
        obtain ⟨blk2, off2, rfl, hb', e0', e1', e2', e3'⟩ := (HB.out.only (Nat.le_refl _) hP.one.only (fun _ _ h => h)) k k2 n2 x2 dead2 hl
        have HP := Lib.hid hP
        have HN2 := Lib.hid (play_next hl)
        have HN := Lib.hid (play_over (s := s) (k := k) (by omega))
        clear hP hl
        go_wp2_with fail
        refine (two_step2 k2 n2 x2 dead2 HP.out hl2).mono ?_; rintro e w3 ⟨rfl, v3, d3, hP3⟩
        have HP3 := Lib.hid hP3
        clear hP3
        go_wp2_with fail
        go_roundw
        case rel => exact ⟨k + 1, by omega, by go_num, _, _, _, _, HN.out ▸ HN2.out ▸ HP3.out⟩
        case measure => simp [intOf]; omega
      · generalize playList [] (s.take k) = ls at *
        generalize playList [] (s2.take k) = ls2 at *
        have HP := Lib.hid hP
        clear hP
        go_wp2_with fail
        refine (two_all HP.out).mono ?_; rintro e w2 ⟨rfl, v', d', hP2⟩
        have HP2 := Lib.hid hP2
        clear hP2
        go_wp2_with fail
        refine (two_all2 HP2.out).mono ?_; rintro e w3 ⟨rfl, v3, d3, hP3⟩
        have HO := Lib.hid hP3.one.only
        clear hP3
        go_wp2_with fail
        refine (Cs.awake_any _).mono ?_; rintro e w5 ⟨rfl, ho5⟩
        have HO5 := Lib.hid (HO.out.trans ho5)
        go_wp2_with fail
        go_ret
        exact ⟨rfl, HO5.out⟩

end Rf
end Go.Proofs.Ytkfihfipnbbfcaa
