/-
  Layer 13's law: ChainRuns walked.
-/
import Derived.Test.YtkfihfipnbbfcaaCRC
namespace Go.Proofs.Ytkfihfipnbbfcaa
open Go.RowKit
namespace Rf
open Cs (IsV ChIs Foot)

abbrev St := Int × Int × ByteArray × Bool

/-- A slice of Steps reads, in w, as s: each lies below B as its four cells. -/
def StepsIn (w : World) (B : Nat) (A : Option Addr) (s : List St) : Prop :=
  ∀ (i : Nat) (k n : Int) (x : ByteArray) (dead : Bool), s[i]? = some (k, n, x, dead) → ∃ (blk off : Nat), A = some ⟨blk, off, none⟩ ∧ blk < B ∧
    w.cell? ⟨blk, off + i * 4, none⟩ = some (.int .i64 k) ∧ w.cell? ⟨blk, off + i * 4 + 1, none⟩ = some (.int .i64 n) ∧ w.cell? ⟨blk, off + i * 4 + 2, none⟩ = some (.string x) ∧ w.cell? ⟨blk, off + i * 4 + 3, none⟩ = some (.bool dead)

theorem StepsIn.only {w w' : World} {S : Nat → Prop} {B : Nat} {A : Option Addr} {s : List St} (h : StepsIn w B A s) (hB : B ≤ w.heap.size) (ho : Only S w w') (hS : ∀ k, k < B → ¬ S k) : StepsIn w' B A s := by
  intro i k n x dead hi
  obtain ⟨blk, off, hA, hb, h0, h1, h2, h3⟩ := h i k n x dead hi
  have hc : ∀ o, w'.cell? ⟨blk, o, none⟩ = w.cell? ⟨blk, o, none⟩ := fun o => ho.cell (p := ⟨blk, o, none⟩) (by show blk < _; omega) (hS blk hb)
  exact ⟨blk, off, hA, hb, by rw [hc, h0], by rw [hc, h1], by rw [hc, h2], by rw [hc, h3]⟩

/-- A pair that was played, in w' , all of it above w. -/
structure Played (w : World) (w' : World) (q p : Nat) (v d : Value) (ls : List Lk) : Prop where
  pair : PairIs w' q p v d ls
  only : Only NoneOf w w'
  new : ∀ k, PFoot q p v d k → w.heap.size ≤ k

theorem Played.step {w w1 w2 : World} {q p : Nat} {v d : Value} {ls ls' : List Lk} {e : Ending} (h : Played w w1 q p v d ls) (hs : StepPost q p v d ls' w1 e w2) : e = .returned (.bool true) ∧ ∃ v' d', Played w w2 q p v' d' ls' := by
  obtain ⟨v', d', he, hp, ho, hf⟩ := hs
  refine ⟨he, v', d', hp, h.only.step ho (fun k hk hh => by have := h.new k hh; omega), fun k hk => ?_⟩
  rcases hf k hk with hk | hk
  · exact h.new k hk
  · have := h.only.size; omega
theorem Played.keep {w w1 w2 : World} {q p : Nat} {v d : Value} {ls : List Lk} (h : Played w w1 q p v d ls) (ho : Only NoneOf w1 w2) : Played w w2 q p v d ls := ⟨h.pair.keep ho, h.only.trans ho, h.new⟩

theorem new_played (w : World) : Played w ((w.alloc (.cells #[.slice none 0 0] 55)).alloc (.cells #[.pointer (some ⟨w.heap.size, 0, none⟩), .slice none 0 0] 58)) (w.heap.size + 1) w.heap.size (.slice none 0 0) (.slice none 0 0) [] := by
  refine ⟨new_pair w, ((Only.refl _ _).alloc _).alloc _, ?_⟩
  rintro k (rfl | (rfl | hk) | hk)
  · omega
  · omega
  · simp [Value.ownBlock] at hk
  · simp [Value.ownBlock] at hk

/-- A step's contract, behind a script. -/
def PlayPost (w : World) (q p : Nat) (ls : List Lk) (e : Ending) (w' : World) : Prop := e = .returned (.bool true) ∧ ∃ v' d', Played w w' q p v' d' ls

theorem play_step {w w1 : World} {q p : Nat} {v d : Value} {ls : List Lk} (k n : Int) (x : ByteArray) (dead : Bool) (h : Played w w1 q p v d ls) (hfew : ls.length < 3518437208800) :
    Calls Try.prog 33 #[.pointer (some ⟨q, 0, none⟩), .agg #[.int .i64 k, .int .i64 n, .string x, .bool dead]] w1 (PlayPost w q p (stepList ls k n x dead)) :=
  (step_any w1 q p v d ls k n x dead h.pair hfew).mono fun _ _ hs => h.step hs
theorem play_still {w w1 : World} {q p : Nat} {v d : Value} {ls : List Lk} {k n : Int} {x : ByteArray} {dead : Bool} (h : Played w w1 q p v d ls) (hs : ∀ u, PairIs u q p v d ls → Calls Try.prog 33 #[.pointer (some ⟨q, 0, none⟩), .agg #[.int .i64 k, .int .i64 n, .string x, .bool dead]] u (StepPost q p v d ls u)) :
    Calls Try.prog 33 #[.pointer (some ⟨q, 0, none⟩), .agg #[.int .i64 k, .int .i64 n, .string x, .bool dead]] w1 (PlayPost w q p ls) :=
  (hs w1 h.pair).mono fun _ _ hs => h.step hs

def RunRel (w : World) (q p : Nat) (s : List St) (i : Value) (wr : World) : Prop :=
  ∃ k : Nat, k ≤ s.length ∧ i = .int .i64 k ∧ ∃ v d, Played w wr q p v d (playList [] (s.take k))

theorem play_le (s : List St) (k : Nat) (hk : k ≤ s.length) : (playList [] (s.take k)).length ≤ k := by
  have := playList_le (s.take k) []
  simp at this
  omega
theorem play_next {s : List St} {i : Nat} {k n : Int} {x : ByteArray} {dead : Bool} (h : s[i]? = some (k, n, x, dead)) : playList [] (s.take (i + 1)) = stepList (playList [] (s.take i)) k n x dead := by
  rw [List.take_add_one, h, Option.toList_some, playList_snoc]

set_option maxRecDepth 100000 in
set_option maxHeartbeats 1000000 in
theorem runs_any (A : Option Addr) (cap : Nat) (s : List St) (w : World) (hA : StepsIn w w.heap.size A s) (hn : s.length ≤ 3518437208780) :
    Calls Try.prog 8 #[.slice A s.length cap] w (fun e w' => e = .returned (.bool true) ∧ Only NoneOf w w') := by
  have HA := Lib.hid hA
  clear hA
  go_enter Try.func8, Try.ntmps8
  go_wp2_with fail
  go_loopw [4] (fun i wr => RunRel w (w.heap.size + 1) w.heap.size s i wr) (fun i _ => s.length - (intOf i).toNat)
  case atStart => exact ⟨0, Nat.zero_le _, rfl, _, _, new_played w⟩
  case round =>
    obtain ⟨k, hk, rfl, v, d, hP⟩ := hrel
    have hle := play_le s k hk
    by_cases hlt : k < s.length
    · obtain ⟨⟨k', n, x, dead⟩, hl⟩ : ∃ y, s[k]? = some y := ⟨_, List.getElem?_eq_getElem hlt⟩
      obtain ⟨blk, off, rfl, hb, e0, e1, e2, e3⟩ := (HA.out.only (Nat.le_refl _) hP.only (fun _ _ h => h)) k k' n x dead hl
      have HP := Lib.hid hP
      have HN := Lib.hid (play_next hl)
      clear hP hl
      go_wp2_with fail
      refine (play_step k' n x dead HP.out (by omega)).mono ?_; rintro e w2 ⟨rfl, v', d', hP2⟩
      have HP2 := Lib.hid hP2
      clear hP2
      go_wp2_with fail
      go_roundw
      case rel => exact ⟨k + 1, by omega, by go_num, v', d', HN.out ▸ HP2.out⟩
      case measure => simp [intOf]; omega
    · obtain rfl : k = s.length := by omega
      rw [List.take_length] at hP hle
      generalize playList [] s = ls at *
      have HP := Lib.hid hP
      clear hP
      go_wp2_with fail
      refine (play_still HP.out (fun u hu => step_len u _ _ v d ls 0 ⟨#[]⟩ false hu)).mono ?_; rintro e w2 ⟨rfl, v2, d2, hP2⟩
      have HP2 := Lib.hid hP2
      clear hP2
      go_wp2_with fail
      refine (play_still HP2.out (fun u hu => step_last u _ _ v2 d2 ls 0 ⟨#[]⟩ false hu)).mono ?_; rintro e w3 ⟨rfl, v3, d3, hP3⟩
      have HP3 := Lib.hid hP3
      clear hP3
      go_wp2_with fail
      refine (play_still HP3.out (fun u hu => step_all u _ _ v3 d3 ls (-1) ⟨#[]⟩ false hu)).mono ?_; rintro e w4 ⟨rfl, v4, d4, hP4⟩
      have HO4 := Lib.hid hP4.only
      clear hP4
      go_wp2_with fail
      refine (Cs.awake_any _).mono ?_; rintro e w5 ⟨rfl, ho5⟩
      have HO5 := Lib.hid (HO4.out.trans ho5)
      go_wp2_with fail
      go_ret
      exact ⟨rfl, HO5.out⟩

end Rf
end Go.Proofs.Ytkfihfipnbbfcaa
