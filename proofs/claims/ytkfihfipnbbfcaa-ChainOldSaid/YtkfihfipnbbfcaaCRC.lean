/-
  Layer 13's law: every step.
-/
import Derived.Test.YtkfihfipnbbfcaaCRB
namespace Go.Proofs.Ytkfihfipnbbfcaa
open Go.RowKit
namespace Rf
open Cs (IsV ChIs Foot TellPost pruned PrunePost NoPost)

/-- The links behind a step. -/
def stepList (ls : List Lk) (k n : Int) (x : ByteArray) (dead : Bool) : List Lk :=
  if k = 1 then (if 0 ≤ n ∧ ∀ a ∈ ls, a.stamp < n then ls ++ [⟨n, .string x, dead⟩] else ls) else if k = 4 then pruned ls n else ls

theorem stepList_le (ls : List Lk) (k n : Int) (x : ByteArray) (dead : Bool) : (stepList ls k n x dead).length ≤ ls.length + 1 := by
  unfold stepList
  split
  · split <;> simp
  · split
    · unfold pruned; simp; omega
    · omega

theorem last_ge {r : List Lk} {l : Lk} {n : Int} (hr : Rising (r ++ [l])) (h : ¬ ∀ a ∈ r ++ [l], a.stamp < n) : n ≤ l.stamp := by
  refine Classical.byContradiction fun hn => h fun a ha => ?_
  rcases List.mem_append.1 ha with ha | ha
  · have := (List.pairwise_append.1 hr.2).2.2 a ha l (by simp)
    omega
  · rw [List.mem_singleton.1 ha]; omega

theorem step_any (w : World) (q p : Nat) (v d : Value) (ls : List Lk) (k n : Int) (x : ByteArray) (dead : Bool) (h : PairIs w q p v d ls) (hfew : ls.length < 3518437208800) :
    Calls Try.prog 33 #[.pointer (some ⟨q, 0, none⟩), .agg #[.int .i64 k, .int .i64 n, .string x, .bool dead]] w (StepPost q p v d (stepList ls k n x dead) w) := by
  by_cases h1 : k = 1
  · subst h1
    unfold stepList
    rw [if_pos rfl]
    split
    · rename_i hok
      exact step_add w q p v d ls n x dead h hok.1 hok.2 hfew
    · rename_i hno
      by_cases hn : n < 0
      · exact step_no w q p v d ls n x dead h (Lib.hid fun u hu => Cs.add_low u p v ls n x dead hu.ch hn) (Lib.hid fun u _ => add_low u d n x dead hn)
      · have hno' : ¬ ∀ a ∈ ls, a.stamp < n := fun hh => hno ⟨by omega, hh⟩
        rcases List.eq_nil_or_concat ls with rfl | ⟨r, l, rfl⟩
        · exact absurd (fun a ha => by simp at ha) hno'
        · rw [List.concat_eq_append] at *
          have hl := last_ge h.doc.rise hno'
          exact step_no w q p v d _ n x dead h (Lib.hid fun u hu => Cs.add_old u p v r l n x dead hu.ch (by omega) hl) (Lib.hid fun u hu => add_old u d r l n x dead hu.doc (by omega) hl)
  · by_cases h4 : k = 4
    · subst h4
      unfold stepList
      rw [if_neg (by decide), if_pos rfl]
      have hA : ∀ u, PairIs u q p v d ls → Calls Try.prog 38 #[.pointer (some ⟨p, 0, none⟩), .int .i64 n] u (fun e w' => ∃ v', e = .returned (.int .i64 ((cnt ls n - 1 : Nat) : Int)) ∧ ChIs w' p v' (pruned ls n) ∧ Only (Foot p v) u w' ∧ ∀ k, Foot p v' k → Foot p v k ∨ u.heap.size ≤ k) := by
        intro u hu
        rcases hc : cnt ls n with _ | _ | m
        · have := Cs.prune_few u p v ls n hu.ch (by omega)
          unfold PrunePost at this; rw [hc] at this; exact this
        · have := Cs.prune_few u p v ls n hu.ch (by omega)
          unfold PrunePost at this; rw [hc] at this; exact this
        · have := Cs.prune_many u p v ls n m hu.ch hc
          unfold PrunePost at this; rw [hc] at this; exact this
      have hR : ∀ u, DocIs u d ls → Calls Try.prog 53 #[d, .int .i64 n] u (fun e w' => ∃ d', e = .returned (.tuple #[d', .int .i64 ((cnt ls n - 1 : Nat) : Int)]) ∧ DocIs w' d' (pruned ls n) ∧ Only NoneOf u w' ∧ ∀ g, d'.ownBlock = some g → d.ownBlock = some g ∨ u.heap.size ≤ g) := by
        intro u hu
        unfold pruned
        rcases hc : cnt ls n with _ | m
        · refine (prune_few u d ls n hu hc).mono ?_
          rintro e w' ⟨rfl, ho⟩
          exact ⟨d, rfl, hu.keep ho, ho, fun g hg => .inl hg⟩
        · refine (prune_many u d ls n m hu hc).mono ?_
          rintro e w' ⟨d', rfl, hd, ho, hn⟩
          exact ⟨d', rfl, hd, ho, fun g hg => .inr (hn g hg)⟩
      exact step_prune w q p v d ls n x dead h _ (Lib.hid hA) (Lib.hid hR)
    · unfold stepList
      rw [if_neg h1, if_neg h4]
      by_cases h2 : k = 2
      · subst h2; exact step_at w q p v d ls n x dead h
      by_cases h3 : k = 3
      · subst h3; exact step_last w q p v d ls n x dead h
      by_cases h5 : k = 5
      · subst h5; exact step_len w q p v d ls n x dead h
      by_cases h6 : k = 6
      · subst h6; exact step_all w q p v d ls n x dead h
      have f : ∀ m : Int, k ≠ m → (k == m) = false := fun m h => beq_eq_false_iff_ne.2 h
      exact step_other w q p v d ls k n x dead h (f 1 h1) (f 2 h2) (f 3 h3) (f 4 h4) (f 5 h5) (f 6 h6)

/-- The links behind a script. -/
def playList (ls : List Lk) : List (Int × Int × ByteArray × Bool) → List Lk
  | [] => ls
  | (k, n, x, dead) :: more => playList (stepList ls k n x dead) more

theorem playList_snoc (s : List (Int × Int × ByteArray × Bool)) (ls : List Lk) (k n : Int) (x : ByteArray) (dead : Bool) : playList ls (s ++ [(k, n, x, dead)]) = stepList (playList ls s) k n x dead := by
  induction s generalizing ls with
  | nil => rfl
  | cons a s ih => exact ih _
theorem playList_le (s : List (Int × Int × ByteArray × Bool)) (ls : List Lk) : (playList ls s).length ≤ ls.length + s.length := by
  induction s generalizing ls with
  | nil => exact Nat.le_refl _
  | cons a s ih =>
    obtain ⟨k, n, x, dead⟩ := a
    have := ih (stepList ls k n x dead)
    have := stepList_le ls k n x dead
    simp only [playList, List.length_cons]
    omega

/-- A pair that was just made. -/
theorem new_pair (w : World) : PairIs ((w.alloc (.cells #[.slice none 0 0] 55)).alloc (.cells #[.pointer (some ⟨w.heap.size, 0, none⟩), .slice none 0 0] 58)) (w.heap.size + 1) w.heap.size (.slice none 0 0) (.slice none 0 0) [] := by
  refine ⟨Blk.new' _ _ _ (by simp), (Cs.new_chain w).alloc _, ⟨⟨rfl, .inl ⟨rfl, rfl⟩⟩, (fun l hl => by cases hl), ⟨(fun l hl => by cases hl), List.Pairwise.nil⟩, by simp⟩, ?_, fun g hg => by simp [Value.ownBlock] at hg⟩
  rintro (hk | hk)
  · omega
  · simp [Value.ownBlock] at hk

end Rf
end Go.Proofs.Ytkfihfipnbbfcaa
