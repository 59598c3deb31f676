/-
  Layer 13's law: played; what is told of a chain, as one.
-/
import Derived.Test.YtkfihfipnbbfcaaCRD
namespace Go.Proofs.Ytkfihfipnbbfcaa
open Go.RowKit
namespace Rf
open Cs (IsV ChIs Foot TellPost pruned PrunePost)

/-- How played ends: a chain of the script's links, in new memory. -/
def MadePost (ls : List Lk) (w : World) (e : Ending) (w' : World) : Prop :=
  e = .returned (.pointer (some ⟨w.heap.size, 0, none⟩)) ∧ ∃ v, ChIs w' w.heap.size v ls ∧ Only NoneOf w w' ∧ ∀ k, Foot w.heap.size v k → w.heap.size ≤ k

set_option maxRecDepth 100000 in
set_option maxHeartbeats 1000000 in
theorem played_is (A : Option Addr) (cap : Nat) (s : List St) (w : World) (hA : StepsIn w w.heap.size A s) (hn : s.length ≤ 3518437208780) :
    Calls Try.prog 41 #[.slice A s.length cap] w (MadePost (playList [] s) w) := by
  have HA := Lib.hid hA
  clear hA
  go_enter Try.func41, Try.ntmps41
  go_wp2_with fail
  go_loopw [4] (fun i wr => RunRel w (w.heap.size + 1) w.heap.size s i wr) (fun i _ => s.length - (intOf i).toNat)
  case atStart => exact ⟨0, Nat.zero_le _, rfl, _, _, new_played w⟩
  case round =>
    obtain ⟨k, hk, rfl, v, d, hP⟩ := hrel
    have hle := play_le s k hk
    by_cases hlt : k < s.length
    · obtain ⟨⟨k', n, x, dead⟩, hl⟩ : ∃ y, s[k]? = some y := ⟨_, List.getElem?_eq_getElem hlt⟩
      obtain ⟨blk, off, rfl, hb, e0, e1, e2, e3⟩ := (HA.out.only (Nat.le_refl _) hP.only (fun _ _ h => h)) k k' n x dead hl
      have HP := Lib.hid hP
      have HN := Lib.hid (play_next hl)
      clear hP hl
      go_wp2_with fail
      refine (play_step k' n x dead HP.out (by omega)).mono ?_; rintro e w2 ⟨rfl, v', d', hP2⟩
      have HP2 := Lib.hid hP2
      clear hP2
      go_wp2_with fail
      go_roundw
      case rel => exact ⟨k + 1, by omega, by go_num, v', d', HN.out ▸ HP2.out⟩
      case measure => simp [intOf]; omega
    · obtain rfl : k = s.length := by omega
      rw [List.take_length] at hP
      have q0 := hP.pair.blk.cellv 0 rfl
      have HP := Lib.hid hP
      clear hP
      go_wp2_with fail
      go_ret
      exact ⟨rfl, v, HP.out.pair.ch, HP.out.only, fun k hk => HP.out.new k (.inr (.inl hk))⟩

/-- The link that counts. -/
def atLk (ls : List Lk) (s : Int) : Option Lk := match cnt ls s with | 0 => none | m + 1 => ls[m]?
/-- What is told of a link, or of none. -/
def toldIs : Option Lk → Bool | none => false | some _ => true

/-- What is told of a link, cell by cell. -/
inductive Told : Option Lk → Int → ByteArray → Bool → Bool → Prop
  | none : Told none 0 ⟨#[]⟩ false false
  | some (st : Int) (y : ByteArray) (b : Bool) : Told (some ⟨st, .string y, b⟩) st y b true

theorem told_of {o : Option Lk} (h : ∀ l, o = some l → IsV l.val) : ∃ st y b is, Told o st y b is := by
  cases o with
  | none => exact ⟨_, _, _, _, .none⟩
  | some l =>
    obtain ⟨y, hy⟩ := h l rfl
    obtain ⟨st, val, b⟩ := l
    simp only at hy
    subst hy
    exact ⟨st, y, b, true, .some st y b⟩

theorem at_tell (w : World) (p : Nat) (v : Value) (ls : List Lk) (n : Int) (st : Int) (y : ByteArray) (b is : Bool) (h : ChIs w p v ls) (ht : Told (atLk ls n) st y b is) :
    Calls Try.prog 34 #[.pointer (some ⟨p, 0, none⟩), .int .i64 n] w (TellPost #[.int .i64 st, .string y, .bool b] is w) := by
  generalize ho : atLk ls n = o at ht
  unfold atLk at ho
  rcases hc : cnt ls n with _ | m
  · rw [hc] at ho
    simp only at ho
    subst ho
    cases ht
    exact Cs.at_none w p v ls n h hc
  · rw [hc] at ho
    simp only at ho
    have hm : m < ls.length := by have := cnt_le ls n; omega
    rw [List.getElem?_eq_getElem hm] at ho
    subst ho
    generalize hl : ls[m]'hm = l at ht
    cases ht
    exact Cs.at_has w p v ls n m ⟨st, .string y, b⟩ h hc (by rw [List.getElem?_eq_getElem hm, hl])

theorem last_tell (w : World) (p : Nat) (v : Value) (ls : List Lk) (st : Int) (y : ByteArray) (b is : Bool) (h : ChIs w p v ls) (ht : Told ls.getLast? st y b is) :
    Calls Try.prog 35 #[.pointer (some ⟨p, 0, none⟩)] w (TellPost #[.int .i64 st, .string y, .bool b] is w) := by
  rcases List.eq_nil_or_concat ls with rfl | ⟨r, l, rfl⟩
  · cases ht
    exact Cs.last_empty w p v h
  · rw [List.concat_eq_append] at *
    rw [List.getLast?_append] at ht
    simp only [List.getLast?_singleton, Option.some_or] at ht
    cases ht
    exact Cs.last_has w p v r ⟨st, .string y, b⟩ h

theorem prune_any (w : World) (p : Nat) (v : Value) (ls : List Lk) (n : Int) (h : ChIs w p v ls) : Calls Try.prog 38 #[.pointer (some ⟨p, 0, none⟩), .int .i64 n] w (PrunePost p v ls n w) := by
  rcases hc : cnt ls n with _ | _ | m
  · exact Cs.prune_few w p v ls n h (by omega)
  · exact Cs.prune_few w p v ls n h (by omega)
  · exact Cs.prune_many w p v ls n m h hc

theorem cnt_drop (ls : List Lk) (n : Int) : ∀ k, k ≤ cnt ls n → cnt (ls.drop k) n = cnt ls n - k := by
  induction ls with
  | nil => intro k hk; simp [cnt]
  | cons l ls ih =>
    intro k hk
    cases k with
    | zero => rfl
    | succ k =>
      unfold cnt at hk ⊢
      rw [List.takeWhile_cons] at hk ⊢
      split
      · rename_i hl
        rw [if_pos hl] at hk
        simp only [List.length_cons] at hk ⊢
        have := ih k (by unfold cnt; omega)
        unfold cnt at this
        rw [List.drop_succ_cons, this]
        omega
      · rename_i hl
        rw [if_neg hl] at hk
        simp at hk

theorem cnt_mono {ls : List Lk} (hr : Rising ls) {a b : Int} (h : a ≤ b) : cnt ls a ≤ cnt ls b := by
  refine Classical.byContradiction fun hn => ?_
  have hlt : cnt ls b < ls.length := by have := cnt_le ls a; omega
  have hl : ls[cnt ls b]? = some (ls[cnt ls b]'hlt) := List.getElem?_eq_getElem hlt
  have h1 := cnt_lt (ls := ls) (s := a) (i := cnt ls b) (by omega) hl
  have h2 := cnt_ge (ls := ls) hr.2 (s := b) (i := cnt ls b) (Nat.le_refl _) hl
  omega

theorem pruned_at {ls : List Lk} (hr : Rising ls) {h n : Int} (hn : h ≤ n) : atLk (pruned ls h) n = atLk ls n := by
  have hm := cnt_mono hr hn
  unfold atLk pruned
  rcases hc : cnt ls h with _ | k
  · rfl
  · rw [show k + 1 - 1 = k by omega, cnt_drop ls n k (by omega)]
    rcases hc2 : cnt ls n with _ | m
    · omega
    · rw [show m + 1 - k = (m - k) + 1 by omega]
      simp only
      rw [List.getElem?_drop, show k + (m - k) = m by omega]

theorem pruned_last {ls : List Lk} (h : Int) : (pruned ls h).getLast? = ls.getLast? := by
  unfold pruned
  have := cnt_le ls h
  rw [List.getLast?_drop]
  split
  · have : ls = [] := List.eq_nil_of_length_eq_zero (by omega)
    subst this; rfl
  · rfl

theorem pruned_len (ls : List Lk) (h : Int) : (pruned ls h).length + (cnt ls h - 1) = ls.length := by
  have := cnt_le ls h
  unfold pruned
  simp
  omega

theorem pruned_again (ls : List Lk) (h : Int) : cnt (pruned ls h) h - 1 = 0 := by
  unfold pruned
  rw [cnt_drop ls h _ (by omega)]
  omega

end Rf
end Go.Proofs.Ytkfihfipnbbfcaa
