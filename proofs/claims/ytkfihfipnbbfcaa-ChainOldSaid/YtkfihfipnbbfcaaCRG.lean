/-
  Layer 13's law: ChainPruned walked.
-/
import Derived.Test.YtkfihfipnbbfcaaCRF
import Derived.Test.YtkfihfipnbbfcaaSlice
namespace Go.Proofs.Ytkfihfipnbbfcaa
open Go.RowKit
namespace Rf
open Cs (IsV ChIs Foot TellPost pruned PrunePost)

/-- A slice of ints reads, in w, as s: each lies below B. -/
def IntsIn (w : World) (B : Nat) (A : Option Addr) (s : List Int) : Prop :=
  ∀ (i : Nat) (n : Int), s[i]? = some n → ∃ (blk off : Nat), A = some ⟨blk, off, none⟩ ∧ blk < B ∧ w.cell? ⟨blk, off + i, none⟩ = some (.int .i64 n)

theorem IntsIn.only {w w' : World} {S : Nat → Prop} {B : Nat} {A : Option Addr} {s : List Int} (h : IntsIn w B A s) (hB : B ≤ w.heap.size) (ho : Only S w w') (hS : ∀ k, k < B → ¬ S k) : IntsIn w' B A s := by
  intro i n hi
  obtain ⟨blk, off, hA, hb, h0⟩ := h i n hi
  exact ⟨blk, off, hA, hb, by rw [ho.cell (p := ⟨blk, off + i, none⟩) (by show blk < _; omega) (hS blk hb), h0]⟩

/-- Two chains, in new memory. -/
structure Pair2 (w w' : World) (p : Nat) (v : Value) (ls : List Lk) (p2 : Nat) (v2 : Value) (ls2 : List Lk) : Prop where
  one : ChIs w' p v ls
  two : ChIs w' p2 v2 ls2
  only : Only NoneOf w w'
  new : ∀ k, Foot p v k → w.heap.size ≤ k
  new2 : ∀ k, Foot p2 v2 k → w.heap.size ≤ k
  apart : ∀ k, Foot p v k → ¬ Foot p2 v2 k

section
variable {w w1 w2 : World} {p : Nat} {v : Value} {ls : List Lk} {p2 : Nat} {v2 : Value} {ls2 : List Lk}
theorem ch_lt (h : ChIs w p v ls) (k : Nat) (hk : Foot p v k) : k < w.heap.size := by
  rcases hk with rfl | hk
  · exact h.blk.lt
  · exact (World.ownsRow.lt h.row k hk).2
theorem Pair2.keep (h : Pair2 w w1 p v ls p2 v2 ls2) (ho : Only NoneOf w1 w2) : Pair2 w w2 p v ls p2 v2 ls2 := ⟨h.one.keep ho, h.two.keep ho, h.only.trans ho, h.new, h.new2, h.apart⟩
def Pair2Post (w : World) (p : Nat) (ls : List Lk) (p2 : Nat) (v2 : Value) (ls2 : List Lk) (c : Int) (e : Ending) (w' : World) : Prop := e = .returned (.int .i64 c) ∧ ∃ v, Pair2 w w' p v ls p2 v2 ls2
theorem Pair2.prune (n : Int) (h : Pair2 w w1 p v ls p2 v2 ls2) : Calls Try.prog 38 #[.pointer (some ⟨p, 0, none⟩), .int .i64 n] w1 (Pair2Post w p (pruned ls n) p2 v2 ls2 (cnt ls n - 1 : Nat)) :=
  (prune_any w1 p v ls n h.one).mono fun e w' ⟨v', he, hc, ho, hf⟩ =>
    ⟨he, v', hc, h.two.only ho (fun k hk hh => h.apart k hh hk), h.only.step ho (fun k hk hh => by have := h.new k hh; omega), fun k hk => by
      rcases hf k hk with hk | hk
      · exact h.new k hk
      · have := h.only.size; omega, h.new2, fun k hk hh => by
      rcases hf k hk with hk | hk
      · exact h.apart k hk hh
      · have := ch_lt h.two k hh; omega⟩
theorem Pair2.prune2 (n : Int) (hc : cnt ls n - 1 = 0) (h : Pair2 w w1 p v ls p2 v2 ls2) : Calls Try.prog 38 #[.pointer (some ⟨p, 0, none⟩), .int .i64 n] w1 (Pair2Post w p ls p2 v2 ls2 0) :=
  (h.prune n).mono fun e w' ⟨he, v', hp⟩ => by
    have e2 : pruned ls n = ls := by unfold pruned; rw [hc, List.drop_zero]
    rw [hc] at he
    rw [e2] at hp
    exact ⟨he, v', hp⟩
theorem atLk_mem {n : Int} {l : Lk} (h : atLk ls n = some l) : l ∈ ls := by
  unfold atLk at h
  split at h
  · cases h
  · exact List.mem_of_getElem? h
theorem two_made {w w1 w2 : World} {v v2 : Value} {ls : List Lk} (h1 : ChIs w1 w.heap.size v ls) (ho1 : Only NoneOf w w1) (hf1 : ∀ k, Foot w.heap.size v k → w.heap.size ≤ k) (h2 : ChIs w2 w1.heap.size v2 ls) (ho2 : Only NoneOf w1 w2) (hf2 : ∀ k, Foot w1.heap.size v2 k → w1.heap.size ≤ k) :
    Pair2 w w2 w.heap.size v ls w1.heap.size v2 ls :=
  ⟨h1.keep ho2, h2, ho1.trans ho2, hf1, fun k hk => by have := hf2 k hk; have := ho1.size; omega, fun k hk hh => by have := hf2 k hh; have := ch_lt h1 k hk; omega⟩
end

def PrRel (w : World) (p : Nat) (ls : List Lk) (p2 : Nat) (ls2 : List Lk) (n : Nat) (i : Value) (wr : World) : Prop := ∃ k : Nat, k ≤ n ∧ i = .int .i64 k ∧ ∃ v v2, Pair2 w wr p v ls p2 v2 ls2

set_option maxRecDepth 100000 in
set_option maxHeartbeats 2000000 in
theorem pruned_any (A B : Option Addr) (cap cap2 : Nat) (s : List St) (horizon : Int) (asked : List Int) (w : World) (hA : StepsIn w w.heap.size A s) (hB : IntsIn w w.heap.size B asked) (hn : s.length ≤ 3518437208780) (hn2 : asked.length ≤ maxLen) :
    Calls Try.prog 11 #[.slice A s.length cap, .int .i64 horizon, .slice B asked.length cap2] w (fun e w' => e = .returned (.bool true) ∧ Only NoneOf w w') := by
  unfold maxLen at hn2
  have HA := Lib.hid hA
  have HB := Lib.hid hB
  have hfew : (playList [] s).length ≤ s.length := by have := playList_le s []; simpa using this
  have hcl := cnt_le (playList [] s) horizon
  have HM1 := fun u (hu : StepsIn u u.heap.size A s) => Lib.hid (played_is A cap s u hu hn)
  have hpl := pruned_len (playList [] s) horizon
  have hpa := pruned_again (playList [] s) horizon
  have HPL := Lib.hid (pruned_last (ls := playList [] s) horizon)
  generalize playList [] s = ls at *
  clear hA hB
  go_enter Try.func11, Try.ntmps11
  go_wp2_with fail
  refine (HM1 w HA.out).out.mono ?_; rintro e w1 ⟨rfl, v, h1, ho1, hf1⟩
  have HS1 := Lib.hid (show StepsIn w1 w1.heap.size A s from fun i k n x dead hi => by
    obtain ⟨blk, off, hA, hb, r⟩ := (HA.out.only (Nat.le_refl _) ho1 (fun _ _ h => h)) i k n x dead hi
    exact ⟨blk, off, hA, by have := ho1.size; omega, r⟩)
  have H1 := Lib.hid (And.intro h1 (And.intro ho1 hf1))
  clear h1 ho1 hf1
  go_wp2_with fail
  refine (HM1 w1 HS1.out).out.mono ?_; rintro e w2 ⟨rfl, v2, h2, ho2, hf2⟩
  have HR : Hid (ls.Pairwise fun a b => a.stamp < b.stamp) := Lib.hid h2.rise.2
  have HRI := Lib.hid h2.rise
  have HVV := Lib.hid h2.vals
  have HP := Lib.hid (two_made H1.out.1 H1.out.2.1 H1.out.2.2 h2 ho2 hf2)
  clear h2 ho2 hf2 HS1 H1
  generalize w1.heap.size = p2 at *
  go_wp2_with fail
  refine (HP.out.prune horizon).mono ?_; rintro e w3 ⟨rfl, v3, hp3⟩
  generalize hcn : cnt ls horizon - 1 = c at *
  have HP3 := Lib.hid hp3
  clear hp3 HP
  go_wp2_with fail
  refine (Cs.awake_any _).mono ?_; rintro e w4 ⟨rfl, ho4⟩
  have HP4 := Lib.hid (HP3.out.keep ho4)
  clear ho4 HP3
  go_wp2_with fail
  refine (Cs.len_has _ _ _ _ _ HP4.out.one rfl).mono ?_; rintro e w5 ⟨rfl, rfl⟩
  go_wp2_with fail
  refine (Cs.len_has _ _ _ _ _ HP4.out.two rfl).mono ?_; rintro e w5 ⟨rfl, rfl⟩
  have hsum : (((pruned ls horizon).length : Int) + (c : Int) == (ls.length : Int)) = true := beq_iff_eq.2 (by omega)
  go_wp2_with fail
  refine (HP4.out.prune2 horizon hpa).mono ?_; rintro e w5 ⟨rfl, v5, hp5⟩
  have HP5 := Lib.hid hp5
  have hlz : decide ((0 : Int) < ((pruned ls horizon).length : Int)) = decide ((0 : Int) < (ls.length : Int)) := by
    rcases Nat.eq_zero_or_pos ls.length with h0 | h0
    · rw [show (pruned ls horizon).length = 0 by omega, h0]
    · have hc : c < ls.length := by omega
      rw [decide_eq_true (by omega), decide_eq_true (by omega)]
  have HLZ := Lib.hid hlz
  clear hp5 HP4 hsum hpa hpl hlz hcn hfew hn hcl HM1 HA
  go_wp2_with fail
  go_loopw [10] (fun i wr => PrRel w w.heap.size (pruned ls horizon) p2 ls asked.length i wr) (fun i _ => asked.length - (intOf i).toNat)
  case atStart => exact ⟨0, Nat.zero_le _, rfl, _, _, HP5.out⟩
  case round =>
    obtain ⟨k, hk, rfl, va, vb, hP⟩ := hrel
    by_cases hlt : k < asked.length
    · obtain ⟨n, hl⟩ : ∃ y, asked[k]? = some y := ⟨_, List.getElem?_eq_getElem hlt⟩
      obtain ⟨blk, off, rfl, hb, e0⟩ := (HB.out.only (Nat.le_refl _) hP.only (fun _ _ h => h)) k n hl
      have HPr := Lib.hid hP
      have hbr : blk < wr.heap.size := by have := hP.only.size; omega
      clear hP hl
      by_cases hh : n < horizon
      · go_wp2_with fail
        go_roundw
        case rel => exact ⟨k + 1, by omega, by go_num, va, vb, HPr.out⟩
        case measure => simp [intOf]; omega
      · obtain ⟨st, y, b, is, ht⟩ := told_of (o := atLk ls n) (fun l hl => HVV.out l (atLk_mem hl))
        have ht2 : Told (atLk (pruned ls horizon) n) st y b is := by rw [pruned_at HRI.out (by omega)]; exact ht
        have HT := Lib.hid ht
        have HT2 := Lib.hid ht2
        clear ht ht2
        go_wp2_with fail
        refine (at_tell wr _ va _ n st y b is HPr.out.one HT2.out).mono ?_; rintro e w6 ⟨rfl, ho6⟩
        have hX := Blk.new w6 65 #[.int .i64 st, .string y, .bool b]
        have HP6 := Lib.hid ((HPr.out.keep ho6).keep ((Only.refl NoneOf w6).alloc (.cells #[.int .i64 st, .string y, .bool b] 65)))
        have e1 : (w6.alloc (.cells #[.int .i64 st, .string y, .bool b] 65)).cell? ⟨blk, off + k, none⟩ = some (.int .i64 n) := by
          rw [(ho6.alloc (.cells #[.int .i64 st, .string y, .bool b] 65)).cell (p := ⟨blk, off + k, none⟩) hbr (fun h => h)]; exact e0
        clear e0
        clear ho6
        go_wp2_with fail
        generalize w6.alloc (.cells #[.int .i64 st, .string y, .bool b] 65) = V at *
        generalize w6.heap.size = c1 at *
        refine (at_tell V _ vb _ n st y b is HP6.out.two HT.out).mono ?_; rintro e w7 ⟨rfl, ho7⟩
        have hX7 := hX.only ho7 (fun h => h)
        have x0 := (hX7.alloc (.cells #[.int .i64 st, .string y, .bool b] 65)).cellv 0 rfl
        have x1 := (hX7.alloc (.cells #[.int .i64 st, .string y, .bool b] 65)).cellv 1 rfl
        have x2 := (hX7.alloc (.cells #[.int .i64 st, .string y, .bool b] 65)).cellv 2 rfl
        have HP7 := Lib.hid ((HP6.out.keep ho7).keep ((Only.refl NoneOf w7).alloc (.cells #[.int .i64 st, .string y, .bool b] 65)))
        clear e1 ho7 hX
        go_wp2_with fail
        go_roundw
        case rel => exact ⟨k + 1, by omega, by go_num, va, vb, HP7.out⟩
        case measure => simp [intOf]; omega
    · obtain ⟨st, y, b, is, ht⟩ := told_of (o := ls.getLast?) (fun l hl => HVV.out l (List.mem_of_getLast? hl))
      have ht2 : Told (pruned ls horizon).getLast? st y b is := by rw [HPL.out]; exact ht
      have HT := Lib.hid ht
      have HT2 := Lib.hid ht2
      have HPr := Lib.hid hP
      clear ht ht2 hP
      go_wp2_with fail
      refine (last_tell wr _ va _ st y b is HPr.out.one HT2.out).mono ?_; rintro e w6 ⟨rfl, ho6⟩
      have hX := Blk.new w6 65 #[.int .i64 st, .string y, .bool b]
      have HP6 := Lib.hid ((HPr.out.keep ho6).keep ((Only.refl NoneOf w6).alloc (.cells #[.int .i64 st, .string y, .bool b] 65)))
      clear ho6
      go_wp2_with fail
      generalize w6.alloc (.cells #[.int .i64 st, .string y, .bool b] 65) = V at *
      generalize w6.heap.size = c1 at *
      refine (last_tell V _ vb _ st y b is HP6.out.two HT.out).mono ?_; rintro e w7 ⟨rfl, ho7⟩
      have hX7 := hX.only ho7 (fun h => h)
      have x0 := (hX7.alloc (.cells #[.int .i64 st, .string y, .bool b] 65)).cellv 0 rfl
      have x1 := (hX7.alloc (.cells #[.int .i64 st, .string y, .bool b] 65)).cellv 1 rfl
      have x2 := (hX7.alloc (.cells #[.int .i64 st, .string y, .bool b] 65)).cellv 2 rfl
      have HP7 := Lib.hid ((HP6.out.keep ho7).keep ((Only.refl NoneOf w7).alloc (.cells #[.int .i64 st, .string y, .bool b] 65)))
      clear ho7 hX
      go_wp2_with fail
      generalize w7.alloc (.cells #[.int .i64 st, .string y, .bool b] 65) = V2 at *
      refine (Cs.len_has _ _ _ _ _ HP7.out.one rfl).mono ?_; rintro e w8 ⟨rfl, rfl⟩
      go_wp2_with fail
      refine (Cs.len_has _ _ _ _ _ HP7.out.two rfl).mono ?_; rintro e w8 ⟨rfl, rfl⟩
      have hlz := HLZ.out
      generalize (pruned ls horizon).length = n1 at *
      generalize ls.length = n2 at *
      go_wp2_with fail
      go_ret
      exact ⟨by have h := decide_eq_decide.1 HLZ.out; simp; omega, HP7.out.only⟩

end Rf
end Go.Proofs.Ytkfihfipnbbfcaa
