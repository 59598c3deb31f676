/-
  Layer 13's law: a step on both: Last, All, a step of no kind.
-/
import Derived.Test.YtkfihfipnbbfcaaCR9
namespace Go.Proofs.Ytkfihfipnbbfcaa
open Go.RowKit
namespace Rf
open Cs (IsV only_grown walked ChIs Foot TellPost WalkPost)

set_option maxRecDepth 100000 in
set_option maxHeartbeats 1000000 in
theorem step_last' (w : World) (q p : Nat) (v d : Value) (ls : List Lk) (n : Int) (x : ByteArray) (dead : Bool) (h : PairIs w q p v d ls) (st : Int) (y : ByteArray) (b is : Bool) (a : Int) (g : Option Addr) (len cap : Nat) (hd : d = .slice g len cap) (ha : (len : Int) - 1 = a) (hle : len ≤ 3518437208800)
    (HA : Hid (∀ u, PairIs u q p v d ls → Calls Try.prog 35 #[.pointer (some ⟨p, 0, none⟩)] u (TellPost #[.int .i64 st, .string y, .bool b] is u)))
    (HT : Hid (∀ u, PairIs u q p v d ls → Calls Try.prog 51 #[.pointer (some ⟨q, 0, none⟩), .agg #[.int .i64 st, .string y, .bool b], .bool is, .int .i64 a] u (TruePost u))) :
    Calls Try.prog 33 #[.pointer (some ⟨q, 0, none⟩), .agg #[.int .i64 3, .int .i64 n, .string x, .bool dead]] w (StepPost q p v d ls w) := by
  subst hd
  have HH := Lib.hid h
  have hA := h.keep ((Only.refl NoneOf w).alloc (.cells #[.int .i64 3, .int .i64 n, .string x, .bool dead] 61))
  have hB := Blk.new w 61 #[.int .i64 3, .int .i64 n, .string x, .bool dead]
  have hO := Lib.hid ((Only.refl NoneOf w).alloc (.cells #[.int .i64 3, .int .i64 n, .string x, .bool dead] 61))
  have hql := h.blk.lt
  clear h
  have q0 := hA.blk.cellv 0 rfl
  go_enter Try.func33, Try.ntmps33
  go_wp2_with fail
  generalize w.alloc (.cells #[.int .i64 3, .int .i64 n, .string x, .bool dead] 61) = W at *
  refine (HA.out W hA).mono ?_; rintro e w5 ⟨rfl, ho5⟩
  have hP5 := (hA.keep ho5).keep ((Only.refl NoneOf w5).alloc (.cells #[.int .i64 st, .string y, .bool b] 65))
  have HO5 := Lib.hid ((hO.out.trans ho5).alloc (.cells #[.int .i64 st, .string y, .bool b] 65))
  have hN5 := Blk.new w5 65 #[.int .i64 st, .string y, .bool b]
  clear q0 ho5
  go_wp2_with fail
  generalize w5.alloc (.cells #[.int .i64 st, .string y, .bool b] 65) = V at *
  generalize w5.heap.size = c at *
  have n0 := hN5.cellv 0 rfl
  have n1 := hN5.cellv 1 rfl
  have n2 := hN5.cellv 2 rfl
  have q1 := hP5.blk.cellv 1 rfl
  go_still_tail 9, (by kernel_rfl)
  change wpList _ _ _ _ _ V.drew
  have hP6 := hP5.keep (Only.refl NoneOf V).drew
  have HO6 := Lib.hid HO5.out.drew
  generalize V.drew = V2 at *
  clear n0 n1 n2 q1
  go_wp2_with fail
  refine (HT.out V2 hP6).mono ?_; rintro e w7 ⟨rfl, ho7⟩
  have HO7 := Lib.hid (HO6.out.trans ho7)
  go_wp2_with fail
  go_ret
  exact pair_same HH.out HO7.out

theorem doc_shape {w : World} {d : Value} {ls : List Lk} (h : DocIs w d ls) : ∃ g cap, d = .slice g ls.length cap := by
  rcases form h.row h.vals with ⟨rfl, rfl⟩ | ⟨g, cap, hd, _⟩
  · exact ⟨none, 0, rfl⟩
  · exact ⟨_, _, hd⟩

theorem step_last (w : World) (q p : Nat) (v d : Value) (ls : List Lk) (n : Int) (x : ByteArray) (dead : Bool) (h : PairIs w q p v d ls) :
    Calls Try.prog 33 #[.pointer (some ⟨q, 0, none⟩), .agg #[.int .i64 3, .int .i64 n, .string x, .bool dead]] w (StepPost q p v d ls w) := by
  obtain ⟨g, cap, hd⟩ := doc_shape h.doc
  have hfew := h.doc.few
  rcases List.eq_nil_or_concat ls with rfl | ⟨r, l, rfl⟩
  · have h1 : ∀ u, PairIs u q p v d [] → Calls Try.prog 35 #[.pointer (some ⟨p, 0, none⟩)] u (TellPost #[.int .i64 0, .string ⟨#[]⟩, .bool false] false u) := fun u hu => Cs.last_empty u p v hu.ch
    have h3 : ∀ u, PairIs u q p v d [] → Calls Try.prog 51 #[.pointer (some ⟨q, 0, none⟩), .agg #[.int .i64 0, .string ⟨#[]⟩, .bool false], .bool false, .int .i64 (-1)] u (TruePost u) := fun u _ => tell_no u q
    exact step_last' w q p v d [] n x dead h 0 ⟨#[]⟩ false false (-1) g 0 cap hd rfl (Nat.zero_le _) (Lib.hid h1) (Lib.hid h3)
  · rw [List.concat_eq_append] at *
    have hl : (r ++ [l])[r.length]? = some l := by simp
    obtain ⟨y, hy⟩ := h.doc.vals _ (List.mem_of_getElem? hl)
    obtain ⟨st, val, b⟩ := l
    simp only at hy
    subst hy
    have hlen : (r ++ [(⟨st, .string y, b⟩ : Lk)]).length = r.length + 1 := by simp
    rw [hlen] at hd hfew
    have h1 : ∀ u, PairIs u q p v d (r ++ [⟨st, .string y, b⟩]) → Calls Try.prog 35 #[.pointer (some ⟨p, 0, none⟩)] u (TellPost #[.int .i64 st, .string y, .bool b] true u) := fun u hu => Cs.last_has u p v r ⟨st, .string y, b⟩ hu.ch
    have h3 : ∀ u, PairIs u q p v d (r ++ [⟨st, .string y, b⟩]) → Calls Try.prog 51 #[.pointer (some ⟨q, 0, none⟩), .agg #[.int .i64 st, .string y, .bool b], .bool true, .int .i64 r.length] u (TruePost u) := fun u hu => tell_yes u q p v d _ r.length ⟨st, .string y, b⟩ hu hl
    exact step_last' w q p v d _ n x dead h st y b true r.length g (r.length + 1) cap hd (by omega) hfew (Lib.hid h1) (Lib.hid h3)

set_option maxHeartbeats 400000 in
theorem step_other (w : World) (q p : Nat) (v d : Value) (ls : List Lk) (k n : Int) (x : ByteArray) (dead : Bool) (h : PairIs w q p v d ls) (h1 : (k == 1) = false) (h2 : (k == 2) = false) (h3 : (k == 3) = false) (h4 : (k == 4) = false) (h5 : (k == 5) = false) (h6 : (k == 6) = false) :
    Calls Try.prog 33 #[.pointer (some ⟨q, 0, none⟩), .agg #[.int .i64 k, .int .i64 n, .string x, .bool dead]] w (StepPost q p v d ls w) := by
  have HH := Lib.hid h
  clear h
  go_enter Try.func33, Try.ntmps33
  go_wp2_with fail
  go_ret
  exact pair_same HH.out ((Only.refl _ _).alloc _)

end Rf
end Go.Proofs.Ytkfihfipnbbfcaa
