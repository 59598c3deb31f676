/-
  Layer 13: a chain in memory; At, Add, Clone, Prune.
-/
import Derived.Test.YtnonnencdhogiaaC3bb
namespace Go.Proofs.Ytnonnencdhogiaa
open Go.RowKit
namespace Cb

set_option maxHeartbeats 400000 in
theorem at_nil (w : World) (s : Int) : Calls Try.prog 48 #[.pointer none, .int .i64 s] w (TellPost zeroLk false w) := by
  have L := fun u => Lib.hid (count_nil u s)
  go_enter Try.func48, Try.ntmps48
  go_wp2_with fail
  refine (L _).out.mono ?_; rintro e w1 ⟨rfl, ho⟩
  have hO := Lib.hid (((Only.refl NoneOf w).alloc _).trans ho)
  have hB := (Blk.new w 92 #[.int .i64 0, (Value.slice none 0 0), .bool false]).only ho (fun h => h)
  have b0 := hB.cellv 0 rfl
  have b1 := hB.cellv 1 rfl
  have b2 := hB.cellv 2 rfl
  have f0 := hB.free 0
  have f1 := hB.free 1
  have f2 := hB.free 2
  go_wp2_with fail
  exact bodyPost_ret (v := .tuple #[.agg zeroLk, .bool false]) (by simp [results, Try.results48, go_sem, b0, b1, b2]) rfl
      ⟨rfl, by repeat (first | exact hO.out | refine Only.drew ?_ | refine Only.drewN ?_ _ | refine Only.alloc ?_ _ | refine Only.put ?_ (.inr (by simp)) _)⟩

set_option maxHeartbeats 400000 in
theorem at_none (w : World) (p : Nat) (v : Value) (ls : List Lk) (s : Int) (h : ChIs w p v ls) (hc : cnt ls s = 0) :
    Calls Try.prog 48 #[.pointer (some ⟨p, 0, none⟩), .int .i64 s] w (TellPost zeroLk false w) := by
  have L := fun u hu => Lib.hid (count_has u p v ls s hu)
  simp only [hc] at L
  clear hc
  go_enter Try.func48, Try.ntmps48
  go_wp2_with fail
  refine (L _ (h.alloc _)).out.mono ?_; rintro e w1 ⟨rfl, ho⟩
  have hO := Lib.hid (((Only.refl NoneOf w).alloc _).trans ho)
  have hB := (Blk.new w 92 #[.int .i64 0, (Value.slice none 0 0), .bool false]).only ho (fun h => h)
  have b0 := hB.cellv 0 rfl
  have b1 := hB.cellv 1 rfl
  have b2 := hB.cellv 2 rfl
  have f0 := hB.free 0
  have f1 := hB.free 1
  have f2 := hB.free 2
  go_wp2_with fail
  exact bodyPost_ret (v := .tuple #[.agg zeroLk, .bool false]) (by simp [results, Try.results48, go_sem, b0, b1, b2]) rfl
      ⟨rfl, by repeat (first | exact hO.out | refine Only.drew ?_ | refine Only.drewN ?_ _ | refine Only.alloc ?_ _ | refine Only.put ?_ (.inr (by simp)) _)⟩

set_option maxHeartbeats 400000 in
theorem at_has (w : World) (p : Nat) (v : Value) (ls : List Lk) (s : Int) (n : Nat) (l : Lk) (h : ChIs w p v ls) (hc : cnt ls s = n + 1) (hl : ls[n]? = some l) :
    Calls Try.prog 48 #[.pointer (some ⟨p, 0, none⟩), .int .i64 s] w (TellPost l.cells.toArray true w) := by
  have L := fun u hu => Lib.hid (count_has u p v ls s hu)
  simp only [hc] at L
  clear hc
  have hfew := h.few
  have hn : n < ls.length := (List.getElem?_eq_some_iff.1 hl).1
  go_enter Try.func48, Try.ntmps48
  go_wp2_with fail
  refine (L _ (h.alloc _)).out.mono ?_; rintro e w1 ⟨rfl, ho⟩
  have hO := Lib.hid (((Only.refl NoneOf w).alloc _).trans ho)
  have hB := (Blk.new w 92 #[.int .i64 0, (Value.slice none 0 0), .bool false]).only ho (fun h => h)
  have b0 := hB.cellv 0 rfl
  have b1 := hB.cellv 1 rfl
  have b2 := hB.cellv 2 rfl
  have f0 := hB.free 0
  have f1 := hB.free 1
  have f2 := hB.free 2
  have h1 := (h.alloc _).keep ho
  have c0 := h1.blk.cellv 0 rfl
  rcases h1.form with ⟨_, rfl⟩ | ⟨g, cap, rfl, hcap, hg, hcs⟩
  · simp at hl
  · obtain ⟨x, hx, e0, e1, e2⟩ := hcs n l hl
    clear hcs hl
    obtain ⟨st, val, dead⟩ := l
    simp only at hx e0 e1 e2
    subst hx
    go_wp2_with fail
    exact bodyPost_ret (v := .tuple #[.agg (Lk.cells ⟨st, Value.slice x.1 x.2.1 x.2.2, dead⟩).toArray, .bool true]) (by simp [results, Try.results48, go_sem, Lk.cells, b0, b1, b2]) rfl
      ⟨rfl, by repeat (first | exact hO.out | refine Only.drew ?_ | refine Only.drewN ?_ _ | refine Only.alloc ?_ _ | refine Only.put ?_ (.inr (by simp)) _)⟩

end Cb
end Go.Proofs.Ytnonnencdhogiaa
