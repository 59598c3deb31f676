/-
  Layer 13's reference (cloisterref13): Add, Prune, All.
-/
import Derived.Test.YtkfihfipnbbfcaaCR1
namespace Go.Proofs.Ytkfihfipnbbfcaa
open Go.RowKit
namespace Rf
open Cs (IsV rising_snoc only_grown WalkPost vals_one)

/-- How Add ends where the link is taken: new memory. -/
def DocPost (ls : List Lk) (c : Int) (w : World) (e : Ending) (w' : World) : Prop :=
  ∃ d', e = .returned (.tuple #[d', .int .i64 c]) ∧ DocIs w' d' ls ∧ Only NoneOf w w' ∧ ∀ g, d'.ownBlock = some g → w.heap.size ≤ g

/-- How a call ends that changes nothing. -/
def SamePost (d : Value) (c : Int) (w : World) (e : Ending) (w' : World) : Prop := e = .returned (.tuple #[d, .int .i64 c]) ∧ Only NoneOf w w'

set_option maxHeartbeats 400000 in
theorem add_low (w : World) (d : Value) (st : Int) (x : ByteArray) (dead : Bool) (hs : st < 0) :
    Calls Try.prog 50 #[d, .agg #[.int .i64 st, .string x, .bool dead]] w (SamePost d 130 w) := by
  go_enter Try.func50, Try.ntmps50
  go_wp2_with fail
  go_quiet (fail)
  go_wp2_with fail
  go_ret2
  exact ⟨rfl, by repeat (first | exact Only.refl _ _ | refine Only.drewN ?_ _ | refine Only.alloc ?_ _)⟩

set_option maxHeartbeats 400000 in
theorem add_old (w : World) (d : Value) (ls : List Lk) (l : Lk) (st : Int) (x : ByteArray) (dead : Bool) (h : DocIs w d (ls ++ [l])) (h0 : 0 ≤ st) (hs : st ≤ l.stamp) :
    Calls Try.prog 50 #[d, .agg #[.int .i64 st, .string x, .bool dead]] w (SamePost d 130 w) := by
  have hA := h.keep ((Only.refl NoneOf w).alloc (.cells #[.int .i64 st, .string x, .bool dead] 71))
  have hfew := h.few
  rcases form hA.row h.vals with ⟨_, h1⟩ | ⟨g, cap, rfl, hcap, hg, hcs⟩
  · simp at h1
  · obtain ⟨y, hy, e0, _, _⟩ := hcs ls.length l (by simp)
    have hlen : (ls ++ [l]).length = ls.length + 1 := by simp
    rw [hlen] at hcap hfew ⊢
    obtain ⟨a, val, b⟩ := l
    simp only at e0 hs
    clear hcs hlen hy h hA
    have hd : decide (st < 0) = false := by simp; omega
    have hn : decide ((0 : Int) < (ls.length : Int) + 1) = true := by simp
    generalize ls.length = n at *
    go_enter Try.func50, Try.ntmps50
    go_wp2_with fail
    go_quiet (fail)
    go_wp2_with fail
    go_ret2
    exact ⟨rfl, by repeat (first | exact Only.refl _ _ | refine Only.drewN ?_ _ | refine Only.alloc ?_ _)⟩

theorem row_drewN {w : World} {base n : Nat} {v : Value} {xs : List Value} (h : w.ownsRow base 71 3 v n xs) (k : Nat) : (w.drewN k).ownsRow base 71 3 v n xs := row_only (S := NoneOf) h ((Only.refl _ _).drewN _) (fun _ _ h => h)

theorem row_at {w : World} {base n m : Nat} {v : Value} {xs : List Value} (h : w.ownsRow base 71 3 v n xs) (e : base = m) : w.ownsRow m 71 3 v n xs := e ▸ h

/-- append(nil, row...): a row of its own, in new memory. -/
theorem wpList_copy {ops : Array Oper} {rest : List Oper} {o : Oper} {a : Act} {w : World} {Q : Exit → Act → World → Prop} (hgd : o.guard = none) (x : Operand) (ho : o.op = .call { callee := .builtin .append, args := #[.const (.slice none 0 0), x], argTypes := #[56, 56] })
    (v : Value) (ls : List Lk) (hx : a.eval x = v) (hown : w.ownsRow 0 71 3 v ls.length (flat ls)) (hv : ∀ l ∈ ls, IsV l.val) (hn : ls.length ≤ 3518437208800)
    (h : ∀ v' w', w'.ownsRow w.heap.size 71 3 v' ls.length (flat ls) → w.grownBy w' none → wpList Try.prog ops Q rest (a.put o.dst v') w') : wpList Try.prog ops Q (o :: rest) a w := by
  obtain ⟨i0, hi, hz0, hz1, hz2⟩ := info_parts infoR
  rcases hown.2 with ⟨rfl, h0⟩ | ⟨g, cap, cur, rfl, _, hb, hle, hT, hsz, hcur⟩
  · obtain rfl : ls = [] := List.eq_nil_of_length_eq_zero h0
    refine wpList_append_own_none hgd (.const (.slice none 0 0)) x 56 ho 0 71 i0 3 Try.underlying56 hi (.slice none 0 0) 0 [] rfl ⟨rfl, .inl ⟨rfl, rfl⟩⟩ hx ?_
    exact h _ _ ⟨by simp [flat], .inl ⟨rfl, rfl⟩⟩ ⟨rfl, rfl, rfl, Nat.le_refl _, fun _ _ _ => rfl⟩
  · refine wpList_append_own w hgd (.const (.slice none 0 0)) x 56 ho w.heap.size 71 i0 _ 3 32 Try.underlying56 hi hz0 hz1 hz2 rfl (by decide) (.slice none 0 0) 0 [] rfl ⟨rfl, .inl ⟨rfl, rfl⟩⟩ ⟨g, 0, none⟩ ls.length cap (flat ls) hx hown.1 ?_ ?_ (by unfold maxLen; omega) (by omega) (Nat.le_refl _) ?_
    · intro j u hu
      have hj : j < (flat ls).length := (List.getElem?_eq_some_iff.1 hu).1
      have e : (⟨g, 0, none⟩ : Addr).add j = ⟨g, j, none⟩ := by simp [Addr.add]; omega
      rw [e, Blk.cell (t := 71) (cs := cur) hb, ← hu, ← hcur, List.getElem?_take_of_lt (by rw [← hown.1]; exact hj), Array.getElem?_toList]
    · exact Cs.vals_one hv
    · intro v' w' h1 h2 _
      have e : 0 + ls.length = ls.length := Nat.zero_add _
      rw [e] at h1
      exact h v' w' h1 h2

theorem add_end {w w1 w2 : World} {k : Nat} {o o2 : Obj} {v1 v2 : Value} {ls : List Lk} {st : Int} {x : ByteArray} {dead : Bool} (hO : Only NoneOf w (w.alloc o)) (h1 : w1.ownsRow (w.heap.size + 1) 71 3 v1 ls.length (flat ls)) (hg1 : ((w.alloc o).drewN k).grownBy w1 none)
    (hg2 : (w1.alloc o2).grownBy w2 v1.ownBlock) (h2 : w2.ownsRow (w.heap.size + 1) 71 3 v2 (ls.length + 1) (flat ls ++ [.int .i64 st, .string x, .bool dead])) (hv : ∀ l ∈ ls, IsV l.val) (hr : Rising ls)
    (h0 : 0 ≤ st) (hst : ∀ a ∈ ls, a.stamp < st) (hfew : ls.length < 3518437208800) :
    DocPost (ls ++ [⟨st, .string x, dead⟩]) 0 w (.returned (.tuple #[v2, .int .i64 0])) w2 := by
  refine ⟨v2, rfl, ⟨?_, ?_, rising_snoc hr h0 hst, by simp; omega⟩, ?_, fun g hg => by have := (row_base h2).2 g hg; omega⟩
  · rw [flat_append, List.length_append]
    exact (row_base h2).1
  · intro l hl
    rcases List.mem_append.1 hl with hl | hl
    · exact hv l hl
    · rw [List.mem_singleton.1 hl]; exact ⟨x, rfl⟩
  · refine (((hO.drewN k).step (only_grown hg1) (fun _ _ e => by simp at e)).alloc o2).step (only_grown hg2) (fun g hg e => ?_)
    have := (row_base h1).2 g e
    omega

set_option maxRecDepth 100000 in
set_option maxHeartbeats 1000000 in
theorem add_take (w : World) (d : Value) (ls : List Lk) (st : Int) (x : ByteArray) (dead : Bool) (h : DocIs w d ls) (h0 : 0 ≤ st) (hst : ∀ a ∈ ls, a.stamp < st) (hfew : ls.length < 3518437208800) :
    Calls Try.prog 50 #[d, .agg #[.int .i64 st, .string x, .bool dead]] w (DocPost (ls ++ [⟨st, .string x, dead⟩]) 0 w) := by
  obtain ⟨i0, hi, hz0, hz1, hz2⟩ := info_parts infoR
  have hd : decide (st < 0) = false := by simp; omega
  have hA := h.keep ((Only.refl NoneOf w).alloc (.cells #[.int .i64 st, .string x, .bool dead] 71))
  have HO := Lib.hid ((Only.refl NoneOf w).alloc (.cells #[.int .i64 st, .string x, .bool dead] 71))
  have HR := Lib.hid hA.row
  have hB := Blk.new w 71 #[.int .i64 st, .string x, .bool dead]
  have HV := Lib.hid h.vals
  have HST := Lib.hid hst
  have HRI := Lib.hid h.rise
  have HF := Lib.hid hfew
  rcases form hA.row h.vals with ⟨rfl, hls⟩ | ⟨g, cap, hdd, hcap, hg, hcs⟩
  · clear hst hfew hA h
    have HL := Lib.hid hls
    clear hls
    go_enter Try.func50, Try.ntmps50
    go_wp2_with fail
    go_quiet (fail)
    go_wp2_with (at_builtin; first | (refine wpList_copy rfl (.tmp 28) rfl _ ls rfl (row_drewN HR.out _) HV.out (Nat.le_of_lt HF.out) ?_; intro v1 w1 hr0 hg1; have hr1 := row_at (m := w.heap.size + 1) hr0 (by simp); have hsz := hg1.size; have hB1 := (hB.only ((Only.refl NoneOf _).drewN nq) (fun h => h)).only (only_grown hg1) (fun e => by simp at e); have b0 := hB1.cellv 0 rfl; have b1 := hB1.cellv 1 rfl; have b2 := hB1.cellv 2 rfl; have hlt := hB1.lt; have hN := Blk.new w1 71 #[.int .i64 st, .string x, .bool dead]) | (refine wpList_append_own _ rfl (.tmp 30) (.tmp 32) 56 rfl (w.heap.size + 1) 71 i0 _ 3 32 Try.underlying56 hi hz0 hz1 hz2 rfl (by decide) v1 ls.length (flat ls) rfl (hr1.alloc _) ⟨w1.heap.size, 0, none⟩ 1 1 [.int .i64 st, .string x, .bool dead] rfl rfl (World.news_of_block hN) (by simp [Value.oneCell']) (by have := HF.out; unfold maxLen; omega) (by have := HF.out; omega) (by simp at hsz ⊢; omega) ?_; intro v2 w2 hr2 hg2 _))
    go_ret2
    exact add_end HO.out hr1 hg1 hg2 hr2 HV.out HRI.out h0 HST.out HF.out
  · obtain ⟨n, hn⟩ : ∃ n, n = ls.length := ⟨_, rfl⟩
    rw [← hn] at hdd hcap hfew
    subst hdd
    have HN := Lib.hid hn
    rcases n with _ | k
    · clear hst hfew hA h hcs hn
      go_enter Try.func50, Try.ntmps50
      go_wp2_with fail
      go_quiet (fail)
      go_wp2_with (at_builtin; first | (refine wpList_copy rfl (.tmp 28) rfl _ ls rfl (row_drewN HR.out _) HV.out (Nat.le_of_lt HF.out) ?_; intro v1 w1 hr0 hg1; have hr1 := row_at (m := w.heap.size + 1) hr0 (by simp); have hsz := hg1.size; have hB1 := (hB.only ((Only.refl NoneOf _).drewN nq) (fun h => h)).only (only_grown hg1) (fun e => by simp at e); have b0 := hB1.cellv 0 rfl; have b1 := hB1.cellv 1 rfl; have b2 := hB1.cellv 2 rfl; have hlt := hB1.lt; have hN := Blk.new w1 71 #[.int .i64 st, .string x, .bool dead]) | (refine wpList_append_own _ rfl (.tmp 30) (.tmp 32) 56 rfl (w.heap.size + 1) 71 i0 _ 3 32 Try.underlying56 hi hz0 hz1 hz2 rfl (by decide) v1 ls.length (flat ls) rfl (hr1.alloc _) ⟨w1.heap.size, 0, none⟩ 1 1 [.int .i64 st, .string x, .bool dead] rfl rfl (World.news_of_block hN) (by simp [Value.oneCell']) (by have := HF.out; unfold maxLen; omega) (by have := HF.out; omega) (by simp at hsz ⊢; omega) ?_; intro v2 w2 hr2 hg2 _))
      go_ret2
      exact add_end HO.out hr1 hg1 hg2 hr2 HV.out HRI.out h0 HST.out HF.out
    · obtain ⟨l, hl⟩ : ∃ l, ls[k]? = some l := ⟨_, List.getElem?_eq_getElem (by omega)⟩
      obtain ⟨y, hy, e0, _, _⟩ := hcs k l hl
      have hlt : l.stamp < st := hst l (List.mem_of_getElem? hl)
      obtain ⟨a, val, b⟩ := l
      simp only at hlt e0
      clear hst hA h hcs hn hl hy
      have hn : decide ((0 : Int) < (k : Int) + 1) = true := by simp
      have hst : decide (st ≤ a) = false := by simp; omega
      go_enter Try.func50, Try.ntmps50
      go_wp2_with fail
      go_quiet (fail)
      go_wp2_with (at_builtin; first | (refine wpList_copy rfl (.tmp 28) rfl _ ls rfl (row_drewN HR.out _) HV.out (Nat.le_of_lt HF.out) ?_; intro v1 w1 hr0 hg1; have hr1 := row_at (m := w.heap.size + 1) hr0 (by simp); have hsz := hg1.size; have hB1 := (hB.only ((Only.refl NoneOf _).drewN nq) (fun h => h)).only (only_grown hg1) (fun e => by simp at e); have b0 := hB1.cellv 0 rfl; have b1 := hB1.cellv 1 rfl; have b2 := hB1.cellv 2 rfl; have hlt := hB1.lt; have hN := Blk.new w1 71 #[.int .i64 st, .string x, .bool dead]) | (refine wpList_append_own _ rfl (.tmp 30) (.tmp 32) 56 rfl (w.heap.size + 1) 71 i0 _ 3 32 Try.underlying56 hi hz0 hz1 hz2 rfl (by decide) v1 ls.length (flat ls) rfl (hr1.alloc _) ⟨w1.heap.size, 0, none⟩ 1 1 [.int .i64 st, .string x, .bool dead] rfl rfl (World.news_of_block hN) (by simp [Value.oneCell']) (by have := HF.out; unfold maxLen; omega) (by have := HF.out; omega) (by simp at hsz ⊢; omega) ?_; intro v2 w2 hr2 hg2 _))
      go_ret2
      exact add_end HO.out hr1 hg1 hg2 hr2 HV.out HRI.out h0 HST.out HF.out

end Rf
end Go.Proofs.Ytkfihfipnbbfcaa
