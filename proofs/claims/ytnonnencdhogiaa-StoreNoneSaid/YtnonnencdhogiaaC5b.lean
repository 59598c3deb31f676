/-
  Layer 13: a chain in memory; Add, Clone, Prune.
-/
import Derived.Test.YtnonnencdhogiaaC3b
import Derived.OwnWalk
import Derived.Deep.AppendLies
import Derived.Deep.RegionLaw
namespace Go.Proofs.Ytnonnencdhogiaa
open Go.RowKit
namespace Cb

/-- How Add ends where it takes the link. -/
def AddPost (p : Nat) (v : Value) (ls : List Lk) (w : World) (e : Ending) (w' : World) : Prop :=
  ∃ v', e = .returned (.int .i64 0) ∧ ChIs w' p v' ls ∧ Only (Foot p v) w w' ∧ ∀ k, Foot p v' k → Foot p v k ∨ w.heap.size ≤ k

/-- How a call ends that is refused. -/
def NoPost (c : Int) (w : World) (e : Ending) (w' : World) : Prop := e = .returned (.int .i64 c) ∧ Only NoneOf w w'

set_option maxHeartbeats 400000 in
theorem add_nil (w : World) (st : Int) (x : (Option Addr × Nat × Nat)) (dead : Bool) : Calls Try.prog 46 #[.pointer none, .agg #[.int .i64 st, Value.slice x.1 x.2.1 x.2.2, .bool dead]] w (NoPost 1 w) := by
  go_enter Try.func46, Try.ntmps46
  go_wp2_with fail
  go_ret
  exact ⟨rfl, (Only.refl _ _).alloc _⟩

set_option maxHeartbeats 400000 in
theorem add_low (w : World) (p : Nat) (v : Value) (ls : List Lk) (st : Int) (x : (Option Addr × Nat × Nat)) (dead : Bool) (h : ChIs w p v ls) (hs : st < 0) :
    Calls Try.prog 46 #[.pointer (some ⟨p, 0, none⟩), .agg #[.int .i64 st, Value.slice x.1 x.2.1 x.2.2, .bool dead]] w (NoPost 130 w) := by
  have hL : ∀ u, ChIs u p v ls → ∃ l is, Hid (Calls Try.prog 53 #[.pointer (some ⟨p, 0, none⟩)] u (TellPost l is u)) ∧ ∃ (a : Int) (y : (Option Addr × Nat × Nat)) (b : Bool), l = #[.int .i64 a, Value.slice y.1 y.2.1 y.2.2, .bool b] := by
    intro u hu
    rcases List.eq_nil_or_concat ls with rfl | ⟨r, l, rfl⟩
    · exact ⟨_, _, Lib.hid (last_empty u p v hu), 0, (none,0,0), false, rfl⟩
    · rw [List.concat_eq_append] at hu
      obtain ⟨y, hy⟩ := hu.vals l (by simp)
      refine ⟨_, _, Lib.hid (last_has u p v r l hu), l.stamp, y, l.dead, ?_⟩
      simp [Lk.cells, hy]
  obtain ⟨l, is, L, a, y, b, rfl⟩ := hL _ (h.alloc (.cells #[.int .i64 st, Value.slice x.1 x.2.1 x.2.2, .bool dead] 92))
  clear hL
  have hB := Blk.new w 92 #[.int .i64 st, Value.slice x.1 x.2.1 x.2.2, .bool dead]
  go_enter Try.func46, Try.ntmps46
  go_wp2_with fail
  refine L.out.mono ?_; rintro e w1 ⟨rfl, ho⟩
  have hO := Lib.hid (((Only.refl NoneOf w).alloc _).trans ho)
  have hB1 := hB.only ho (fun h => h)
  have b0 := hB1.cellv 0 rfl
  have hlt := hB1.lt
  go_wp2_with fail
  go_ret
  exact ⟨rfl, by repeat (first | exact hO.out | refine Only.drew ?_ | refine Only.drewN ?_ _ | refine Only.alloc ?_ _)⟩

set_option maxHeartbeats 400000 in
theorem add_old (w : World) (p : Nat) (v : Value) (ls : List Lk) (l : Lk) (st : Int) (x : (Option Addr × Nat × Nat)) (dead : Bool) (h : ChIs w p v (ls ++ [l])) (h0 : 0 ≤ st) (hs : st ≤ l.stamp) :
    Calls Try.prog 46 #[.pointer (some ⟨p, 0, none⟩), .agg #[.int .i64 st, Value.slice x.1 x.2.1 x.2.2, .bool dead]] w (NoPost 130 w) := by
  have L := Lib.hid (last_has _ p v ls l (h.alloc (.cells #[.int .i64 st, Value.slice x.1 x.2.1 x.2.2, .bool dead] 92)))
  obtain ⟨y, hy⟩ := h.vals l (by simp)
  obtain ⟨a, val, b⟩ := l
  simp only at hy hs
  subst hy
  have hB := Blk.new w 92 #[.int .i64 st, Value.slice x.1 x.2.1 x.2.2, .bool dead]
  go_enter Try.func46, Try.ntmps46
  go_wp2_with fail
  refine L.out.mono ?_; rintro e w1 ⟨rfl, ho⟩
  have hO := Lib.hid (((Only.refl NoneOf w).alloc _).trans ho)
  have hB1 := hB.only ho (fun h => h)
  have b0 := hB1.cellv 0 rfl
  have hlt := hB1.lt
  simp only [Lk.cells]
  go_wp2_with fail
  go_ret
  exact ⟨rfl, by repeat (first | exact hO.out | refine Only.drew ?_ | refine Only.drewN ?_ _ | refine Only.alloc ?_ _)⟩

theorem rising_snoc {ls : List Lk} {l : Lk} (h : Rising ls) (h0 : 0 ≤ l.stamp) (hl : ∀ a ∈ ls, a.stamp < l.stamp) : Rising (ls ++ [l]) := by
  refine ⟨fun a ha => ?_, ?_⟩
  · rcases List.mem_append.1 ha with ha | ha
    · exact h.1 a ha
    · rw [List.mem_singleton.1 ha]; exact h0
  · rw [List.pairwise_append]
    refine ⟨h.2, List.pairwise_singleton _ _, fun a ha b hb => ?_⟩
    rw [List.mem_singleton.1 hb]; exact hl a ha

theorem only_grown {w w' : World} {row : Option Nat} (h : w.grownBy w' row) : Only (fun k => row = some k) w w' :=
  ⟨h.os, h.tape, h.output, h.size, fun k hk hs => h.block k hk (fun e => hs e.symm)⟩

theorem row_keep {w w' : World} {p : Nat} {v : Value} {ls : List Lk} (h : ChIs w p v ls) (ho : Only NoneOf w w') : w'.ownsRow 0 92 3 v ls.length (flat ls) := (h.keep ho).row

/-- The links behind an append, from what the law of append leaves. -/
theorem add_done {w W w2 : World} {p : Nat} {v v' : Value} {ls : List Lk} {st : Int} {x : (Option Addr × Nat × Nat)} {dead : Bool} (h : ChIs w p v ls) (hw : Only NoneOf w W) (hg : W.grownBy w2 v.ownBlock)
    (hown : w2.ownsRow 0 92 3 v' (ls.length + 1) (flat ls ++ [.int .i64 st, Value.slice x.1 x.2.1 x.2.2, .bool dead])) (hat : v'.ownBlock = v.ownBlock ∨ ∃ g, v'.ownBlock = some g ∧ w.heap.size ≤ g ∧ g ≠ p)
    (h0 : 0 ≤ st) (hst : ∀ a ∈ ls, a.stamp < st) (hfew : ls.length < 3518437208800) :
    ChIs (w2.setCell ⟨p, 0, none⟩ v') p v' (ls ++ [⟨st, Value.slice x.1 x.2.1 x.2.2, dead⟩]) ∧ Only (Foot p v) w (w2.setCell ⟨p, 0, none⟩ v') ∧ ∀ k, Foot p v' k → Foot p v k ∨ w.heap.size ≤ k := by
  have hW := h.keep hw
  have hb : Blk w2 p 88 #[v] := hW.blk.only (only_grown hg) (fun e => hW.row_ne e)
  have hne : v'.ownBlock ≠ some p := by
    rcases hat with e | ⟨g, e, _, hgp⟩
    · rw [e]; exact h.row_ne
    · rw [e]; intro hh; exact hgp (by injection hh)
  refine ⟨⟨hb.put 0 v', ?_, ?_, rising_snoc h.rise h0 hst, by simp; omega⟩, ?_, ?_⟩
  · rw [flat_append, flat_one, List.length_append]
    refine row_only (S := (· = p)) hown ((Only.refl (· = p) w2).put (.inl rfl) _) (fun g hg e => hne (by rw [hg, e]))
  · intro l hl
    rcases List.mem_append.1 hl with hl | hl
    · exact h.vals l hl
    · rw [List.mem_singleton.1 hl]; exact ⟨x, rfl⟩
  · exact Only.put (S := Foot p v) ((hw.mono (S' := Foot p v) (fun _ _ h => h.elim)).step (only_grown hg) (fun k _ e => .inr e)) (.inl (.inl rfl)) _
  · rintro k (rfl | hk)
    · exact .inl (.inl rfl)
    · rcases hat with e | ⟨g, e, hge, _⟩
      · exact .inl (.inr (by rw [← e]; exact hk))
      · rw [e] at hk; injection hk with hk; exact .inr (by omega)

set_option maxRecDepth 100000 in
set_option maxHeartbeats 1000000 in
theorem add_take (w : World) (p : Nat) (v : Value) (ls : List Lk) (st : Int) (x : (Option Addr × Nat × Nat)) (dead : Bool) (a : Int) (y : (Option Addr × Nat × Nat)) (b is : Bool) (h : ChIs w p v ls) (h0 : 0 ≤ st) (hst : ∀ a ∈ ls, a.stamp < st)
    (hfew : ls.length < 3518437208800) (ha : is = true → a < st)
    (L : Hid (Calls Try.prog 53 #[.pointer (some ⟨p, 0, none⟩)] (w.alloc (.cells #[.int .i64 st, Value.slice x.1 x.2.1 x.2.2, .bool dead] 92)) (TellPost #[.int .i64 a, Value.slice y.1 y.2.1 y.2.2, .bool b] is (w.alloc (.cells #[.int .i64 st, Value.slice x.1 x.2.1 x.2.2, .bool dead] 92))))) :
    Calls Try.prog 46 #[.pointer (some ⟨p, 0, none⟩), .agg #[.int .i64 st, Value.slice x.1 x.2.1 x.2.2, .bool dead]] w (AddPost p v (ls ++ [⟨st, Value.slice x.1 x.2.1 x.2.2, dead⟩]) w) := by
  obtain ⟨i0, hi, hz0, hz1, hz2⟩ := info_parts infoL
  have hB := Blk.new w 92 #[.int .i64 st, Value.slice x.1 x.2.1 x.2.2, .bool dead]
  have HST := Lib.hid hst
  have HF := Lib.hid hfew
  clear hst hfew
  go_enter Try.func46, Try.ntmps46
  go_wp2_with fail
  refine L.out.mono ?_; rintro e w1 ⟨rfl, ho⟩
  have hO := Lib.hid (((Only.refl NoneOf w).alloc _).trans ho)
  have hB1 := hB.only ho (fun h => h)
  have b0 := hB1.cellv 0 rfl
  have b1 := hB1.cellv 1 rfl
  have b2 := hB1.cellv 2 rfl
  have hlt := hB1.lt
  have h1 := h.keep hO.out
  have c0 := h1.blk.cellv 0 rfl
  have hp := h1.lt
  have hpw := h.lt
  have f0 := h1.blk.free 0
  have hR := ((row_keep h hO.out).alloc (.cells #[.int .i64 a, Value.slice y.1 y.2.1 y.2.2, .bool b] 92)).alloc (.cells #[.int .i64 st, Value.slice x.1 x.2.1 x.2.2, .bool dead] 92)
  have hN := Blk.new' (w1.alloc (.cells #[.int .i64 a, Value.slice y.1 y.2.1 y.2.2, .bool b] 92)) 92 #[.int .i64 st, Value.slice x.1 x.2.1 x.2.2, .bool dead] (n := w1.heap.size + 1) (by simp)
  have hW := Lib.hid ((((hO.out.alloc (.cells #[.int .i64 a, Value.slice y.1 y.2.1 y.2.2, .bool b] 92)).alloc (.cells #[.int .i64 st, Value.slice x.1 x.2.1 x.2.2, .bool dead] 92))).drew)
  cases is with
  | true =>
    have ha' : a < st := ha rfl
    clear ha
    go_wp2_with fail
    go_region_law (refine step_append_lies _ rfl (.tmp 31) (.tmp 33) 86 rfl 0 92 i0 _ 3 40 Try.underlying86 hi hz0 hz1 hz2 rfl (by decide) v ls.length (flat ls) rfl hR.drew ⟨w1.heap.size + 1, 0, none⟩ 1 1 [.int .i64 st, Value.slice x.1 x.2.1 x.2.2, .bool dead] rfl rfl (World.news_of_block (w := ((w1.alloc (.cells #[.int .i64 a, Value.slice y.1 y.2.1 y.2.2, .bool b] 92)).alloc (.cells #[.int .i64 st, Value.slice x.1 x.2.1 x.2.2, .bool dead] 92)).drew) hN) (by simp [Value.oneCell']) (by decide) (by have := HF.out; unfold maxLen; omega) (by have := HF.out; omega) (Nat.zero_le _) (w1.heap.size + 2) (by simp) ?_; intro g cap w2 hown2 hgr hat hlt2; have hb2 := (h.keep hW.out).blk.only (only_grown hgr) (fun e => h.row_ne e); have c2 := hb2.cellv 0 rfl; have f2 := hb2.free 0)
    all_goals go_wp2_with fail
    all_goals go_ret
    all_goals
      obtain ⟨r1, r2, r3⟩ := add_done h hW.out hgr hown2 (by
        rcases hat with e | e
        · exact .inl e.symm
        · exact .inr ⟨g, rfl, by have := hO.out.size; omega, by omega⟩) h0 HST.out HF.out
      exact ⟨_, rfl, r1, r2, r3⟩
  | false =>
    clear ha
    go_wp2_with fail
    go_region_law (refine step_append_lies _ rfl (.tmp 31) (.tmp 33) 86 rfl 0 92 i0 _ 3 40 Try.underlying86 hi hz0 hz1 hz2 rfl (by decide) v ls.length (flat ls) rfl hR.drew ⟨w1.heap.size + 1, 0, none⟩ 1 1 [.int .i64 st, Value.slice x.1 x.2.1 x.2.2, .bool dead] rfl rfl (World.news_of_block (w := ((w1.alloc (.cells #[.int .i64 a, Value.slice y.1 y.2.1 y.2.2, .bool b] 92)).alloc (.cells #[.int .i64 st, Value.slice x.1 x.2.1 x.2.2, .bool dead] 92)).drew) hN) (by simp [Value.oneCell']) (by decide) (by have := HF.out; unfold maxLen; omega) (by have := HF.out; omega) (Nat.zero_le _) (w1.heap.size + 2) (by simp) ?_; intro g cap w2 hown2 hgr hat hlt2; have hb2 := (h.keep hW.out).blk.only (only_grown hgr) (fun e => h.row_ne e); have c2 := hb2.cellv 0 rfl; have f2 := hb2.free 0)
    all_goals go_wp2_with fail
    all_goals go_ret
    all_goals
      obtain ⟨r1, r2, r3⟩ := add_done h hW.out hgr hown2 (by
        rcases hat with e | e
        · exact .inl e.symm
        · exact .inr ⟨g, rfl, by have := hO.out.size; omega, by omega⟩) h0 HST.out HF.out
      exact ⟨_, rfl, r1, r2, r3⟩

/-- Add, where the link is taken. -/
theorem add_ok (w : World) (p : Nat) (v : Value) (ls : List Lk) (st : Int) (x : (Option Addr × Nat × Nat)) (dead : Bool) (h : ChIs w p v ls) (h0 : 0 ≤ st) (hst : ∀ a ∈ ls, a.stamp < st) (hfew : ls.length < 3518437208800) :
    Calls Try.prog 46 #[.pointer (some ⟨p, 0, none⟩), .agg #[.int .i64 st, Value.slice x.1 x.2.1 x.2.2, .bool dead]] w (AddPost p v (ls ++ [⟨st, Value.slice x.1 x.2.1 x.2.2, dead⟩]) w) := by
  have ha := h.alloc (.cells #[.int .i64 st, Value.slice x.1 x.2.1 x.2.2, .bool dead] 92)
  rcases List.eq_nil_or_concat ls with rfl | ⟨r, l, rfl⟩
  · exact add_take w p v [] st x dead 0 (none,0,0) false false h h0 hst hfew (fun e => by cases e) (Lib.hid (last_empty _ p v ha))
  · rw [List.concat_eq_append] at *
    obtain ⟨y, hy⟩ := h.vals l (by simp)
    have L := last_has _ p v r l ha
    have hl := hst l (by simp)
    obtain ⟨a, val, b⟩ := l
    simp only at hy
    subst hy
    exact add_take w p v _ st x dead a y b true h h0 hst hfew (fun _ => hl) (Lib.hid L)

end Cb
end Go.Proofs.Ytnonnencdhogiaa
