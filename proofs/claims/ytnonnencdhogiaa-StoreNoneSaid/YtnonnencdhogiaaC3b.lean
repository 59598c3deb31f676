/-
  Layer 13: a chain in memory; Len, Last.
-/
import Derived.Test.YtnonnencdhogiaaC2
import Derived.RegionTactic
import Derived.ChangeAlike
namespace Go.Proofs.Ytnonnencdhogiaa
open Go.RowKit
namespace Cb

/-- The values that these chains hold. -/
def IsV (v : Value) : Prop := ∃ x : (Option Addr × Nat × Nat), v = Value.slice x.1 x.2.1 x.2.2

/-- Chain p's slice is v; its links are ls. -/
structure ChIs (w : World) (p : Nat) (v : Value) (ls : List Lk) : Prop where
  blk : Blk w p 88 #[v]
  row : w.ownsRow 0 92 3 v ls.length (flat ls)
  vals : ∀ l ∈ ls, IsV l.val
  rise : Rising ls
  few : ls.length ≤ 3518437208800

/-- The blocks that are a chain's own. -/
def Foot (p : Nat) (v : Value) (k : Nat) : Prop := k = p ∨ v.ownBlock = some k

section
variable {w w' : World} {p : Nat} {v : Value} {ls : List Lk} {S : Nat → Prop}

theorem ChIs.lt (h : ChIs w p v ls) : p < w.heap.size := h.blk.lt
theorem ChIs.row_lt (h : ChIs w p v ls) {g : Nat} (hg : v.ownBlock = some g) : g < w.heap.size := by
  rcases h.row.2 with ⟨rfl, _⟩ | ⟨g', cap, cur, rfl, _, hb, _⟩
  · simp [Value.ownBlock] at hg
  · have : g' = g := by simpa [Value.ownBlock] using hg
    subst this
    exact Blk.lt (t := 92) (cs := cur) hb
theorem ChIs.foot_lt (h : ChIs w p v ls) {k : Nat} (hk : Foot p v k) : k < w.heap.size := by
  rcases hk with rfl | hk
  · exact h.lt
  · exact h.row_lt hk
theorem ChIs.row_ne (h : ChIs w p v ls) : v.ownBlock ≠ some p := by
  rcases h.row.2 with ⟨rfl, _⟩ | ⟨g', cap, cur, rfl, _, hb, _⟩
  · simp [Value.ownBlock]
  · intro e
    have : g' = p := by simpa [Value.ownBlock] using e
    subst this
    have hb2 := h.blk
    unfold Blk at hb2
    rw [hb] at hb2
    injection hb2 with hb2
    injection hb2 with _ ht
    revert ht
    decide

theorem row_only {base n : Nat} {xs : List Value} (h : w.ownsRow base 92 3 v n xs) (ho : Only S w w') (hg : ∀ g, v.ownBlock = some g → ¬ S g) : w'.ownsRow base 92 3 v n xs := by
  refine ⟨h.1, ?_⟩
  rcases h.2 with h0 | ⟨g, cap, cur, hv, hb, hh, r⟩
  · exact .inl h0
  · refine .inr ⟨g, cap, cur, hv, hb, ?_, r⟩
    exact Blk.only (t := 92) (cs := cur) hh ho (hg g (by rw [hv]; rfl))
theorem ChIs.only (h : ChIs w p v ls) (ho : Only S w w') (hS : ∀ k, Foot p v k → ¬ S k) : ChIs w' p v ls :=
  ⟨h.blk.only ho (hS p (.inl rfl)), row_only h.row ho (fun g hg => hS g (.inr hg)), h.vals, h.rise, h.few⟩
theorem ChIs.keep (h : ChIs w p v ls) (ho : Only NoneOf w w') : ChIs w' p v ls := h.only ho (fun _ _ h => h)
theorem ChIs.alloc (h : ChIs w p v ls) (o : Obj) : ChIs (w.alloc o) p v ls := h.keep ((Only.refl NoneOf w).alloc o)
theorem ChIs.drewN (h : ChIs w p v ls) (n : Nat) : ChIs (w.drewN n) p v ls := h.keep ((Only.refl NoneOf w).drewN n)

/-- What the slice looks like, and its cells. -/
theorem ChIs.form (h : ChIs w p v ls) : (v = .slice none 0 0 ∧ ls = []) ∨ ∃ g cap, v = .slice (some ⟨g, 0, none⟩) ls.length cap ∧ ls.length ≤ cap ∧ g < w.heap.size ∧
    ∀ (i : Nat) (l : Lk), ls[i]? = some l → ∃ x : (Option Addr × Nat × Nat), l.val = Value.slice x.1 x.2.1 x.2.2 ∧ w.cell? ⟨g, i * 3, none⟩ = some (.int .i64 l.stamp) ∧ w.cell? ⟨g, i * 3 + 1, none⟩ = some (Value.slice x.1 x.2.1 x.2.2) ∧ w.cell? ⟨g, i * 3 + 2, none⟩ = some (.bool l.dead) := by
  rcases h.row.2 with ⟨rfl, h0⟩ | ⟨g, cap, cur, hv, _, hb, hle, _, hsz, hcur⟩
  · exact .inl ⟨rfl, List.eq_nil_of_length_eq_zero h0⟩
  · refine .inr ⟨g, cap, hv, hle, Blk.lt (t := 92) (cs := cur) hb, fun i l hl => ?_⟩
    obtain ⟨x, hx⟩ := h.vals l (List.mem_of_getElem? hl)
    have hi : i < ls.length := (List.getElem?_eq_some_iff.1 hl).1
    have hc : ∀ j, j < 3 → w.cell? ⟨g, i * 3 + j, none⟩ = l.cells[j]? := by
      intro j hj
      rw [Blk.cell (t := 92) (cs := cur) hb, ← flat_get ls i j l hl hj, ← hcur, List.getElem?_take_of_lt (by omega), Array.getElem?_toList]
    exact ⟨x, hx, hc 0 (by omega), by rw [hc 1 (by omega), ← hx]; rfl, hc 2 (by omega)⟩
end

set_option maxHeartbeats 400000 in
theorem len_has (w : World) (p : Nat) (v : Value) (ls : List Lk) (n : Nat) (h : ChIs w p v ls) (hn : ls.length = n) :
    Calls Try.prog 41 #[.pointer (some ⟨p, 0, none⟩)] w fun e w' => e = .returned (.int .i64 n) ∧ w = w' := by
  subst hn
  have c0 := h.blk.cellv 0 rfl
  rcases h.form with ⟨rfl, rfl⟩ | ⟨g, cap, rfl, _, _, _⟩
  · go_enter Try.func41, Try.ntmps41
    go_wp2_with fail
    go_ret
    exact ⟨rfl, rfl⟩
  · go_enter Try.func41, Try.ntmps41
    go_wp2_with fail
    go_ret
    exact ⟨rfl, rfl⟩

theorem len_empty (w : World) (p : Nat) (v : Value) (h : ChIs w p v []) : Calls Try.prog 41 #[.pointer (some ⟨p, 0, none⟩)] w fun e w' => e = .returned (.int .i64 0) ∧ w = w' :=
  len_has w p v [] 0 h rfl

set_option maxHeartbeats 400000 in
theorem len_nil (w : World) : Calls Try.prog 41 #[.pointer none] w fun e w' => e = .returned (.int .i64 0) ∧ w = w' := by
  go_enter Try.func41, Try.ntmps41
  go_wp2_with fail
  go_ret
  exact ⟨rfl, rfl⟩

/-- A link beside a bool; nothing that was there has turned. -/
def TellPost (l : Array Value) (is : Bool) (w : World) (e : Ending) (w' : World) : Prop := e = .returned (.tuple #[.agg l, .bool is]) ∧ Only NoneOf w w'

abbrev zeroLk : Array Value := #[.int .i64 0, (Value.slice none 0 0), .bool false]

set_option maxHeartbeats 400000 in
theorem last_empty (w : World) (p : Nat) (v : Value) (h : ChIs w p v []) : Calls Try.prog 53 #[.pointer (some ⟨p, 0, none⟩)] w (TellPost zeroLk false w) := by
  have L := fun u hu => Lib.hid (len_empty u p v hu)
  go_enter Try.func53, Try.ntmps53
  go_wp2_with fail
  refine (L _ (h.alloc _)).out.mono ?_; rintro e w1 ⟨rfl, rfl⟩
  go_wp2_with fail
  exact bodyPost_ret (v := .tuple #[.agg zeroLk, .bool false]) (by simp [results, Try.results53, go_sem, zeroLk]) rfl ⟨rfl, (Only.refl _ _).alloc _⟩

set_option maxHeartbeats 400000 in
theorem last_nil (w : World) : Calls Try.prog 53 #[.pointer none] w (TellPost zeroLk false w) := by
  have L := fun u => Lib.hid (len_nil u)
  go_enter Try.func53, Try.ntmps53
  go_wp2_with fail
  refine (L _).out.mono ?_; rintro e w1 ⟨rfl, rfl⟩
  go_wp2_with fail
  exact bodyPost_ret (v := .tuple #[.agg zeroLk, .bool false]) (by simp [results, Try.results53, go_sem, zeroLk]) rfl ⟨rfl, (Only.refl _ _).alloc _⟩

set_option maxHeartbeats 400000 in
theorem last_has (w : World) (p : Nat) (v : Value) (ls : List Lk) (l : Lk) (h : ChIs w p v (ls ++ [l])) : Calls Try.prog 53 #[.pointer (some ⟨p, 0, none⟩)] w (TellPost l.cells.toArray true w) := by
  have L := fun u hu => Lib.hid (len_has u p v (ls ++ [l]) (ls.length + 1) hu (by simp))
  have hfew := h.few
  have c0 := (h.alloc (.cells #[.int .i64 0, (Value.slice none 0 0), .bool false] 92)).blk.cellv 0 rfl
  have hz : (w.alloc (.cells #[.int .i64 0, (Value.slice none 0 0), .bool false] 92)).heap.size = w.heap.size + 1 := by simp
  rcases (h.alloc (.cells #[.int .i64 0, (Value.slice none 0 0), .bool false] 92)).form with ⟨_, h0⟩ | ⟨g, cap, rfl, hcap, hg, hc⟩
  · simp at h0
  · obtain ⟨x, hx, e0, e1, e2⟩ := hc ls.length l (by simp)
    clear hc
    have hlen : (ls ++ [l]).length = ls.length + 1 := by simp
    rw [hlen] at c0 hcap hfew h
    simp only [hlen] at L
    clear hlen
    obtain ⟨st, val, dead⟩ := l
    simp only at hx e0 e1 e2
    subst hx
    have hne : (((ls.length + 1 : Nat) : Int) == 0) = false := beq_eq_false_iff_ne.2 (by omega)
    go_enter Try.func53, Try.ntmps53
    go_wp2_with fail
    refine (L _ (h.alloc _)).out.mono ?_; rintro e w1 ⟨rfl, rfl⟩
    go_wp2_with fail
    go_region
    go_wp2_with fail
    exact bodyPost_ret (v := .tuple #[.agg (Lk.cells ⟨st, Value.slice x.1 x.2.1 x.2.2, dead⟩).toArray, .bool true]) (by simp [results, Try.results53, go_sem, Lk.cells]) rfl
      ⟨rfl, by repeat (first | exact Only.refl _ _ | refine Only.drew ?_ | refine Only.drewN ?_ _ | refine Only.alloc ?_ _ | refine Only.put ?_ (.inr (by simp)) _)⟩

theorem infoL : (Try.prog.info? 92).map (fun i => (i.zero, i.size, i.bytes)) = some (some (.agg #[.int .i64 0, (Value.slice none 0 0), .bool false]), 3, 40) := by kernel_rfl

end Cb
end Go.Proofs.Ytnonnencdhogiaa
