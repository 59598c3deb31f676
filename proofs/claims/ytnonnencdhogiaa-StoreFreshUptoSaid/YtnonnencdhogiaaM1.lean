/-
  Texts of this proof, laid together: Heap, C1, C2, C3b, C5b, C3bb, C4b, C6b, S1, S2, Rows1, S3, S4, S5, S6, Quiet1, Head1.
-/
import Derived.Test.YtnonnencdhogiaaRows
import Derived.Below
import Derived.Laws.OwnMore
import Derived.Laws.Rows
import Derived.Deep.Draws
import Derived.WalkKit
import Derived.WalkSpells
import Derived.WalkLawsBesides
import Derived.Deep.QuietTactic
import Derived.BigQuiet
import Derived.Lib.Hide
import Derived.Deep.LoopGhost
import Derived.RegionTactic
import Derived.ChangeAlike
import Derived.OwnWalk
import Derived.Deep.AppendLies
import Derived.Deep.RegionLaw
import Derived.Maps.Own
import Derived.Maps.Views
import Derived.Maps.OwnOps
import Derived.StillTailTactics
import Derived.Deep.Quiet
import Derived.StillTail
/-
  Words for memory that hang on no program: a block that is known whole; a world in which only some blocks, and new ones, have turned.
-/
namespace Go.Proofs.Ytnonnencdhogiaa
open Go.RowKit

/-- Block b is known whole: its cells, their type, nothing frozen. -/
def Blk (w : World) (b : Nat) (t : TypeId) (cs : Array Value) : Prop := w.heap[b]? = some (.cells cs t (0, 0))

/-- From w to w' only blocks of S, and new ones, have turned. -/
structure Only (S : Nat → Prop) (w w' : World) : Prop where
  os : w'.os = w.os
  tape : w'.tape = w.tape
  output : w'.output = w.output
  size : w.heap.size ≤ w'.heap.size
  block : ∀ k, k < w.heap.size → ¬ S k → w'.heap[k]? = w.heap[k]?

/-- nothing that was there has turned -/
abbrev NoneOf : Nat → Prop := fun _ => False

section
variable {w w' w'' : World} {b b' : Nat} {t : TypeId} {cs : Array Value} {S S' : Nat → Prop}

theorem Blk.lt (h : Blk w b t cs) : b < w.heap.size := by
  unfold Blk at h
  rcases Nat.lt_or_ge b w.heap.size with hl | hl
  · exact hl
  · rw [Array.getElem?_eq_none hl] at h; cases h
theorem Blk.cell (h : Blk w b t cs) (i : Nat) : w.cell? ⟨b, i, none⟩ = cs[i]? := cell_of_row w b i cs t (0, 0) h
theorem Blk.cellv (h : Blk w b t cs) (i : Nat) {v : Value} (hv : cs[i]? = some v) : w.cell? ⟨b, i, none⟩ = some v := (h.cell i).trans hv
theorem Blk.free (h : Blk w b t cs) (i : Nat) : w.frozen? ⟨b, i, none⟩ = false := by
  unfold Blk at h; simp [World.frozen?, h]
theorem Blk.new (w : World) (t : TypeId) (cs : Array Value) : Blk (w.alloc (.cells cs t)) w.heap.size t cs := heap_alloc_new w _
theorem Blk.new' (w : World) (t : TypeId) (cs : Array Value) {n : Nat} (hn : n = w.heap.size) : Blk (w.alloc (.cells cs t)) n t cs := hn ▸ heap_alloc_new w _
theorem Blk.drew (h : Blk w b t cs) : Blk w.drew b t cs := h
theorem Blk.drewN (h : Blk w b t cs) (n : Nat) : Blk (w.drewN n) b t cs := h
theorem Blk.alloc (h : Blk w b t cs) (o : Obj) : Blk (w.alloc o) b t cs := (Below.heap_alloc w o b h.lt).trans h
theorem Blk.put (h : Blk w b t cs) (i : Nat) (u : Value) : Blk (w.setCell ⟨b, i, none⟩ u) b t (cs.setIfInBounds i u) := by
  unfold Blk at h ⊢; simp [World.setCell, Array.getElem?_modify, h]
theorem Blk.far (h : Blk w b t cs) {p : Addr} (hp : b ≠ p.block) (u : Value) : Blk (w.setCell p u) b t cs := (Below.heap_setCell w p u b hp).trans h
theorem Blk.only (h : Blk w b t cs) (ho : Only S w w') (hb : ¬ S b) : Blk w' b t cs := (ho.block b h.lt hb).trans h
theorem Blk.below {B : Nat} (h : Blk w b t cs) (hb : Below B w w') (hlt : b < B) : Blk w' b t cs := (hb.block b hlt).trans h
theorem Blk.uniq {t' : TypeId} {cs' : Array Value} (h : Blk w b t cs) (h' : Blk w b t' cs') : cs = cs' := by
  unfold Blk at h h'; rw [h] at h'; injection h' with h'; injection h'

theorem Only.refl (S : Nat → Prop) (w : World) : Only S w w := ⟨rfl, rfl, rfl, Nat.le_refl _, fun _ _ _ => rfl⟩
theorem Only.trans (h : Only S w w') (k : Only S w' w'') : Only S w w'' :=
  ⟨k.os.trans h.os, k.tape.trans h.tape, k.output.trans h.output, Nat.le_trans h.size k.size, fun i hi hs => (k.block i (Nat.lt_of_lt_of_le hi h.size) hs).trans (h.block i hi hs)⟩
theorem Only.mono (h : Only S w w') (hS : ∀ k, k < w.heap.size → S k → S' k) : Only S' w w' :=
  ⟨h.os, h.tape, h.output, h.size, fun i hi hs => h.block i hi fun k => hs (hS i hi k)⟩
/-- two steps; the second may touch what the first has made -/
theorem Only.step (h : Only S w w') (k : Only S' w' w'') (hS : ∀ k, k < w.heap.size → S' k → S k) : Only S w w'' :=
  ⟨k.os.trans h.os, k.tape.trans h.tape, k.output.trans h.output, Nat.le_trans h.size k.size, fun i hi hs => (k.block i (Nat.lt_of_lt_of_le hi h.size) fun x => hs (hS i hi x)).trans (h.block i hi hs)⟩
theorem Only.drew (h : Only S w w') : Only S w w'.drew := ⟨h.os, h.tape, h.output, h.size, h.block⟩
theorem Only.drewN (h : Only S w w') (n : Nat) : Only S w (w'.drewN n) := ⟨h.os, h.tape, h.output, h.size, h.block⟩
theorem Only.alloc (h : Only S w w') (o : Obj) : Only S w (w'.alloc o) :=
  ⟨h.os, h.tape, h.output, Nat.le_trans h.size (by simp), fun i hi hs => (Below.heap_alloc w' o i (Nat.lt_of_lt_of_le hi h.size)).trans (h.block i hi hs)⟩
theorem Only.put (h : Only S w w') {p : Addr} (hp : S p.block ∨ w.heap.size ≤ p.block) (u : Value) : Only S w (w'.setCell p u) :=
  ⟨h.os, h.tape, h.output, by simpa [World.setCell] using h.size, fun i hi hs => (Below.heap_setCell w' p u i (by
    rintro rfl
    rcases hp with hp | hp
    · exact hs hp
    · omega)).trans (h.block i hi hs)⟩
theorem Only.below {B : Nat} (h : Only S w w') (hS : ∀ k, S k → B ≤ k) (hB : B ≤ w.heap.size) : Below B w w' :=
  ⟨h.os, h.tape, h.output, h.size, fun k hk => h.block k (by omega) fun hs => by have := hS k hs; omega⟩
theorem Only.of_below (h : Below w.heap.size w w') (S : Nat → Prop) : Only S w w' := ⟨h.os, h.tape, h.output, h.size, fun i hi _ => h.block i hi⟩
theorem Only.cell (h : Only S w w') {p : Addr} (hp : p.block < w.heap.size) (hs : ¬ S p.block) : w'.cell? p = w.cell? p := World.cell?_of_block (w := w) (h.block p.block hp hs)
theorem Only.frozen (h : Only S w w') {p : Addr} (hp : p.block < w.heap.size) (hs : ¬ S p.block) : w'.frozen? p = w.frozen? p := World.frozen?_of_block (w := w) (h.block p.block hp hs)

end
end Go.Proofs.Ytnonnencdhogiaa

/-
  Layer 13: a chain's links as numbers and values; what counts at a stamp. No program here.
-/
namespace Go.Proofs.Ytnonnencdhogiaa
open Go.RowKit

/-- A link: its value as the cell that holds it. -/
structure Lk where
  stamp : Int
  val : Value
  dead : Bool

def Lk.cells (l : Lk) : List Value := [.int .i64 l.stamp, l.val, .bool l.dead]
def flat (ls : List Lk) : List Value := ls.flatMap Lk.cells

theorem flat_length (ls : List Lk) : (flat ls).length = ls.length * 3 := by
  induction ls with
  | nil => rfl
  | cons l ls ih => simp only [flat, List.flatMap_cons, List.length_append, List.length_cons, Lk.cells, List.length_nil] at ih ⊢; omega
theorem flat_append (a b : List Lk) : flat (a ++ b) = flat a ++ flat b := by simp [flat]
theorem flat_one (l : Lk) : flat [l] = l.cells := by simp [flat]
theorem flat_drop (ls : List Lk) (k : Nat) : (flat ls).drop (k * 3) = flat (ls.drop k) := by
  induction ls generalizing k with
  | nil => simp [flat]
  | cons l ls ih =>
    cases k with
    | zero => simp
    | succ k =>
      have e : (k + 1) * 3 = 3 + k * 3 := by omega
      rw [e, List.drop_succ_cons, ← ih k]
      show ((l.cells ++ flat ls).drop (3 + k * 3)) = _
      rw [List.drop_append]
      have : l.cells.length = 3 := rfl
      rw [this, List.drop_of_length_le (by rw [this]; omega)]
      simp
theorem flat_get (ls : List Lk) (i j : Nat) (l : Lk) (h : ls[i]? = some l) (hj : j < 3) : (flat ls)[i * 3 + j]? = l.cells[j]? := by
  have h1 : (flat ls)[i * 3 + j]? = ((flat ls).drop (i * 3))[j]? := by rw [List.getElem?_drop]
  rw [h1, flat_drop]
  have hi : i < ls.length := (List.getElem?_eq_some_iff.1 h).1
  have h2 : ls.drop i = l :: ls.drop (i + 1) := by
    rw [List.drop_eq_getElem_cons hi]
    congr 1
    exact (List.getElem?_eq_some_iff.1 h).2
  rw [h2]
  show (l.cells ++ flat _)[j]? = _
  rw [List.getElem?_append_left (by show j < 3; exact hj)]

/-- Stamps rise, from 0 on. -/
def Rising (ls : List Lk) : Prop := (∀ l ∈ ls, 0 ≤ l.stamp) ∧ ls.Pairwise fun a b => a.stamp < b.stamp

/-- How many links have a stamp at or below s. -/
def cnt (ls : List Lk) (s : Int) : Nat := (ls.takeWhile fun l => decide (l.stamp ≤ s)).length

theorem cnt_le (ls : List Lk) (s : Int) : cnt ls s ≤ ls.length := by
  unfold cnt
  induction ls with
  | nil => simp
  | cons l ls ih => simp only [List.takeWhile_cons]; split <;> simp <;> omega

theorem cnt_lt {ls : List Lk} {s : Int} {i : Nat} {l : Lk} (hi : i < cnt ls s) (hl : ls[i]? = some l) : l.stamp ≤ s := by
  induction ls generalizing i with
  | nil => simp at hl
  | cons x ls ih =>
    unfold cnt at hi
    simp only [List.takeWhile_cons] at hi
    split at hi
    · rename_i hx
      cases i with
      | zero => simp at hl; subst hl; simpa using hx
      | succ i => simp only [List.length_cons] at hi; exact ih (i := i) (by unfold cnt; omega) (by simpa using hl)
    · simp at hi

theorem cnt_ge {ls : List Lk} (hr : ls.Pairwise fun a b => a.stamp < b.stamp) {s : Int} {i : Nat} {l : Lk} (hi : cnt ls s ≤ i) (hl : ls[i]? = some l) : s < l.stamp := by
  induction ls generalizing i with
  | nil => simp at hl
  | cons x ls ih =>
    rw [List.pairwise_cons] at hr
    unfold cnt at hi
    simp only [List.takeWhile_cons] at hi
    split at hi
    · cases i with
      | zero => simp at hi
      | succ i => simp only [List.length_cons] at hi; exact ih hr.2 (i := i) (by unfold cnt; omega) (by simpa using hl)
    · rename_i hx
      simp only [decide_eq_true_eq] at hx
      cases i with
      | zero => simp at hl; subst hl; omega
      | succ i =>
        have hm : l ∈ ls := List.mem_of_getElem? (by simpa using hl)
        have := hr.1 l hm
        omega

end Go.Proofs.Ytnonnencdhogiaa

/-
  sort.Search over a closure that makes memory and changes none: how many places say no.
-/
namespace Go.Proofs.Ytnonnencdhogiaa
open Go.RowKit

/-- What Search is told at the place i. -/
def SearchAsks (g : Nat) (cb : Array Value) (n : Nat) (p : Nat → Bool) (w : World) : Prop :=
  ∀ (u : World) (i : Nat), Only NoneOf w u → i < n → Calls Try.prog g (#[.int .i64 i] ++ cb) u fun e u' => e = .returned (.bool (p i)) ∧ Only NoneOf u u'

def SearchRel (w : World) (n c : Nat) (v5 v6 : Value) (wr : World) : Prop :=
  ∃ lo hi : Nat, v5 = .int .i64 lo ∧ v6 = .int .i64 hi ∧ lo ≤ c ∧ c ≤ hi ∧ hi ≤ n ∧ Only NoneOf w wr

set_option maxHeartbeats 2000000 in
theorem search_any (g : Nat) (cb : Array Value) (n c : Nat) (p : Nat → Bool) (w : World) (hn : n ≤ 4611686018427387904) (hc : c ≤ n) (hlo : ∀ i, i < c → p i = false) (hhi : ∀ i, c ≤ i → i < n → p i = true)
    (eg : ∀ args w, (callFunc g args).run Try.prog w = .ok (.enter g args) w) (hf : SearchAsks g cb n p w) :
    Calls Try.prog 84 #[.int .i64 n, .func (.func g) #[] cb] w fun e w' => e = .returned (.int .i64 c) ∧ Only NoneOf w w' := by
  have HL := Lib.hid hlo
  have HH := Lib.hid hhi
  have HF := Lib.hid hf
  clear hlo hhi hf
  go_enter Try.func84, Try.ntmps84
  go_wp2
  go_loopw [5, 6] (fun v5 v6 wr => SearchRel w n c v5 v6 wr) (fun v5 v6 _ => (intOf v6).toNat - (intOf v5).toNat)
  case atStart => exact ⟨0, n, rfl, rfl, Nat.zero_le _, hc, Nat.le_refl _, Only.refl _ _⟩
  case round =>
    obtain ⟨lo, hi, rfl, rfl, h1, h2, h3, ho⟩ := hrel
    by_cases hlt : lo < hi
    · have hm := HF.out wr ((lo + hi) / 2) ho (by omega)
      rw [show (((lo + hi) / 2 : Nat) : Int) = ((lo : Int) + (hi : Int)) / 2 by omega] at hm
      by_cases hp : (lo + hi) / 2 < c
      · rw [HL.out _ hp] at hm
        have HM := Lib.hid hm
        clear hm
        go_wp2_with fail
        refine HM.out.mono ?_; rintro e w1 ⟨rfl, ho1⟩
        go_wp2_with fail
        go_roundw
        case rel => exact ⟨(lo + hi) / 2 + 1, hi, by go_num, rfl, by omega, h2, h3, ho.trans ho1⟩
        case measure => simp [intOf]; omega
      · rw [HH.out _ (by omega) (by omega)] at hm
        have HM := Lib.hid hm
        clear hm
        go_wp2_with fail
        refine HM.out.mono ?_; rintro e w1 ⟨rfl, ho1⟩
        go_wp2_with fail
        go_roundw
        case rel => exact ⟨lo, (lo + hi) / 2, rfl, by go_num, h1, by omega, by omega, ho.trans ho1⟩
        case measure => simp [intOf]; omega
    · obtain rfl : lo = c := by omega
      go_wp2_with fail
      go_ret
      exact ⟨rfl, ho⟩

end Go.Proofs.Ytnonnencdhogiaa

/-
  Layer 13: a chain in memory; Len, Last.
-/
namespace Go.Proofs.Ytnonnencdhogiaa
open Go.RowKit
namespace Cb

/-- The values that these chains hold. -/
def IsV (v : Value) : Prop := ∃ x : (Option Addr × Nat × Nat), v = Value.slice x.1 x.2.1 x.2.2

/-- Chain p's slice is v; its links are ls. -/
structure ChIs (w : World) (p : Nat) (v : Value) (ls : List Lk) : Prop where
  blk : Blk w p 88 #[v]
  row : w.ownsRow 0 92 3 v ls.length (flat ls)
  vals : ∀ l ∈ ls, IsV l.val
  rise : Rising ls
  few : ls.length ≤ 3518437208800

/-- The blocks that are a chain's own. -/
def Foot (p : Nat) (v : Value) (k : Nat) : Prop := k = p ∨ v.ownBlock = some k

section
variable {w w' : World} {p : Nat} {v : Value} {ls : List Lk} {S : Nat → Prop}

theorem ChIs.lt (h : ChIs w p v ls) : p < w.heap.size := h.blk.lt
theorem ChIs.row_lt (h : ChIs w p v ls) {g : Nat} (hg : v.ownBlock = some g) : g < w.heap.size := by
  rcases h.row.2 with ⟨rfl, _⟩ | ⟨g', cap, cur, rfl, _, hb, _⟩
  · simp [Value.ownBlock] at hg
  · have : g' = g := by simpa [Value.ownBlock] using hg
    subst this
    exact Blk.lt (t := 92) (cs := cur) hb
theorem ChIs.foot_lt (h : ChIs w p v ls) {k : Nat} (hk : Foot p v k) : k < w.heap.size := by
  rcases hk with rfl | hk
  · exact h.lt
  · exact h.row_lt hk
theorem ChIs.row_ne (h : ChIs w p v ls) : v.ownBlock ≠ some p := by
  rcases h.row.2 with ⟨rfl, _⟩ | ⟨g', cap, cur, rfl, _, hb, _⟩
  · simp [Value.ownBlock]
  · intro e
    have : g' = p := by simpa [Value.ownBlock] using e
    subst this
    have hb2 := h.blk
    unfold Blk at hb2
    rw [hb] at hb2
    injection hb2 with hb2
    injection hb2 with _ ht
    revert ht
    decide

theorem row_only {base n : Nat} {xs : List Value} (h : w.ownsRow base 92 3 v n xs) (ho : Only S w w') (hg : ∀ g, v.ownBlock = some g → ¬ S g) : w'.ownsRow base 92 3 v n xs := by
  refine ⟨h.1, ?_⟩
  rcases h.2 with h0 | ⟨g, cap, cur, hv, hb, hh, r⟩
  · exact .inl h0
  · refine .inr ⟨g, cap, cur, hv, hb, ?_, r⟩
    exact Blk.only (t := 92) (cs := cur) hh ho (hg g (by rw [hv]; rfl))
theorem ChIs.only (h : ChIs w p v ls) (ho : Only S w w') (hS : ∀ k, Foot p v k → ¬ S k) : ChIs w' p v ls :=
  ⟨h.blk.only ho (hS p (.inl rfl)), row_only h.row ho (fun g hg => hS g (.inr hg)), h.vals, h.rise, h.few⟩
theorem ChIs.keep (h : ChIs w p v ls) (ho : Only NoneOf w w') : ChIs w' p v ls := h.only ho (fun _ _ h => h)
theorem ChIs.alloc (h : ChIs w p v ls) (o : Obj) : ChIs (w.alloc o) p v ls := h.keep ((Only.refl NoneOf w).alloc o)
theorem ChIs.drewN (h : ChIs w p v ls) (n : Nat) : ChIs (w.drewN n) p v ls := h.keep ((Only.refl NoneOf w).drewN n)

/-- What the slice looks like, and its cells. -/
theorem ChIs.form (h : ChIs w p v ls) : (v = .slice none 0 0 ∧ ls = []) ∨ ∃ g cap, v = .slice (some ⟨g, 0, none⟩) ls.length cap ∧ ls.length ≤ cap ∧ g < w.heap.size ∧
    ∀ (i : Nat) (l : Lk), ls[i]? = some l → ∃ x : (Option Addr × Nat × Nat), l.val = Value.slice x.1 x.2.1 x.2.2 ∧ w.cell? ⟨g, i * 3, none⟩ = some (.int .i64 l.stamp) ∧ w.cell? ⟨g, i * 3 + 1, none⟩ = some (Value.slice x.1 x.2.1 x.2.2) ∧ w.cell? ⟨g, i * 3 + 2, none⟩ = some (.bool l.dead) := by
  rcases h.row.2 with ⟨rfl, h0⟩ | ⟨g, cap, cur, hv, _, hb, hle, _, hsz, hcur⟩
  · exact .inl ⟨rfl, List.eq_nil_of_length_eq_zero h0⟩
  · refine .inr ⟨g, cap, hv, hle, Blk.lt (t := 92) (cs := cur) hb, fun i l hl => ?_⟩
    obtain ⟨x, hx⟩ := h.vals l (List.mem_of_getElem? hl)
    have hi : i < ls.length := (List.getElem?_eq_some_iff.1 hl).1
    have hc : ∀ j, j < 3 → w.cell? ⟨g, i * 3 + j, none⟩ = l.cells[j]? := by
      intro j hj
      rw [Blk.cell (t := 92) (cs := cur) hb, ← flat_get ls i j l hl hj, ← hcur, List.getElem?_take_of_lt (by omega), Array.getElem?_toList]
    exact ⟨x, hx, hc 0 (by omega), by rw [hc 1 (by omega), ← hx]; rfl, hc 2 (by omega)⟩
end

set_option maxHeartbeats 400000 in
theorem len_has (w : World) (p : Nat) (v : Value) (ls : List Lk) (n : Nat) (h : ChIs w p v ls) (hn : ls.length = n) :
    Calls Try.prog 41 #[.pointer (some ⟨p, 0, none⟩)] w fun e w' => e = .returned (.int .i64 n) ∧ w = w' := by
  subst hn
  have c0 := h.blk.cellv 0 rfl
  rcases h.form with ⟨rfl, rfl⟩ | ⟨g, cap, rfl, _, _, _⟩
  · go_enter Try.func41, Try.ntmps41
    go_wp2_with fail
    go_ret
    exact ⟨rfl, rfl⟩
  · go_enter Try.func41, Try.ntmps41
    go_wp2_with fail
    go_ret
    exact ⟨rfl, rfl⟩

theorem len_empty (w : World) (p : Nat) (v : Value) (h : ChIs w p v []) : Calls Try.prog 41 #[.pointer (some ⟨p, 0, none⟩)] w fun e w' => e = .returned (.int .i64 0) ∧ w = w' :=
  len_has w p v [] 0 h rfl

set_option maxHeartbeats 400000 in
theorem len_nil (w : World) : Calls Try.prog 41 #[.pointer none] w fun e w' => e = .returned (.int .i64 0) ∧ w = w' := by
  go_enter Try.func41, Try.ntmps41
  go_wp2_with fail
  go_ret
  exact ⟨rfl, rfl⟩

/-- A link beside a bool; nothing that was there has turned. -/
def TellPost (l : Array Value) (is : Bool) (w : World) (e : Ending) (w' : World) : Prop := e = .returned (.tuple #[.agg l, .bool is]) ∧ Only NoneOf w w'

abbrev zeroLk : Array Value := #[.int .i64 0, (Value.slice none 0 0), .bool false]

set_option maxHeartbeats 400000 in
theorem last_empty (w : World) (p : Nat) (v : Value) (h : ChIs w p v []) : Calls Try.prog 53 #[.pointer (some ⟨p, 0, none⟩)] w (TellPost zeroLk false w) := by
  have L := fun u hu => Lib.hid (len_empty u p v hu)
  go_enter Try.func53, Try.ntmps53
  go_wp2_with fail
  refine (L _ (h.alloc _)).out.mono ?_; rintro e w1 ⟨rfl, rfl⟩
  go_wp2_with fail
  exact bodyPost_ret (v := .tuple #[.agg zeroLk, .bool false]) (by simp [results, Try.results53, go_sem, zeroLk]) rfl ⟨rfl, (Only.refl _ _).alloc _⟩

set_option maxHeartbeats 400000 in
theorem last_nil (w : World) : Calls Try.prog 53 #[.pointer none] w (TellPost zeroLk false w) := by
  have L := fun u => Lib.hid (len_nil u)
  go_enter Try.func53, Try.ntmps53
  go_wp2_with fail
  refine (L _).out.mono ?_; rintro e w1 ⟨rfl, rfl⟩
  go_wp2_with fail
  exact bodyPost_ret (v := .tuple #[.agg zeroLk, .bool false]) (by simp [results, Try.results53, go_sem, zeroLk]) rfl ⟨rfl, (Only.refl _ _).alloc _⟩

set_option maxHeartbeats 400000 in
theorem last_has (w : World) (p : Nat) (v : Value) (ls : List Lk) (l : Lk) (h : ChIs w p v (ls ++ [l])) : Calls Try.prog 53 #[.pointer (some ⟨p, 0, none⟩)] w (TellPost l.cells.toArray true w) := by
  have L := fun u hu => Lib.hid (len_has u p v (ls ++ [l]) (ls.length + 1) hu (by simp))
  have hfew := h.few
  have c0 := (h.alloc (.cells #[.int .i64 0, (Value.slice none 0 0), .bool false] 92)).blk.cellv 0 rfl
  have hz : (w.alloc (.cells #[.int .i64 0, (Value.slice none 0 0), .bool false] 92)).heap.size = w.heap.size + 1 := by simp
  rcases (h.alloc (.cells #[.int .i64 0, (Value.slice none 0 0), .bool false] 92)).form with ⟨_, h0⟩ | ⟨g, cap, rfl, hcap, hg, hc⟩
  · simp at h0
  · obtain ⟨x, hx, e0, e1, e2⟩ := hc ls.length l (by simp)
    clear hc
    have hlen : (ls ++ [l]).length = ls.length + 1 := by simp
    rw [hlen] at c0 hcap hfew h
    simp only [hlen] at L
    clear hlen
    obtain ⟨st, val, dead⟩ := l
    simp only at hx e0 e1 e2
    subst hx
    have hne : (((ls.length + 1 : Nat) : Int) == 0) = false := beq_eq_false_iff_ne.2 (by omega)
    go_enter Try.func53, Try.ntmps53
    go_wp2_with fail
    refine (L _ (h.alloc _)).out.mono ?_; rintro e w1 ⟨rfl, rfl⟩
    go_wp2_with fail
    go_region
    go_wp2_with fail
    exact bodyPost_ret (v := .tuple #[.agg (Lk.cells ⟨st, Value.slice x.1 x.2.1 x.2.2, dead⟩).toArray, .bool true]) (by simp [results, Try.results53, go_sem, Lk.cells]) rfl
      ⟨rfl, by repeat (first | exact Only.refl _ _ | refine Only.drew ?_ | refine Only.drewN ?_ _ | refine Only.alloc ?_ _ | refine Only.put ?_ (.inr (by simp)) _)⟩

theorem infoL : (Try.prog.info? 92).map (fun i => (i.zero, i.size, i.bytes)) = some (some (.agg #[.int .i64 0, (Value.slice none 0 0), .bool false]), 3, 40) := by kernel_rfl

end Cb
end Go.Proofs.Ytnonnencdhogiaa

/-
  Layer 13: a chain in memory; Add, Clone, Prune.
-/
namespace Go.Proofs.Ytnonnencdhogiaa
open Go.RowKit
namespace Cb

/-- How Add ends where it takes the link. -/
def AddPost (p : Nat) (v : Value) (ls : List Lk) (w : World) (e : Ending) (w' : World) : Prop :=
  ∃ v', e = .returned (.int .i64 0) ∧ ChIs w' p v' ls ∧ Only (Foot p v) w w' ∧ ∀ k, Foot p v' k → Foot p v k ∨ w.heap.size ≤ k

/-- How a call ends that is refused. -/
def NoPost (c : Int) (w : World) (e : Ending) (w' : World) : Prop := e = .returned (.int .i64 c) ∧ Only NoneOf w w'

set_option maxHeartbeats 400000 in
theorem add_nil (w : World) (st : Int) (x : (Option Addr × Nat × Nat)) (dead : Bool) : Calls Try.prog 46 #[.pointer none, .agg #[.int .i64 st, Value.slice x.1 x.2.1 x.2.2, .bool dead]] w (NoPost 1 w) := by
  go_enter Try.func46, Try.ntmps46
  go_wp2_with fail
  go_ret
  exact ⟨rfl, (Only.refl _ _).alloc _⟩

set_option maxHeartbeats 400000 in
theorem add_low (w : World) (p : Nat) (v : Value) (ls : List Lk) (st : Int) (x : (Option Addr × Nat × Nat)) (dead : Bool) (h : ChIs w p v ls) (hs : st < 0) :
    Calls Try.prog 46 #[.pointer (some ⟨p, 0, none⟩), .agg #[.int .i64 st, Value.slice x.1 x.2.1 x.2.2, .bool dead]] w (NoPost 130 w) := by
  have hL : ∀ u, ChIs u p v ls → ∃ l is, Hid (Calls Try.prog 53 #[.pointer (some ⟨p, 0, none⟩)] u (TellPost l is u)) ∧ ∃ (a : Int) (y : (Option Addr × Nat × Nat)) (b : Bool), l = #[.int .i64 a, Value.slice y.1 y.2.1 y.2.2, .bool b] := by
    intro u hu
    rcases List.eq_nil_or_concat ls with rfl | ⟨r, l, rfl⟩
    · exact ⟨_, _, Lib.hid (last_empty u p v hu), 0, (none,0,0), false, rfl⟩
    · rw [List.concat_eq_append] at hu
      obtain ⟨y, hy⟩ := hu.vals l (by simp)
      refine ⟨_, _, Lib.hid (last_has u p v r l hu), l.stamp, y, l.dead, ?_⟩
      simp [Lk.cells, hy]
  obtain ⟨l, is, L, a, y, b, rfl⟩ := hL _ (h.alloc (.cells #[.int .i64 st, Value.slice x.1 x.2.1 x.2.2, .bool dead] 92))
  clear hL
  have hB := Blk.new w 92 #[.int .i64 st, Value.slice x.1 x.2.1 x.2.2, .bool dead]
  go_enter Try.func46, Try.ntmps46
  go_wp2_with fail
  refine L.out.mono ?_; rintro e w1 ⟨rfl, ho⟩
  have hO := Lib.hid (((Only.refl NoneOf w).alloc _).trans ho)
  have hB1 := hB.only ho (fun h => h)
  have b0 := hB1.cellv 0 rfl
  have hlt := hB1.lt
  go_wp2_with fail
  go_ret
  exact ⟨rfl, by repeat (first | exact hO.out | refine Only.drew ?_ | refine Only.drewN ?_ _ | refine Only.alloc ?_ _)⟩

set_option maxHeartbeats 400000 in
theorem add_old (w : World) (p : Nat) (v : Value) (ls : List Lk) (l : Lk) (st : Int) (x : (Option Addr × Nat × Nat)) (dead : Bool) (h : ChIs w p v (ls ++ [l])) (h0 : 0 ≤ st) (hs : st ≤ l.stamp) :
    Calls Try.prog 46 #[.pointer (some ⟨p, 0, none⟩), .agg #[.int .i64 st, Value.slice x.1 x.2.1 x.2.2, .bool dead]] w (NoPost 130 w) := by
  have L := Lib.hid (last_has _ p v ls l (h.alloc (.cells #[.int .i64 st, Value.slice x.1 x.2.1 x.2.2, .bool dead] 92)))
  obtain ⟨y, hy⟩ := h.vals l (by simp)
  obtain ⟨a, val, b⟩ := l
  simp only at hy hs
  subst hy
  have hB := Blk.new w 92 #[.int .i64 st, Value.slice x.1 x.2.1 x.2.2, .bool dead]
  go_enter Try.func46, Try.ntmps46
  go_wp2_with fail
  refine L.out.mono ?_; rintro e w1 ⟨rfl, ho⟩
  have hO := Lib.hid (((Only.refl NoneOf w).alloc _).trans ho)
  have hB1 := hB.only ho (fun h => h)
  have b0 := hB1.cellv 0 rfl
  have hlt := hB1.lt
  simp only [Lk.cells]
  go_wp2_with fail
  go_ret
  exact ⟨rfl, by repeat (first | exact hO.out | refine Only.drew ?_ | refine Only.drewN ?_ _ | refine Only.alloc ?_ _)⟩

theorem rising_snoc {ls : List Lk} {l : Lk} (h : Rising ls) (h0 : 0 ≤ l.stamp) (hl : ∀ a ∈ ls, a.stamp < l.stamp) : Rising (ls ++ [l]) := by
  refine ⟨fun a ha => ?_, ?_⟩
  · rcases List.mem_append.1 ha with ha | ha
    · exact h.1 a ha
    · rw [List.mem_singleton.1 ha]; exact h0
  · rw [List.pairwise_append]
    refine ⟨h.2, List.pairwise_singleton _ _, fun a ha b hb => ?_⟩
    rw [List.mem_singleton.1 hb]; exact hl a ha

theorem only_grown {w w' : World} {row : Option Nat} (h : w.grownBy w' row) : Only (fun k => row = some k) w w' :=
  ⟨h.os, h.tape, h.output, h.size, fun k hk hs => h.block k hk (fun e => hs e.symm)⟩

theorem row_keep {w w' : World} {p : Nat} {v : Value} {ls : List Lk} (h : ChIs w p v ls) (ho : Only NoneOf w w') : w'.ownsRow 0 92 3 v ls.length (flat ls) := (h.keep ho).row

/-- The links behind an append, from what the law of append leaves. -/
theorem add_done {w W w2 : World} {p : Nat} {v v' : Value} {ls : List Lk} {st : Int} {x : (Option Addr × Nat × Nat)} {dead : Bool} (h : ChIs w p v ls) (hw : Only NoneOf w W) (hg : W.grownBy w2 v.ownBlock)
    (hown : w2.ownsRow 0 92 3 v' (ls.length + 1) (flat ls ++ [.int .i64 st, Value.slice x.1 x.2.1 x.2.2, .bool dead])) (hat : v'.ownBlock = v.ownBlock ∨ ∃ g, v'.ownBlock = some g ∧ w.heap.size ≤ g ∧ g ≠ p)
    (h0 : 0 ≤ st) (hst : ∀ a ∈ ls, a.stamp < st) (hfew : ls.length < 3518437208800) :
    ChIs (w2.setCell ⟨p, 0, none⟩ v') p v' (ls ++ [⟨st, Value.slice x.1 x.2.1 x.2.2, dead⟩]) ∧ Only (Foot p v) w (w2.setCell ⟨p, 0, none⟩ v') ∧ ∀ k, Foot p v' k → Foot p v k ∨ w.heap.size ≤ k := by
  have hW := h.keep hw
  have hb : Blk w2 p 88 #[v] := hW.blk.only (only_grown hg) (fun e => hW.row_ne e)
  have hne : v'.ownBlock ≠ some p := by
    rcases hat with e | ⟨g, e, _, hgp⟩
    · rw [e]; exact h.row_ne
    · rw [e]; intro hh; exact hgp (by injection hh)
  refine ⟨⟨hb.put 0 v', ?_, ?_, rising_snoc h.rise h0 hst, by simp; omega⟩, ?_, ?_⟩
  · rw [flat_append, flat_one, List.length_append]
    refine row_only (S := (· = p)) hown ((Only.refl (· = p) w2).put (.inl rfl) _) (fun g hg e => hne (by rw [hg, e]))
  · intro l hl
    rcases List.mem_append.1 hl with hl | hl
    · exact h.vals l hl
    · rw [List.mem_singleton.1 hl]; exact ⟨x, rfl⟩
  · exact Only.put (S := Foot p v) ((hw.mono (S' := Foot p v) (fun _ _ h => h.elim)).step (only_grown hg) (fun k _ e => .inr e)) (.inl (.inl rfl)) _
  · rintro k (rfl | hk)
    · exact .inl (.inl rfl)
    · rcases hat with e | ⟨g, e, hge, _⟩
      · exact .inl (.inr (by rw [← e]; exact hk))
      · rw [e] at hk; injection hk with hk; exact .inr (by omega)

set_option maxRecDepth 100000 in
set_option maxHeartbeats 1000000 in
theorem add_take (w : World) (p : Nat) (v : Value) (ls : List Lk) (st : Int) (x : (Option Addr × Nat × Nat)) (dead : Bool) (a : Int) (y : (Option Addr × Nat × Nat)) (b is : Bool) (h : ChIs w p v ls) (h0 : 0 ≤ st) (hst : ∀ a ∈ ls, a.stamp < st)
    (hfew : ls.length < 3518437208800) (ha : is = true → a < st)
    (L : Hid (Calls Try.prog 53 #[.pointer (some ⟨p, 0, none⟩)] (w.alloc (.cells #[.int .i64 st, Value.slice x.1 x.2.1 x.2.2, .bool dead] 92)) (TellPost #[.int .i64 a, Value.slice y.1 y.2.1 y.2.2, .bool b] is (w.alloc (.cells #[.int .i64 st, Value.slice x.1 x.2.1 x.2.2, .bool dead] 92))))) :
    Calls Try.prog 46 #[.pointer (some ⟨p, 0, none⟩), .agg #[.int .i64 st, Value.slice x.1 x.2.1 x.2.2, .bool dead]] w (AddPost p v (ls ++ [⟨st, Value.slice x.1 x.2.1 x.2.2, dead⟩]) w) := by
  obtain ⟨i0, hi, hz0, hz1, hz2⟩ := info_parts infoL
  have hB := Blk.new w 92 #[.int .i64 st, Value.slice x.1 x.2.1 x.2.2, .bool dead]
  have HST := Lib.hid hst
  have HF := Lib.hid hfew
  clear hst hfew
  go_enter Try.func46, Try.ntmps46
  go_wp2_with fail
  refine L.out.mono ?_; rintro e w1 ⟨rfl, ho⟩
  have hO := Lib.hid (((Only.refl NoneOf w).alloc _).trans ho)
  have hB1 := hB.only ho (fun h => h)
  have b0 := hB1.cellv 0 rfl
  have b1 := hB1.cellv 1 rfl
  have b2 := hB1.cellv 2 rfl
  have hlt := hB1.lt
  have h1 := h.keep hO.out
  have c0 := h1.blk.cellv 0 rfl
  have hp := h1.lt
  have hpw := h.lt
  have f0 := h1.blk.free 0
  have hR := ((row_keep h hO.out).alloc (.cells #[.int .i64 a, Value.slice y.1 y.2.1 y.2.2, .bool b] 92)).alloc (.cells #[.int .i64 st, Value.slice x.1 x.2.1 x.2.2, .bool dead] 92)
  have hN := Blk.new' (w1.alloc (.cells #[.int .i64 a, Value.slice y.1 y.2.1 y.2.2, .bool b] 92)) 92 #[.int .i64 st, Value.slice x.1 x.2.1 x.2.2, .bool dead] (n := w1.heap.size + 1) (by simp)
  have hW := Lib.hid ((((hO.out.alloc (.cells #[.int .i64 a, Value.slice y.1 y.2.1 y.2.2, .bool b] 92)).alloc (.cells #[.int .i64 st, Value.slice x.1 x.2.1 x.2.2, .bool dead] 92))).drew)
  cases is with
  | true =>
    have ha' : a < st := ha rfl
    clear ha
    go_wp2_with fail
    go_region_law (refine step_append_lies _ rfl (.tmp 31) (.tmp 33) 86 rfl 0 92 i0 _ 3 40 Try.underlying86 hi hz0 hz1 hz2 rfl (by decide) v ls.length (flat ls) rfl hR.drew ⟨w1.heap.size + 1, 0, none⟩ 1 1 [.int .i64 st, Value.slice x.1 x.2.1 x.2.2, .bool dead] rfl rfl (World.news_of_block (w := ((w1.alloc (.cells #[.int .i64 a, Value.slice y.1 y.2.1 y.2.2, .bool b] 92)).alloc (.cells #[.int .i64 st, Value.slice x.1 x.2.1 x.2.2, .bool dead] 92)).drew) hN) (by simp [Value.oneCell']) (by decide) (by have := HF.out; unfold maxLen; omega) (by have := HF.out; omega) (Nat.zero_le _) (w1.heap.size + 2) (by simp) ?_; intro g cap w2 hown2 hgr hat hlt2; have hb2 := (h.keep hW.out).blk.only (only_grown hgr) (fun e => h.row_ne e); have c2 := hb2.cellv 0 rfl; have f2 := hb2.free 0)
    all_goals go_wp2_with fail
    all_goals go_ret
    all_goals
      obtain ⟨r1, r2, r3⟩ := add_done h hW.out hgr hown2 (by
        rcases hat with e | e
        · exact .inl e.symm
        · exact .inr ⟨g, rfl, by have := hO.out.size; omega, by omega⟩) h0 HST.out HF.out
      exact ⟨_, rfl, r1, r2, r3⟩
  | false =>
    clear ha
    go_wp2_with fail
    go_region_law (refine step_append_lies _ rfl (.tmp 31) (.tmp 33) 86 rfl 0 92 i0 _ 3 40 Try.underlying86 hi hz0 hz1 hz2 rfl (by decide) v ls.length (flat ls) rfl hR.drew ⟨w1.heap.size + 1, 0, none⟩ 1 1 [.int .i64 st, Value.slice x.1 x.2.1 x.2.2, .bool dead] rfl rfl (World.news_of_block (w := ((w1.alloc (.cells #[.int .i64 a, Value.slice y.1 y.2.1 y.2.2, .bool b] 92)).alloc (.cells #[.int .i64 st, Value.slice x.1 x.2.1 x.2.2, .bool dead] 92)).drew) hN) (by simp [Value.oneCell']) (by decide) (by have := HF.out; unfold maxLen; omega) (by have := HF.out; omega) (Nat.zero_le _) (w1.heap.size + 2) (by simp) ?_; intro g cap w2 hown2 hgr hat hlt2; have hb2 := (h.keep hW.out).blk.only (only_grown hgr) (fun e => h.row_ne e); have c2 := hb2.cellv 0 rfl; have f2 := hb2.free 0)
    all_goals go_wp2_with fail
    all_goals go_ret
    all_goals
      obtain ⟨r1, r2, r3⟩ := add_done h hW.out hgr hown2 (by
        rcases hat with e | e
        · exact .inl e.symm
        · exact .inr ⟨g, rfl, by have := hO.out.size; omega, by omega⟩) h0 HST.out HF.out
      exact ⟨_, rfl, r1, r2, r3⟩

/-- Add, where the link is taken. -/
theorem add_ok (w : World) (p : Nat) (v : Value) (ls : List Lk) (st : Int) (x : (Option Addr × Nat × Nat)) (dead : Bool) (h : ChIs w p v ls) (h0 : 0 ≤ st) (hst : ∀ a ∈ ls, a.stamp < st) (hfew : ls.length < 3518437208800) :
    Calls Try.prog 46 #[.pointer (some ⟨p, 0, none⟩), .agg #[.int .i64 st, Value.slice x.1 x.2.1 x.2.2, .bool dead]] w (AddPost p v (ls ++ [⟨st, Value.slice x.1 x.2.1 x.2.2, dead⟩]) w) := by
  have ha := h.alloc (.cells #[.int .i64 st, Value.slice x.1 x.2.1 x.2.2, .bool dead] 92)
  rcases List.eq_nil_or_concat ls with rfl | ⟨r, l, rfl⟩
  · exact add_take w p v [] st x dead 0 (none,0,0) false false h h0 hst hfew (fun e => by cases e) (Lib.hid (last_empty _ p v ha))
  · rw [List.concat_eq_append] at *
    obtain ⟨y, hy⟩ := h.vals l (by simp)
    have L := last_has _ p v r l ha
    have hl := hst l (by simp)
    obtain ⟨a, val, b⟩ := l
    simp only at hy
    subst hy
    exact add_take w p v _ st x dead a y b true h h0 hst hfew (fun _ => hl) (Lib.hid L)

end Cb
end Go.Proofs.Ytnonnencdhogiaa

/-
  Layer 13: a chain in memory; how many links count at a stamp.
-/
namespace Go.Proofs.Ytnonnencdhogiaa
open Go.RowKit
namespace Cb

/-- The links that a search looks through. -/
theorem past_is (ls : List Lk) (hr : Rising ls) (s : Int) : (∀ i, i < cnt ls s → decide (s < ((ls[i]?).map (·.stamp)).getD 0) = false) ∧ (∀ i, cnt ls s ≤ i → i < ls.length → decide (s < ((ls[i]?).map (·.stamp)).getD 0) = true) := by
  constructor
  · intro i hi
    have hl : ls[i]? = some (ls[i]'(by have := cnt_le ls s; omega)) := List.getElem?_eq_getElem _
    have := cnt_lt hi hl
    rw [hl]
    simp
    omega
  · intro i hi hlt
    have hl : ls[i]? = some (ls[i]'hlt) := List.getElem?_eq_getElem _
    have := cnt_ge hr.2 hi hl
    rw [hl]
    simp
    omega

set_option maxHeartbeats 400000 in
theorem past_at (w : World) (p b1 b2 : Nat) (v : Value) (ls : List Lk) (s : Int) (i : Nat) (l : Lk) (h : ChIs w p v ls) (hl : ls[i]? = some l)
    (k1 : w.cell? ⟨b1, 0, none⟩ = some (.pointer (some ⟨p, 0, none⟩))) (k2 : w.cell? ⟨b2, 0, none⟩ = some (.int .i64 s)) :
    Calls Try.prog 85 #[.int .i64 i, .pointer (some ⟨b1, 0, none⟩), .pointer (some ⟨b2, 0, none⟩)] w fun e w' => e = .returned (.bool (decide (s < l.stamp))) ∧ Only NoneOf w w' := by
  have c0 := h.blk.cellv 0 rfl
  have hi : i < ls.length := (List.getElem?_eq_some_iff.1 hl).1
  have hfew := h.few
  rcases h.form with ⟨_, rfl⟩ | ⟨g, cap, rfl, hcap, hg, hc⟩
  · simp at hi
  · obtain ⟨x, hx, e0, e1, e2⟩ := hc i l hl
    clear hc e1 e2 hx
    go_enter Try.func85, Try.ntmps85
    go_wp2_with fail
    go_quiet (fail)
    go_wp2_with fail
    go_ret
    exact ⟨rfl, (Only.refl _ _).drewN _⟩

set_option maxHeartbeats 400000 in
theorem count_has (w : World) (p : Nat) (v : Value) (ls : List Lk) (s : Int) (h : ChIs w p v ls) :
    Calls Try.prog 64 #[.pointer (some ⟨p, 0, none⟩), .int .i64 s] w fun e w' => e = .returned (.int .i64 (cnt ls s)) ∧ Only NoneOf w w' := by
  have hO : Only NoneOf w ((w.alloc (.cells #[.pointer (some ⟨p, 0, none⟩)] 84)).alloc (.cells #[.int .i64 s] 3)) := ((Only.refl _ _).alloc _).alloc _
  have h2 := h.keep hO
  have hb1 := (Blk.new w 84 #[.pointer (some ⟨p, 0, none⟩)]).alloc (.cells #[.int .i64 s] 3)
  have hb2 := Blk.new' (w.alloc (.cells #[.pointer (some ⟨p, 0, none⟩)] 84)) 3 #[.int .i64 s] (n := w.heap.size + 1) (by simp)
  have hp := past_is ls h.rise s
  have S := Lib.hid (search_any 85 #[.pointer (some ⟨w.heap.size, 0, none⟩), .pointer (some ⟨w.heap.size + 1, 0, none⟩)] ls.length (cnt ls s) (fun i => decide (s < ((ls[i]?).map (·.stamp)).getD 0))
    ((w.alloc (.cells #[.pointer (some ⟨p, 0, none⟩)] 84)).alloc (.cells #[.int .i64 s] 3)) (by have := h.few; omega) (cnt_le ls s) hp.1 hp.2 (fun _ _ => by kernel_rfl) (fun u i hu hi => by
      have hl : ls[i]? = some (ls[i]'hi) := List.getElem?_eq_getElem _
      refine (past_at u p w.heap.size (w.heap.size + 1) v ls s i _ (h2.keep hu) hl ((hb1.only hu (fun h => h)).cellv 0 rfl) ((hb2.only hu (fun h => h)).cellv 0 rfl)).mono fun e u' ⟨he, ho⟩ => ⟨?_, ho⟩
      rw [he]
      simp only [hl, Option.map_some, Option.getD_some]))
  clear hp
  have c0 := h2.blk.cellv 0 rfl
  rcases h.form with ⟨rfl, rfl⟩ | ⟨g, cap, rfl, _, _, _⟩
  · go_enter Try.func64, Try.ntmps64
    go_wp2_with fail
    refine S.out.mono ?_; rintro e w1 ⟨rfl, ho⟩
    go_wp2_with fail
    go_ret
    exact ⟨rfl, hO.trans ho⟩
  · go_enter Try.func64, Try.ntmps64
    go_wp2_with fail
    refine S.out.mono ?_; rintro e w1 ⟨rfl, ho⟩
    go_wp2_with fail
    go_ret
    exact ⟨rfl, hO.trans ho⟩

set_option maxHeartbeats 400000 in
theorem count_nil (w : World) (s : Int) : Calls Try.prog 64 #[.pointer none, .int .i64 s] w fun e w' => e = .returned (.int .i64 0) ∧ Only NoneOf w w' := by
  go_enter Try.func64, Try.ntmps64
  go_wp2_with fail
  go_ret
  exact ⟨rfl, ((Only.refl _ _).alloc _).alloc _⟩

end Cb
end Go.Proofs.Ytnonnencdhogiaa

/-
  Layer 13: a chain in memory; At, Add, Clone, Prune.
-/
namespace Go.Proofs.Ytnonnencdhogiaa
open Go.RowKit
namespace Cb

set_option maxHeartbeats 400000 in
theorem at_nil (w : World) (s : Int) : Calls Try.prog 48 #[.pointer none, .int .i64 s] w (TellPost zeroLk false w) := by
  have L := fun u => Lib.hid (count_nil u s)
  go_enter Try.func48, Try.ntmps48
  go_wp2_with fail
  refine (L _).out.mono ?_; rintro e w1 ⟨rfl, ho⟩
  have hO := Lib.hid (((Only.refl NoneOf w).alloc _).trans ho)
  have hB := (Blk.new w 92 #[.int .i64 0, (Value.slice none 0 0), .bool false]).only ho (fun h => h)
  have b0 := hB.cellv 0 rfl
  have b1 := hB.cellv 1 rfl
  have b2 := hB.cellv 2 rfl
  have f0 := hB.free 0
  have f1 := hB.free 1
  have f2 := hB.free 2
  go_wp2_with fail
  exact bodyPost_ret (v := .tuple #[.agg zeroLk, .bool false]) (by simp [results, Try.results48, go_sem, b0, b1, b2]) rfl
      ⟨rfl, by repeat (first | exact hO.out | refine Only.drew ?_ | refine Only.drewN ?_ _ | refine Only.alloc ?_ _ | refine Only.put ?_ (.inr (by simp)) _)⟩

set_option maxHeartbeats 400000 in
theorem at_none (w : World) (p : Nat) (v : Value) (ls : List Lk) (s : Int) (h : ChIs w p v ls) (hc : cnt ls s = 0) :
    Calls Try.prog 48 #[.pointer (some ⟨p, 0, none⟩), .int .i64 s] w (TellPost zeroLk false w) := by
  have L := fun u hu => Lib.hid (count_has u p v ls s hu)
  simp only [hc] at L
  clear hc
  go_enter Try.func48, Try.ntmps48
  go_wp2_with fail
  refine (L _ (h.alloc _)).out.mono ?_; rintro e w1 ⟨rfl, ho⟩
  have hO := Lib.hid (((Only.refl NoneOf w).alloc _).trans ho)
  have hB := (Blk.new w 92 #[.int .i64 0, (Value.slice none 0 0), .bool false]).only ho (fun h => h)
  have b0 := hB.cellv 0 rfl
  have b1 := hB.cellv 1 rfl
  have b2 := hB.cellv 2 rfl
  have f0 := hB.free 0
  have f1 := hB.free 1
  have f2 := hB.free 2
  go_wp2_with fail
  exact bodyPost_ret (v := .tuple #[.agg zeroLk, .bool false]) (by simp [results, Try.results48, go_sem, b0, b1, b2]) rfl
      ⟨rfl, by repeat (first | exact hO.out | refine Only.drew ?_ | refine Only.drewN ?_ _ | refine Only.alloc ?_ _ | refine Only.put ?_ (.inr (by simp)) _)⟩

set_option maxHeartbeats 400000 in
theorem at_has (w : World) (p : Nat) (v : Value) (ls : List Lk) (s : Int) (n : Nat) (l : Lk) (h : ChIs w p v ls) (hc : cnt ls s = n + 1) (hl : ls[n]? = some l) :
    Calls Try.prog 48 #[.pointer (some ⟨p, 0, none⟩), .int .i64 s] w (TellPost l.cells.toArray true w) := by
  have L := fun u hu => Lib.hid (count_has u p v ls s hu)
  simp only [hc] at L
  clear hc
  have hfew := h.few
  have hn : n < ls.length := (List.getElem?_eq_some_iff.1 hl).1
  go_enter Try.func48, Try.ntmps48
  go_wp2_with fail
  refine (L _ (h.alloc _)).out.mono ?_; rintro e w1 ⟨rfl, ho⟩
  have hO := Lib.hid (((Only.refl NoneOf w).alloc _).trans ho)
  have hB := (Blk.new w 92 #[.int .i64 0, (Value.slice none 0 0), .bool false]).only ho (fun h => h)
  have b0 := hB.cellv 0 rfl
  have b1 := hB.cellv 1 rfl
  have b2 := hB.cellv 2 rfl
  have f0 := hB.free 0
  have f1 := hB.free 1
  have f2 := hB.free 2
  have h1 := (h.alloc _).keep ho
  have c0 := h1.blk.cellv 0 rfl
  rcases h1.form with ⟨_, rfl⟩ | ⟨g, cap, rfl, hcap, hg, hcs⟩
  · simp at hl
  · obtain ⟨x, hx, e0, e1, e2⟩ := hcs n l hl
    clear hcs hl
    obtain ⟨st, val, dead⟩ := l
    simp only at hx e0 e1 e2
    subst hx
    go_wp2_with fail
    exact bodyPost_ret (v := .tuple #[.agg (Lk.cells ⟨st, Value.slice x.1 x.2.1 x.2.2, dead⟩).toArray, .bool true]) (by simp [results, Try.results48, go_sem, Lk.cells, b0, b1, b2]) rfl
      ⟨rfl, by repeat (first | exact hO.out | refine Only.drew ?_ | refine Only.drewN ?_ _ | refine Only.alloc ?_ _ | refine Only.put ?_ (.inr (by simp)) _)⟩

end Cb
end Go.Proofs.Ytnonnencdhogiaa

/-
  Layer 13: a chain in memory; Clone of its links, Prune.
-/
namespace Go.Proofs.Ytnonnencdhogiaa
open Go.RowKit
namespace Cb

/-- How Clone ends: a row of its own, no part of what was there. -/
def ClonePost (ls : List Lk) (w : World) (e : Ending) (w' : World) : Prop :=
  ∃ v', e = .returned v' ∧ w'.ownsRow 0 92 3 v' ls.length (flat ls) ∧ Only NoneOf w w' ∧ ∀ g, v'.ownBlock = some g → w.heap.size ≤ g

theorem row_base {w : World} {base : Nat} {v : Value} {n : Nat} {xs : List Value} (h : w.ownsRow base 92 3 v n xs) : w.ownsRow 0 92 3 v n xs ∧ ∀ g, v.ownBlock = some g → base ≤ g := by
  refine ⟨⟨h.1, ?_⟩, fun g hg => ?_⟩
  · rcases h.2 with h0 | ⟨g, cap, cur, hv, _, r⟩
    · exact .inl h0
    · exact .inr ⟨g, cap, cur, hv, Nat.zero_le _, r⟩
  · rcases h.2 with ⟨rfl, _⟩ | ⟨g', cap, cur, rfl, hb, _⟩
    · simp [Value.ownBlock] at hg
    · have : g' = g := by simpa [Value.ownBlock] using hg
      omega

set_option maxHeartbeats 400000 in
theorem clone_nil (w : World) : Calls Try.prog 65 #[.slice none 0 0] w (ClonePost [] w) := by
  have hnil := fun (u : World) a n c => Lib.run_eql_slice_nil (P := Try.prog) u 86 92 a n c 0 0 Try.underlying86
  go_enter Try.func65, Try.ntmps65
  go_wp2_with fail
  go_ret
  exact ⟨_, rfl, ⟨rfl, .inl ⟨rfl, rfl⟩⟩, Only.refl _ _, fun g hg => by simp [Value.ownBlock] at hg⟩

theorem vals_one {ls : List Lk} (h : ∀ l ∈ ls, IsV l.val) : ∀ u ∈ flat ls, u.oneCell' = true := by
  intro u hu
  simp only [flat, List.mem_flatMap] at hu
  obtain ⟨l, hl, hu⟩ := hu
  obtain ⟨x, hx⟩ := h l hl
  simp only [Lk.cells, List.mem_cons, List.not_mem_nil, or_false] at hu
  rcases hu with rfl | rfl | rfl
  · rfl
  · rw [hx]; rfl
  · rfl

set_option maxRecDepth 100000 in
set_option maxHeartbeats 400000 in
theorem clone_has (w : World) (g off c m : Nat) (ls : List Lk) (hm : ls.length = m) (hv : ∀ l ∈ ls, IsV l.val) (hfew : ls.length ≤ 3518437208800)
    (hc : ∀ j u, (flat ls)[j]? = some u → w.cell? ((⟨g, off, none⟩ : Addr).add j) = some u) :
    Calls Try.prog 65 #[.slice (some ⟨g, off, none⟩) m c] w (ClonePost ls w) := by
  subst hm
  obtain ⟨i0, hi, hz0, hz1, hz2⟩ := info_parts infoL
  have hC := Lib.hid hc
  clear hc
  have hv1 := Lib.hid (vals_one hv)
  have hnil := fun (u : World) a n c => Lib.run_eql_slice_nil (P := Try.prog) u 86 92 a n c 0 0 Try.underlying86
  have hown : (w.alloc (.cells #[] 92)).ownsRow w.heap.size 92 3 (.slice (some ⟨w.heap.size, 0, none⟩) 0 0) 0 [] :=
    ⟨rfl, .inr ⟨w.heap.size, 0, #[], rfl, Nat.le_refl _, Blk.new w 92 #[], Nat.le_refl _, Nat.zero_le _, rfl, rfl⟩⟩
  go_enter Try.func65, Try.ntmps65
  go_wp2_with (at_builtin; refine wpList_append_own _ rfl (.tmp 5) (.tmp 6) 86 rfl w.heap.size 92 i0 _ 3 40 Try.underlying86 hi hz0 hz1 hz2 rfl (by decide) (.slice (some ⟨w.heap.size, 0, none⟩) 0 0) 0 [] rfl hown ⟨g, off, none⟩ ls.length c (flat ls) rfl (flat_length ls) ?c1 hv1.out ?c2 ?c3 ?c4 ?_)
  case c1 => intro j u hj; have := hC.out j u hj; rw [World.cell?_alloc_lt _ _ _ (World.block_lt_of_cell? _ _ this)]; exact this
  case c2 => unfold maxLen; omega
  case c3 => omega
  case c4 => simp
  intro v' w1 hown' hgr hnil'
  go_wp2_with fail
  go_ret
  obtain ⟨r1, r2⟩ := row_base (by simpa using hown')
  refine ⟨v', rfl, r1, ((Only.refl NoneOf w).alloc _).step (only_grown hgr) (fun k hk e => ?_), r2⟩
  simp only [Value.ownBlock] at e
  injection e with e
  omega

/-- The links that Prune leaves. -/
def pruned (ls : List Lk) (s : Int) : List Lk := ls.drop (cnt ls s - 1)

theorem rising_drop {ls : List Lk} (h : Rising ls) (n : Nat) : Rising (ls.drop n) :=
  ⟨fun l hl => h.1 l (List.mem_of_mem_drop hl), h.2.sublist (List.drop_sublist n ls)⟩

/-- How Prune ends. -/
def PrunePost (p : Nat) (v : Value) (ls : List Lk) (s : Int) (w : World) (e : Ending) (w' : World) : Prop :=
  ∃ v', e = .returned (.int .i64 (cnt ls s - 1 : Nat)) ∧ ChIs w' p v' (pruned ls s) ∧ Only (Foot p v) w w' ∧ ∀ k, Foot p v' k → Foot p v k ∨ w.heap.size ≤ k

set_option maxHeartbeats 400000 in
theorem prune_nil (w : World) (s : Int) : Calls Try.prog 42 #[.pointer none, .int .i64 s] w (NoPost 0 w) := by
  have L := fun u => Lib.hid (count_nil u s)
  go_enter Try.func42, Try.ntmps42
  go_wp2_with fail
  refine (L _).out.mono ?_; rintro e w1 ⟨rfl, ho⟩
  go_wp2_with fail
  go_ret
  exact ⟨rfl, ho⟩

set_option maxHeartbeats 400000 in
theorem prune_few (w : World) (p : Nat) (v : Value) (ls : List Lk) (s : Int) (h : ChIs w p v ls) (hc : cnt ls s ≤ 1) :
    Calls Try.prog 42 #[.pointer (some ⟨p, 0, none⟩), .int .i64 s] w (PrunePost p v ls s w) := by
  have L := fun u hu => Lib.hid (count_has u p v ls s hu)
  have e1 : cnt ls s - 1 = 0 := by omega
  have e2 : pruned ls s = ls := by unfold pruned; rw [e1, List.drop_zero]
  have fin : ∀ w1, Only NoneOf w w1 → PrunePost p v ls s w (.returned (.int .i64 0)) w1 := fun w1 ho =>
    ⟨v, by rw [e1]; rfl, by rw [e2]; exact h.keep ho, ho.mono (fun _ _ h => h.elim), fun k hk => .inl hk⟩
  have FIN := Lib.hid fin
  clear fin e1 e2
  generalize cnt ls s = n at *
  go_enter Try.func42, Try.ntmps42
  go_wp2_with fail
  refine (L _ h).out.mono ?_; rintro e w1 ⟨rfl, ho⟩
  go_wp2_with fail
  go_ret
  exact FIN.out _ ho

set_option maxRecDepth 100000 in
set_option maxHeartbeats 400000 in
theorem prune_many (w : World) (p : Nat) (v : Value) (ls : List Lk) (s : Int) (n : Nat) (h : ChIs w p v ls) (hc : cnt ls s = n + 2) :
    Calls Try.prog 42 #[.pointer (some ⟨p, 0, none⟩), .int .i64 s] w (PrunePost p v ls s w) := by
  have L := fun u hu => Lib.hid (count_has u p v ls s hu)
  have hle := cnt_le ls s
  have e1 : cnt ls s - 1 = n + 1 := by omega
  have e2 : pruned ls s = ls.drop (n + 1) := by unfold pruned; rw [e1]
  have fin : ∀ (w1 w2 : World) (v' : Value), Only NoneOf w w1 → Only NoneOf w1 w2 → w2.ownsRow 0 92 3 v' (ls.drop (n + 1)).length (flat (ls.drop (n + 1))) → (∀ g, v'.ownBlock = some g → w1.heap.size ≤ g) →
      PrunePost p v ls s w (.returned (.int .i64 ((n : Int) + 2 - 1))) (w2.setCell ⟨p, 0, none⟩ v') := fun w1 w2 v' ho1 ho2 hr hf => by
    have hs1 := ho1.size
    have hne : ∀ g, v'.ownBlock = some g → g ≠ p := fun g hg => by have := hf g hg; have := h.lt; omega
    refine ⟨v', by rw [e1, show (n : Int) + 2 - 1 = ((n + 1 : Nat) : Int) by omega], ⟨((h.keep ho1).keep ho2).blk.put 0 v', ?_, ?_, ?_, ?_⟩, ?_, ?_⟩
    · rw [e2]; exact row_only (S := (· = p)) hr ((Only.refl (· = p) w2).put (.inl rfl) _) (fun g hg e => hne g hg e)
    · rw [e2]; exact fun l hl => h.vals l (List.mem_of_mem_drop hl)
    · rw [e2]; exact rising_drop h.rise _
    · rw [e2]; have := h.few; simp; omega
    · exact Only.put (S := Foot p v) ((ho1.trans ho2).mono (fun _ _ h => h.elim)) (.inl (.inl rfl)) _
    · rintro k (rfl | hk)
      · exact .inl (.inl rfl)
      · exact .inr (by have := hf k hk; omega)
  have FIN := Lib.hid fin
  have hfew := h.few
  rw [hc] at hle
  simp only [hc] at L
  clear fin e1 e2 hc
  go_enter Try.func42, Try.ntmps42
  go_wp2_with fail
  refine (L _ h).out.mono ?_; rintro e w1 ⟨rfl, ho⟩
  have h1 := h.keep ho
  have c0 := h1.blk.cellv 0 rfl
  have f0 := h1.blk.free 0
  rcases h1.form with ⟨_, rfl⟩ | ⟨g, cap, rfl, hcap, hg, hcs⟩
  · simp at hle
  · have hcl : ∀ j u, (flat (ls.drop (n + 1)))[j]? = some u → w1.cell? ((⟨g, (n + 1) * 3, none⟩ : Addr).add j) = some u := by
      intro j u hj
      have e : (⟨g, (n + 1) * 3, none⟩ : Addr).add j = ⟨g, (n + 1) * 3 + j, none⟩ := by unfold Addr.add; split <;> simp_all
      rw [e]
      rw [← flat_drop, List.getElem?_drop] at hj
      rcases h1.row.2 with ⟨h0, _⟩ | ⟨g', cap', cur, hv, _, hb, _, _, _, hcur⟩
      · cases h0
      · injection hv with hv1 _ _
        injection hv1 with hv1
        injection hv1 with hv1 _ _
        subst hv1
        rw [Blk.cell (t := 92) (cs := cur) hb]
        have hlt : (n + 1) * 3 + j < ls.length * 3 := by
          have := (List.getElem?_eq_some_iff.1 hj).1
          rw [flat_length] at this
          exact this
        rw [← hcur, List.getElem?_take_of_lt hlt, Array.getElem?_toList] at hj
        exact hj
    have C := Lib.hid (clone_has w1 g ((n + 1) * 3) (cap - (n + 1)) (ls.length - (n + 1)) (ls.drop (n + 1)) (by simp) (fun l hl => h.vals l (List.mem_of_mem_drop hl)) (by simp; omega) hcl)
    clear hcl hcs
    go_wp2_with fail
    refine C.out.mono ?_; rintro e w2 ⟨v', rfl, hr2, ho2, hf2⟩
    have h2 := h1.keep ho2
    have c2 := h2.blk.cellv 0 rfl
    have f2 := h2.blk.free 0
    obtain ⟨g2, cap2, rfl, _, _⟩ := hr2.form (by simp; omega)
    clear c0 f0
    go_wp2_with fail
    go_ret
    rw [List.length_drop] at hr2
    exact FIN.out w1 w2 _ ho ho2 (by rw [List.length_drop]; exact hr2) hf2

end Cb
end Go.Proofs.Ytnonnencdhogiaa

/-
  Layer 14: a store in memory: a map of chains; New, of, Live, may.
-/
namespace Go.Proofs.Ytnonnencdhogiaa
open Go.RowKit
open Go.Maps (Keyed)
open Cb (ChIs Foot)

abbrev MD := DataW Unit
/-- How a chain's pointer reads. -/
def RP (v : Value) : Option (MD × List MemPlace) := match v with
  | .pointer none => some (.nil, [])
  | .pointer (some ⟨p, 0, none⟩) => some (.lit (.int .i64 p), [])
  | _ => none
theorem RP_nil {v : Value} {ps : List MemPlace} (h : RP v = some (.nil, ps)) : v = .pointer none := by
  unfold RP at h
  split at h
  · rfl
  · simp at h
  · cases h
theorem RP_at {v : Value} {p : Nat} {ps : List MemPlace} (h : RP v = some (.lit (.int .i64 p), ps)) : v = .pointer (some ⟨p, 0, none⟩) := by
  unfold RP at h
  split at h
  · simp at h
  · rename_i q
    simp only [Option.some.injEq, Prod.mk.injEq, DataW.lit.injEq, Lit.int.injEq, true_and] at h
    have : q = p := by omega
    rw [this]
  · cases h

theorem law9 : Keyed Try.prog 9 := Go.Maps.string_keyed Try.underlying9
theorem zero84 (w : World) : (zeroValue 84).run Try.prog w = .ok (.pointer none) w := by kernel_rfl

/-- a chain of a store: where it lies, its row, its links -/
abbrev Ch := Nat × Value × List Lk

structure StIs (w : World) (s m n : Nat) (D : MD) (C : ByteArray → Option Ch) (live : Int) : Prop where
  blk : Blk w s 83 #[.map (some m), .int .i64 live]
  map : w.ownsMap Try.prog 9 RP m n D
  keys : ∀ (key : ByteArray) (zd : MD), key.size ≤ maxLen → D.atKey (.string key.data.toList) zd = match C key with | none => zd | some c => .lit (.int .i64 c.1)
  chains : ∀ key c, C key = some c → ChIs w c.1 c.2.1 c.2.2
  apart : ∀ key key' c c', C key = some c → C key' = some c' → key ≠ key' → ∀ k, Foot c.1 c.2.1 k → ¬ Foot c'.1 c'.2.1 k
  far : ∀ key c, C key = some c → ∀ k, Foot c.1 c.2.1 k → k ≠ s ∧ k ≠ m
  sm : s ≠ m

theorem wpList_lookup_rp {ops : Array Oper} {rest : List Oper} {o : Oper} {a : Act} {Q : Exit → Act → World → Prop} {w : World}
    (hg : o.guard = none) (mo x : Operand) (hop : o.op = Op.lookup 81 mo x false) (m n : Nat) (D : MD) (hm : a.eval mo = .map (some m)) (hown : w.ownsMap Try.prog 9 RP m n D)
    (key : ByteArray) (hx : a.eval x = .string key) (hl : key.size ≤ maxLen) (v : Value) (hv : ∀ v' ps, RP v' = some (D.atKey (.string key.data.toList) .nil, ps) → v' = v)
    (hK : wpList Try.prog ops Q rest (a.put o.dst v) w) : wpList Try.prog ops Q (o :: rest) a w := by
  refine wpList_plain hg fun K' hK' => ?_
  obtain ⟨v', ps, hrun, hr⟩ := hown.lookup law9 Try.underlying81 (zero84 w) (zd := .nil) (zp := []) rfl (Go.WideMaps.keyOf_string_mk Try.underlying9 hl)
  obtain rfl := hv v' ps hr
  unfold Oper.wp
  simp [execOp, hop, hm, hx, hrun, Result.andThen]
  exact hK' _ _ hK

def chPtr : Option Ch → Value
  | none => .pointer none
  | some c => .pointer (some ⟨c.1, 0, none⟩)
theorem StIs.ptr {w : World} {s m n : Nat} {D : MD} {C : ByteArray → Option Ch} {live : Int} (h : StIs w s m n D C live) {key : ByteArray} (hl : key.size ≤ maxLen) : ∀ v ps, RP v = some (D.atKey (.string key.data.toList) .nil, ps) → v = chPtr (C key) := fun v ps hr => by
  rw [h.keys key .nil hl] at hr
  cases hc : C key with
  | none => rw [hc] at hr; exact RP_nil hr
  | some c => rw [hc] at hr; exact RP_at hr

set_option maxHeartbeats 400000 in
theorem of_is (w : World) (s m n : Nat) (D : MD) (C : ByteArray → Option Ch) (live : Int) (key : ByteArray) (hl : key.size ≤ maxLen) (h : StIs w s m n D C live) :
    Calls Try.prog 44 #[.pointer (some ⟨s, 0, none⟩), .string key] w fun e w' => e = .returned (chPtr (C key)) ∧ w = w' := by
  have c0 := h.blk.cellv 0 rfl
  have hp := Lib.hid (h.ptr hl)
  have hm := Lib.hid h.map
  clear h
  go_enter Try.func44, Try.ntmps44
  go_wp2_with (at_lookup; refine wpList_lookup_rp rfl (.tmp 10) (.tmp 11) rfl m n D rfl hm.out key rfl hl (chPtr (C key)) hp.out ?_)
  go_ret
  exact ⟨rfl, rfl⟩
theorem of_nil (w : World) (key : ByteArray) : Calls Try.prog 44 #[.pointer none, .string key] w fun e w' => e = .returned (.pointer none) ∧ w = w' := by
  go_enter Try.func44, Try.ntmps44
  go_wp2_with fail
  go_ret
  exact ⟨rfl, rfl⟩
theorem live_is (w : World) (s m n : Nat) (D : MD) (C : ByteArray → Option Ch) (live : Int) (h : StIs w s m n D C live) :
    Calls Try.prog 34 #[.pointer (some ⟨s, 0, none⟩)] w fun e w' => e = .returned (.int .i64 live) ∧ w = w' := by
  have c1 := h.blk.cellv 1 rfl
  clear h
  go_enter Try.func34, Try.ntmps34
  go_wp2_with fail
  go_ret
  exact ⟨rfl, rfl⟩
theorem live_nil (w : World) : Calls Try.prog 34 #[.pointer none] w fun e w' => e = .returned (.int .i64 0) ∧ w = w' := by
  go_enter Try.func34, Try.ntmps34
  go_wp2_with fail
  go_ret
  exact ⟨rfl, rfl⟩

end Go.Proofs.Ytnonnencdhogiaa

/-
  Layer 14: New, may.
-/
namespace Go.Proofs.Ytnonnencdhogiaa
open Go.RowKit
open Cb (ChIs Foot)

theorem StIs.none {w : World} {s m : Nat} (hb : Blk w s 83 #[.map (some m), .int .i64 0]) (hm : w.ownsMap Try.prog 9 RP m 0 (.map [])) (hne : s ≠ m) : StIs w s m 0 (.map []) (fun _ => none) 0 :=
  ⟨hb, hm, fun _ _ _ => rfl, fun _ _ h => (by cases h), fun _ _ _ _ h => (by cases h), fun _ _ h => (by cases h), hne⟩

def NewPost (w : World) (e : Ending) (w' : World) : Prop :=
  e = .returned (.pointer (some ⟨w.heap.size + 1, 0, none⟩)) ∧ StIs w' (w.heap.size + 1) w.heap.size 0 (.map []) (fun _ => none) 0 ∧ Only NoneOf w w'
set_option maxHeartbeats 400000 in
theorem new_is (w : World) : Calls Try.prog 29 #[] w (NewPost w) := by
  have hmm := @run_makeMap Try.prog
  have hown := World.ownsMap_made w Try.prog 9 RP
  have hB := Blk.new' (w.alloc (.map #[] 0)) 83 #[.map (some w.heap.size), .int .i64 0] (n := w.heap.size + 1) (by simp)
  have HO := Lib.hid (((Only.refl NoneOf w).alloc (.map #[] 0)).alloc (.cells #[.map (some w.heap.size), .int .i64 0] 83))
  have HM := Lib.hid (hown.alloc (.cells #[.map (some w.heap.size), .int .i64 0] 83))
  have HB := Lib.hid hB
  clear hown hB
  go_enter Try.func29, Try.ntmps29
  go_wp2_with fail
  go_ret
  exact ⟨rfl, StIs.none HB.out HM.out (by omega), HO.out⟩

/-- what is wrong with a version -/
def mayI (k n : Nat) (st : Int) (dead : Bool) : Int :=
  if k < 1 ∨ 255 < k then 140 else if 4096 < n ∨ (dead = true ∧ 0 < n) then 141 else if st < 0 ∨ 4611686018427387904 < st then 2 else 0
abbrev verC (key : ByteArray) (st : Int) (v : Value) (dead : Bool) : Array Value := #[.string key, .int .i64 st, v, .bool dead]

set_option maxRecDepth 100000 in
set_option maxHeartbeats 1000000 in
theorem may_is (key : ByteArray) (st : Int) (A : Option Addr) (n c : Nat) (dead : Bool) (w : World) : Calls Try.prog 43 #[.agg (verC key st (.slice A n c) dead)] w fun e w' => e = .returned (.int .i64 (mayI key.size n st dead)) ∧ Only NoneOf w w' := by
  have B := Blk.new w 27 (verC key st (.slice A n c) dead)
  have c0 := B.cellv 0 rfl
  have c1 := B.cellv 1 rfl
  have c2 := B.cellv 2 rfl
  have c3 := B.cellv 3 rfl
  have HO := Lib.hid ((Only.refl NoneOf w).alloc (.cells (verC key st (.slice A n c) dead) 27))
  clear B
  by_cases h1 : key.size < 1
  · have HM := Lib.hid (show mayI key.size n st dead = 140 by unfold mayI; rw [if_pos (.inl h1)])
    rw [HM.out]
    go_enter Try.func43, Try.ntmps43
    go_wp2_with fail
    go_ret
    exact ⟨rfl, HO.out⟩
  by_cases h2 : 255 < key.size
  · have HM := Lib.hid (show mayI key.size n st dead = 140 by unfold mayI; rw [if_pos (.inr h2)])
    rw [HM.out]
    go_enter Try.func43, Try.ntmps43
    go_wp2_with fail
    go_ret
    exact ⟨rfl, HO.out⟩
  by_cases h3 : 4096 < n
  · have HM := Lib.hid (show mayI key.size n st dead = 141 by unfold mayI; rw [if_neg (by omega), if_pos (.inl h3)])
    rw [HM.out]
    go_enter Try.func43, Try.ntmps43
    go_wp2_with fail
    go_ret
    exact ⟨rfl, HO.out⟩
  by_cases h4 : dead = true ∧ 0 < n
  · have HM := Lib.hid (show mayI key.size n st dead = 141 by unfold mayI; rw [if_neg (by omega), if_pos (.inr h4)])
    rw [HM.out]
    obtain ⟨rfl, h5⟩ := h4
    go_enter Try.func43, Try.ntmps43
    go_wp2_with fail
    go_ret
    exact ⟨rfl, HO.out⟩
  cases dead
  · clear h4
    by_cases h5 : st < 0
    · have HM := Lib.hid (show mayI key.size n st false = 2 by unfold mayI; rw [if_neg (by omega), if_neg (by simp; omega), if_pos (.inl h5)])
      rw [HM.out]
      go_enter Try.func43, Try.ntmps43
      go_wp2_with fail
      go_ret
      exact ⟨rfl, HO.out⟩
    by_cases h6 : 4611686018427387904 < st
    · have HM := Lib.hid (show mayI key.size n st false = 2 by unfold mayI; rw [if_neg (by omega), if_neg (by simp; omega), if_pos (.inr h6)])
      rw [HM.out]
      have q5 : decide (st < 0) = false := decide_eq_false h5
      have q6 : decide (4611686018427387904 < st) = true := decide_eq_true h6
      clear h5 h6
      go_enter Try.func43, Try.ntmps43
      go_wp2_with fail
      go_ret
      exact ⟨rfl, HO.out⟩
    · have HM := Lib.hid (show mayI key.size n st false = 0 by unfold mayI; rw [if_neg (by omega), if_neg (by simp; omega), if_neg (by omega)])
      rw [HM.out]
      have q5 : decide (st < 0) = false := decide_eq_false h5
      have q6 : decide (4611686018427387904 < st) = false := decide_eq_false h6
      clear h5 h6
      go_enter Try.func43, Try.ntmps43
      go_wp2_with fail
      go_ret
      exact ⟨rfl, HO.out⟩
  · have h0 : n = 0 := by
      rcases Nat.eq_zero_or_pos n with h | h
      · exact h
      · exact absurd ⟨rfl, h⟩ h4
    subst h0
    clear h4 h3
    by_cases h5 : st < 0
    · have HM := Lib.hid (show mayI key.size 0 st true = 2 by unfold mayI; rw [if_neg (by omega), if_neg (by simp), if_pos (.inl h5)])
      rw [HM.out]
      go_enter Try.func43, Try.ntmps43
      go_wp2_with fail
      go_ret
      exact ⟨rfl, HO.out⟩
    by_cases h6 : 4611686018427387904 < st
    · have HM := Lib.hid (show mayI key.size 0 st true = 2 by unfold mayI; rw [if_neg (by omega), if_neg (by simp), if_pos (.inr h6)])
      rw [HM.out]
      have q5 : decide (st < 0) = false := decide_eq_false h5
      have q6 : decide (4611686018427387904 < st) = true := decide_eq_true h6
      clear h5 h6
      go_enter Try.func43, Try.ntmps43
      go_wp2_with fail
      go_ret
      exact ⟨rfl, HO.out⟩
    · have HM := Lib.hid (show mayI key.size 0 st true = 0 by unfold mayI; rw [if_neg (by omega), if_neg (by simp), if_neg (by omega)])
      rw [HM.out]
      have q5 : decide (st < 0) = false := decide_eq_false h5
      have q6 : decide (4611686018427387904 < st) = false := decide_eq_false h6
      clear h5 h6
      go_enter Try.func43, Try.ntmps43
      go_wp2_with fail
      go_ret
      exact ⟨rfl, HO.out⟩

end Go.Proofs.Ytnonnencdhogiaa

/-
  Rows of cells written whole: what stands behind them.
-/
namespace Go.Proofs.Ytnonnencdhogiaa
open Go.RowKit

theorem new2 (w : World) (t u : TypeId) (c d : Array Value) : Blk ((w.alloc (.cells c t)).alloc (.cells d u)) w.heap.size t c ∧ Blk ((w.alloc (.cells c t)).alloc (.cells d u)) (w.heap.size + 1) u d ∧ Only NoneOf w ((w.alloc (.cells c t)).alloc (.cells d u)) :=
  ⟨(Blk.new w t c).alloc _, Blk.new' _ _ _ (by simp), ((Only.refl _ _).alloc _).alloc _⟩

section
variable {w w' : World} {b g : Nat} {t : TypeId} {cs ds : Array Value} {S : Nat → Prop}
theorem Blk.row (h : Blk w b t cs) (ds : Array Value) : Blk (w.setRow b ds) b t ds := setRow_heap w b cs ds t _ h
theorem Blk.row_far (h : Blk w b t cs) (hne : b ≠ g) (ds : Array Value) : Blk (w.setRow g ds) b t cs := (setRow_other w g b ds hne).trans h
theorem Only.row (h : Only S w w') (hb : S b ∨ w.heap.size ≤ b) (ds : Array Value) : Only S w (w'.setRow b ds) :=
  ⟨h.os, h.tape, h.output, by simpa using h.size, fun i hi hs => (setRow_other w' b i ds (by
    rintro rfl
    rcases hb with hp | hp
    · exact hs hp
    · omega)).trans (h.block i hi hs)⟩
end

theorem bcell {W w1 : World} (hb : Only NoneOf W w1) : (∀ b o, b < W.heap.size → w1.cell? ⟨b, o, none⟩ = W.cell? ⟨b, o, none⟩) ∧ (∀ b o, b < W.heap.size → w1.frozen? ⟨b, o, none⟩ = W.frozen? ⟨b, o, none⟩) :=
  ⟨fun b o h => hb.cell (p := ⟨b, o, none⟩) h (fun h => h), fun b o h => hb.frozen (p := ⟨b, o, none⟩) h (fun h => h)⟩
/-- A call that answers; nothing that was there has turned. -/
def Ans (v : Value) (w : World) (e : Ending) (w' : World) : Prop := e = .returned v ∧ Only NoneOf w w'

/-- A call that answers and turns nothing. -/
def Same (v : Value) (w : World) (e : Ending) (w' : World) : Prop := e = .returned v ∧ w = w'

end Go.Proofs.Ytnonnencdhogiaa

/-
  Layer 14: own (a copy of a value).
-/
namespace Go.Proofs.Ytnonnencdhogiaa
open Go.RowKit
open Cb (ChIs Foot)

/-- A byte's cell. -/
abbrev byteV (c : UInt8) : Value := .int .u8 (c.toNat : Int)
/-- A slice of bytes that is its own. -/
def RowB (w : World) (B : Nat) (v : Value) (l : List UInt8) : Prop := w.ownsRow B 5 1 v l.length (l.map byteV)
theorem info5 : (Try.prog.info? 5).map (fun i => (i.zero, i.size, i.bytes)) = some (some (.int .u8 0), 1, 1) := by kernel_rfl
theorem only_grown {w w' : World} {row : Option Nat} (h : w.grownBy w' row) : Only (fun k => row = some k) w w' :=
  ⟨h.os, h.tape, h.output, h.size, fun k hk hs => h.block k hk (fun e => hs e.symm)⟩

/-- bytes in memory, from a slice's place on -/
def BytesAt (w : World) (A : Option Addr) (bs : List UInt8) : Prop := ∀ (i : Nat) (c : UInt8), bs[i]? = some c → ∃ g off, A = some ⟨g, off, none⟩ ∧ g < w.heap.size ∧ w.cell? ⟨g, off + i, none⟩ = some (byteV c)
theorem BytesAt.keep {w w' : World} {A : Option Addr} {bs : List UInt8} (h : BytesAt w A bs) (ho : Only NoneOf w w') : BytesAt w' A bs := fun i c hc => by
  obtain ⟨g, off, hA, hg, h1⟩ := h i c hc
  exact ⟨g, off, hA, Nat.lt_of_lt_of_le hg ho.size, (ho.cell (p := ⟨g, off + i, none⟩) hg (fun h => h)).trans h1⟩
theorem RowB.at {w : World} {B : Nat} {v : Value} {l : List UInt8} (h : RowB w B v l) : ∃ A cap, v = .slice A l.length cap ∧ BytesAt w A l := by
  rcases h.2 with ⟨rfl, h0⟩ | ⟨g, cap, cur, rfl, _, hb, hle, _, hsz, hcur⟩
  · obtain rfl : l = [] := List.eq_nil_of_length_eq_zero h0
    exact ⟨none, 0, rfl, fun i x hx => by simp at hx⟩
  · refine ⟨_, cap, rfl, fun i c hi => ⟨g, 0, rfl, Blk.lt (t := 5) (cs := cur) hb, ?_⟩⟩
    have hil : i < l.length := (List.getElem?_eq_some_iff.1 hi).1
    have : (l.map byteV)[i]? = some (byteV c) := by rw [List.getElem?_map, hi]; rfl
    rw [Nat.zero_add, Blk.cell (t := 5) (cs := cur) hb, ← this, ← hcur, List.getElem?_take_of_lt (by omega), Array.getElem?_toList]

theorem run_append_zero (t ty e : TypeId) (i : TypeInfo) (ht : Try.prog.underlying t = some (.slice e)) (hi : Try.prog.info? e = some i) (A : Option Addr) (c : Nat) (w : World) :
    (Builtin.append_ #[t, t] ty #[.slice none 0 0, .slice A 0 c]).run Try.prog w = .ok (.slice none 0 0) w := by
  cases A <;> simp [Builtin.append_, run_underlying ht, sizeOf, typeInfo, hi, Builtin.lenOf, Builtin.firstCells, loadCells, loadCellsFrom]

theorem wpList_append_zero {w : World} {ops : Array Oper} {rest : List Oper} {o : Oper} {a : Act} {Q : Exit → Act → World → Prop} (hgd : o.guard = none) (s x : Operand) (t e : TypeId)
    (ho : o.op = .call { callee := .builtin .append, args := #[s, x], argTypes := #[t, t] }) (i : TypeInfo) (ht : Try.prog.underlying t = some (.slice e)) (hi : Try.prog.info? e = some i)
    (hs : a.eval s = .slice none 0 0) (A : Option Addr) (c : Nat) (hx : a.eval x = .slice A 0 c) (h : wpList Try.prog ops Q rest (a.put o.dst (.slice none 0 0)) w) : wpList Try.prog ops Q (o :: rest) a w := by
  refine wpList_plain hgd fun K hK => ?_
  have hrun := run_append_zero t o.type e i ht hi A c w
  unfold Oper.wp
  simp [execOp, ho, resolve, invoke, builtin, hs, hx, hrun, Result.andThen]
  exact hK _ _ h

def OwnPost (bs : List UInt8) (w : World) (e : Ending) (w' : World) : Prop := ∃ v, e = .returned v ∧ RowB w' w.heap.size v bs ∧ Only NoneOf w w'

set_option maxRecDepth 100000 in
set_option maxHeartbeats 1000000 in
theorem own_is (A : Option Addr) (n c : Nat) (bs : List UInt8) (w : World) (hn : bs.length = n) (hA : BytesAt w A bs) (hl : n ≤ 35184372088832) : Calls Try.prog 47 #[.slice A n c] w (OwnPost bs w) := by
  obtain ⟨i0, hi, hz0, hz1, hz2⟩ := info_parts info5
  rcases Nat.eq_zero_or_pos n with h0 | h0
  · subst h0
    obtain rfl : bs = [] := List.eq_nil_of_length_eq_zero hn
    go_enter Try.func47, Try.ntmps47
    go_wp2_with (at_builtin; refine wpList_append_zero rfl (.const (.slice none 0 0)) (.tmp 3) 25 5 rfl i0 Try.underlying25 hi rfl A c rfl ?_)
    go_ret
    exact ⟨_, rfl, ⟨by simp, .inl ⟨rfl, rfl⟩⟩, Only.refl _ _⟩
  · obtain ⟨g, off, rfl, hg, hq⟩ := hA 0 bs[0] (List.getElem?_eq_getElem (by omega))
    clear hq hg
    have HA := Lib.hid hA
    have HN := Lib.hid hn
    clear hA hn
    go_enter Try.func47, Try.ntmps47
    go_wp2_with (at_builtin; refine wpList_append_lies w rfl (.const (.slice none 0 0)) (.tmp 3) 25 rfl w.heap.size 5 i0 _ 1 1 Try.underlying25 hi hz0 hz1 hz2 rfl (by decide) (.slice none 0 0) 0 [] rfl ⟨rfl, .inl ⟨rfl, rfl⟩⟩ ⟨g, off, none⟩ n c (bs.map byteV) rfl (by rw [List.length_map, HN.out, Nat.mul_one]) ?_ ?_ h0 (by unfold maxLen; omega) (by omega) (Nat.le_refl _) w.heap.size rfl ?_)
    · intro j u hj
      have hadd : (⟨g, off, none⟩ : Addr).add j = ⟨g, off + j, none⟩ := by unfold Addr.add; split <;> simp_all
      rw [List.getElem?_map] at hj
      obtain ⟨b, hb, rfl⟩ := Option.map_eq_some_iff.1 hj
      obtain ⟨g', off', he, _, h1⟩ := HA.out j b hb
      simp only [Option.some.injEq, Addr.mk.injEq, and_true] at he
      obtain ⟨rfl, rfl⟩ := he
      rw [hadd]
      exact h1
    · intro u hu
      obtain ⟨b, _, rfl⟩ := List.mem_map.1 hu
      rfl
    · intro g' cap w' h1 h2 h3 _
      have H1 := Lib.hid h1
      have H2 := Lib.hid h2
      clear h1 h2 h3
      go_wp2_with fail
      go_ret
      refine ⟨.slice (some ⟨g', 0, none⟩) n cap, by simp, ?_, (only_grown H2.out).mono (fun k _ hk => by simp [Value.ownBlock] at hk)⟩
      have h3 : World.ownsRow w' w.heap.size 5 1 (.slice (some ⟨g', 0, none⟩) n cap) n (bs.map byteV) := by simpa using H1.out
      show World.ownsRow w' w.heap.size 5 1 (.slice (some ⟨g', 0, none⟩) n cap) bs.length (bs.map byteV)
      rw [HN.out]
      exact h3

end Go.Proofs.Ytnonnencdhogiaa

/-
  Layer 14: a store and what its chains hold; weight, Newest, Get.
-/
namespace Go.Proofs.Ytnonnencdhogiaa
open Go.RowKit
open Cb (ChIs Foot TellPost zeroLk)

/-- a version of a key -/
structure Ver where
  st : Int
  bs : List UInt8
  dead : Bool

/-- the blocks that a store turns -/
def Ter (s m : Nat) (C : ByteArray → Option Ch) (k : Nat) : Prop := k = s ∨ k = m ∨ ∃ key c, C key = some c ∧ Foot c.1 c.2.1 k
/-- .. and the blocks U besides -/
def TerU (s m : Nat) (C : ByteArray → Option Ch) (U : Nat → Prop) (k : Nat) : Prop := Ter s m C k ∨ U k
/-- a link holds a version, its bytes apart from what the store turns -/
def Holds (w : World) (T : Nat → Prop) (l : Lk) (x : Ver) : Prop :=
  l.stamp = x.st ∧ l.dead = x.dead ∧ ∃ A c, l.val = .slice A x.bs.length c ∧ BytesAt w A x.bs ∧ (x.bs ≠ [] → ∀ g off, A = some ⟨g, off, none⟩ → ¬ T g)

structure Sto (w : World) (s m n : Nat) (D : MD) (C : ByteArray → Option Ch) (live : Int) (V : ByteArray → List Ver) (U : Nat → Prop) : Prop where
  is : StIs w s m n D C live
  len : ∀ key c, C key = some c → c.2.2.length = (V key).length
  ver : ∀ (key : ByteArray) (c : Ch), C key = some c → ∀ (i : Nat) (l : Lk) (x : Ver), c.2.2[i]? = Option.some l → (V key)[i]? = Option.some x → Holds w (TerU s m C U) l x
  nov : ∀ key, C key = Option.none → V key = []
  has : ∀ key c, C key = some c → V key ≠ []

theorem info92 : (Try.prog.info? 92).map (·.size) = some 3 := by kernel_rfl
theorem one_lk (st : Int) (A : Option Addr) (n c : Nat) (dead : Bool) : (#[.int .i64 st, .slice A n c, .bool dead] : Array Value).all (·.oneCell') = true := by simp [Value.oneCell']

theorem snoc_of {α : Type} : ∀ {l : List α}, l ≠ [] → ∃ a x, l = a ++ [x]
  | [], h => absurd rfl h
  | [x], _ => ⟨[], x, rfl⟩
  | x :: y :: l, _ => by
    obtain ⟨a, z, h⟩ := snoc_of (l := y :: l) (by simp)
    exact ⟨x :: a, z, by rw [h]; rfl⟩

/-- what the last version weighs -/
def wgt (key : ByteArray) (xs : List Ver) : Int := match xs.getLast? with
  | none => 0
  | some x => if x.dead then 0 else key.size + x.bs.length

/-- the last link of a key's chain, and the version that it holds -/
theorem Sto.last {w : World} {s m n : Nat} {D : MD} {C : ByteArray → Option Ch} {live : Int} {V : ByteArray → List Ver} {U : Nat → Prop} (h : Sto w s m n D C live V U) {key : ByteArray} {c : Ch} (hc : C key = some c) :
    ∃ ls l xs x, c.2.2 = ls ++ [l] ∧ V key = xs ++ [x] ∧ Holds w (TerU s m C U) l x := by
  obtain ⟨xs, x, hx⟩ := snoc_of (h.has key c hc)
  have hl := h.len key c hc
  have hne : c.2.2 ≠ [] := fun e => by rw [e, hx] at hl; simp at hl
  obtain ⟨ls, l, hls⟩ := snoc_of hne
  rw [hls, hx] at hl
  simp at hl
  refine ⟨ls, l, xs, x, hls, hx, h.ver key c hc ls.length l x (by rw [hls]; simp) (by rw [hx, hl]; simp)⟩

set_option maxRecDepth 100000 in
set_option maxHeartbeats 1000000 in
theorem weight_is (w : World) (s m n : Nat) (D : MD) (C : ByteArray → Option Ch) (live : Int) (V : ByteArray → List Ver) {U : Nat → Prop} (key : ByteArray) (hk : key.size ≤ 255) (h : Sto w s m n D C live V U) (hv : ∀ x ∈ V key, x.bs.length ≤ 4096) :
    Calls Try.prog 45 #[.pointer (some ⟨s, 0, none⟩), .string key] w fun e w' => e = .returned (.int .i64 (wgt key (V key))) ∧ Only NoneOf w w' := by
  have hof := of_is w s m n D C live key (by unfold maxLen; omega) h.is
  cases hc : C key with
  | none =>
    have HV := Lib.hid (show wgt key (V key) = 0 by rw [h.nov key hc]; rfl)
    rw [hc] at hof
    have HL := fun u => Lib.hid (Cb.last_nil u)
    have HOf := Lib.hid hof
    clear h hv hof hc
    rw [HV.out]
    go_enter Try.func45, Try.ntmps45
    go_wp2_with fail
    refine HOf.out.mono ?_; rintro e w1 ⟨rfl, rfl⟩
    go_wp2_with fail
    refine (HL _).out.mono ?_; rintro e w1 ⟨rfl, ho1⟩
    have hB := Blk.new w1 92 zeroLk
    have HO := Lib.hid (((ho1.alloc (.cells zeroLk 92)).row (b := w1.heap.size) (.inr ho1.size) zeroLk))
    clear ho1
    go_wp2_with (first | (refine wpList_store_row rfl 92 (.tmp 5) (.tmp 12) rfl w1.heap.size zeroLk rfl rfl 92 zeroLk hB info92 rfl (one_lk _ _ _ _ _) ?_) | fail)
    go_ret
    exact ⟨rfl, HO.out⟩
  | some c =>
    obtain ⟨ls, l, xs, x, e1, e2, hst, hd, A, cp, hval, _, _⟩ := h.last hc
    have hch := h.is.chains key c hc
    rw [e1] at hch
    rw [hc] at hof
    have hxl := hv x (by rw [e2]; simp)
    have HL := Lib.hid (Cb.last_has w c.1 c.2.1 ls l hch)
    have HOf := Lib.hid hof
    obtain ⟨lst, lv, ld⟩ := l
    simp only at hst hd hval
    subst hst; subst hd; subst hval
    have HV := Lib.hid (show wgt key (V key) = if x.dead then 0 else (key.size : Int) + x.bs.length by rw [e2]; unfold wgt; rw [List.getLast?_concat])
    clear h hv hof hc e1 e2 hch
    rw [HV.out]
    generalize x.bs.length = nb at *
    generalize x.st = xst at *
    cases hdd : x.dead
    · rw [hdd] at HL
      go_enter Try.func45, Try.ntmps45
      go_wp2_with fail
      refine HOf.out.mono ?_; rintro e w1 ⟨rfl, rfl⟩
      go_wp2_with fail
      refine HL.out.mono ?_; rintro e w1 ⟨rfl, ho1⟩
      have hB := Blk.new w1 92 zeroLk
      have E5 := hB.row #[.int .i64 xst, .slice A nb cp, .bool false]
      have HO := Lib.hid (((ho1.alloc (.cells zeroLk 92)).row (b := w1.heap.size) (.inr ho1.size) #[.int .i64 xst, .slice A nb cp, .bool false]))
      have k1 := E5.cellv 1 rfl
      have k2 := E5.cellv 2 rfl
      clear ho1 E5
      go_wp2_with (first | (refine wpList_store_row rfl 92 (.tmp 5) (.tmp 12) rfl w1.heap.size #[.int .i64 xst, .slice A nb cp, .bool false] rfl rfl 92 zeroLk hB info92 rfl (one_lk _ _ _ _ _) ?_) | fail)
      go_ret
      exact ⟨by simp, HO.out⟩
    · rw [hdd] at HL
      go_enter Try.func45, Try.ntmps45
      go_wp2_with fail
      refine HOf.out.mono ?_; rintro e w1 ⟨rfl, rfl⟩
      go_wp2_with fail
      refine HL.out.mono ?_; rintro e w1 ⟨rfl, ho1⟩
      have hB := Blk.new w1 92 zeroLk
      have E5 := hB.row #[.int .i64 xst, .slice A nb cp, .bool true]
      have HO := Lib.hid (((ho1.alloc (.cells zeroLk 92)).row (b := w1.heap.size) (.inr ho1.size) #[.int .i64 xst, .slice A nb cp, .bool true]))
      have k2 := E5.cellv 2 rfl
      clear ho1 E5
      go_wp2_with (first | (refine wpList_store_row rfl 92 (.tmp 5) (.tmp 12) rfl w1.heap.size #[.int .i64 xst, .slice A nb cp, .bool true] rfl rfl 92 zeroLk hB info92 rfl (one_lk _ _ _ _ _) ?_) | fail)
      go_ret
      exact ⟨by simp, HO.out⟩

set_option maxRecDepth 100000 in
set_option maxHeartbeats 1000000 in
/-- Newest's answer -/
theorem newest_is (w : World) (s m n : Nat) (D : MD) (C : ByteArray → Option Ch) (live : Int) (V : ByteArray → List Ver) {U : Nat → Prop} (key : ByteArray) (hk : key.size ≤ maxLen) (h : Sto w s m n D C live V U) :
    Calls Try.prog 26 #[.pointer (some ⟨s, 0, none⟩), .string key] w fun e w' => e = .returned (match (V key).getLast? with | none => .tuple #[.int .i64 0, .bool false] | some x => .tuple #[.int .i64 x.st, .bool true]) ∧ Only NoneOf w w' := by
  have hof := of_is w s m n D C live key hk h.is
  cases hc : C key with
  | none =>
    have HV := h.nov key hc
    rw [hc] at hof
    have HL := fun u => Lib.hid (Cb.last_nil u)
    have HOf := Lib.hid hof
    clear h hof hc
    rw [HV]
    go_enter Try.func26, Try.ntmps26
    go_wp2_with fail
    refine HOf.out.mono ?_; rintro e w1 ⟨rfl, rfl⟩
    go_wp2_with fail
    refine (HL _).out.mono ?_; rintro e w1 ⟨rfl, ho1⟩
    have hB := Blk.new w1 92 zeroLk
    have k0 := (hB.row zeroLk).cellv 0 rfl
    have HO := Lib.hid (((ho1.alloc (.cells zeroLk 92)).row (b := w1.heap.size) (.inr ho1.size) zeroLk))
    clear ho1
    go_wp2_with (first | (refine wpList_store_row rfl 92 (.tmp 6) (.tmp 13) rfl w1.heap.size zeroLk rfl rfl 92 zeroLk hB info92 rfl (one_lk _ _ _ _ _) ?_) | fail)
    go_ret2
    exact ⟨rfl, HO.out⟩
  | some c =>
    obtain ⟨ls, l, xs, x, e1, e2, hst, hd, A, cp, hval, _, _⟩ := h.last hc
    have hch := h.is.chains key c hc
    rw [e1] at hch
    rw [hc] at hof
    have HL := Lib.hid (Cb.last_has w c.1 c.2.1 ls l hch)
    have HOf := Lib.hid hof
    obtain ⟨lst, lv, ld⟩ := l
    simp only at hst hd hval
    subst hst; subst hd; subst hval
    have HV := Lib.hid (show (V key).getLast? = some x by rw [e2, List.getLast?_concat])
    clear h hof hc e1 e2 hch
    rw [HV.out]
    obtain ⟨xst, xb, xd⟩ := x
    generalize xb.length = nb at *
    go_enter Try.func26, Try.ntmps26
    go_wp2_with fail
    refine HOf.out.mono ?_; rintro e w1 ⟨rfl, rfl⟩
    go_wp2_with fail
    refine HL.out.mono ?_; rintro e w1 ⟨rfl, ho1⟩
    have hB := Blk.new w1 92 zeroLk
    have k0 := (hB.row #[.int .i64 xst, .slice A nb cp, .bool xd]).cellv 0 rfl
    have HO := Lib.hid (((ho1.alloc (.cells zeroLk 92)).row (b := w1.heap.size) (.inr ho1.size) #[.int .i64 xst, .slice A nb cp, .bool xd]))
    clear ho1
    go_wp2_with (first | (refine wpList_store_row rfl 92 (.tmp 6) (.tmp 13) rfl w1.heap.size #[.int .i64 xst, .slice A nb cp, .bool xd] rfl rfl 92 zeroLk hB info92 rfl (one_lk _ _ _ _ _) ?_) | fail)
    go_ret2
    exact ⟨rfl, HO.out⟩

end Go.Proofs.Ytnonnencdhogiaa

/-
  Layer 14: Get.
-/
namespace Go.Proofs.Ytnonnencdhogiaa
open Go.RowKit
open Cb (ChIs Foot TellPost zeroLk)

/-- the newest version at a stamp -/
def newest (xs : List Ver) (st : Int) : Option Ver := (xs.takeWhile fun x => decide (x.st ≤ st)).getLast?
/-- what Get finds -/
def found (xs : List Ver) (st : Int) : Option (List UInt8) := (newest xs st).bind fun x => if x.dead then none else some x.bs

theorem cnt_ver : ∀ (ls : List Lk) (xs : List Ver) (st : Int), ls.length = xs.length → (∀ (i : Nat) (l : Lk) (x : Ver), ls[i]? = some l → xs[i]? = some x → l.stamp = x.st) → cnt ls st = (xs.takeWhile fun x => decide (x.st ≤ st)).length
  | [], [], _, _, _ => rfl
  | [], _ :: _, _, h, _ => by simp at h
  | _ :: _, [], _, h, _ => by simp at h
  | l :: ls, x :: xs, st, h, hs => by
    have ih := cnt_ver ls xs st (by simpa using h) (fun i l x hl hx => hs (i + 1) l x (by simpa using hl) (by simpa using hx))
    have h0 : l.stamp = x.st := hs 0 l x rfl rfl
    unfold cnt at ih ⊢
    rw [List.takeWhile_cons, List.takeWhile_cons, h0]
    split
    · simp only [List.length_cons]
      rw [ih]
    · rfl
theorem take_at {α : Type} (p : α → Bool) : ∀ (xs : List α) (n : Nat) (x : α), (xs.takeWhile p).length = n + 1 → (xs.takeWhile p).getLast? = some x → xs[n]? = some x
  | xs, n, x, hl, hx => by
    have h1 : (xs.takeWhile p)[n]? = some x := by
      rw [List.getLast?_eq_getElem?, hl] at hx
      exact hx
    have h2 : xs.takeWhile p <+: xs := List.takeWhile_prefix p
    obtain ⟨r, hr⟩ := h2
    rw [← hr, List.getElem?_append_left (by omega)]
    exact h1

theorem Sto.count {w : World} {s m n : Nat} {D : MD} {C : ByteArray → Option Ch} {live : Int} {V : ByteArray → List Ver} {U : Nat → Prop} (h : Sto w s m n D C live V U) {key : ByteArray} {c : Ch} (hc : C key = some c) (st : Int) :
    (newest (V key) st = none ∧ cnt c.2.2 st = 0) ∨ ∃ k l x, newest (V key) st = some x ∧ cnt c.2.2 st = k + 1 ∧ c.2.2[k]? = some l ∧ Holds w (TerU s m C U) l x := by
  have hl := h.len key c hc
  have hcnt := cnt_ver c.2.2 (V key) st hl (fun i l x h1 h2 => (h.ver key c hc i l x h1 h2).1)
  unfold newest
  cases hg : ((V key).takeWhile fun x => decide (x.st ≤ st)).getLast? with
  | none =>
    rw [List.getLast?_eq_none_iff] at hg
    rw [hg] at hcnt
    exact .inl ⟨rfl, hcnt⟩
  | some x =>
    have hne : ((V key).takeWhile fun x => decide (x.st ≤ st)) ≠ [] := fun e => by rw [e] at hg; simp at hg
    obtain ⟨k, hk⟩ : ∃ k, ((V key).takeWhile fun x => decide (x.st ≤ st)).length = k + 1 := ⟨_, (Nat.succ_pred_eq_of_pos (List.length_pos_iff.2 hne)).symm⟩
    have hx := take_at _ (V key) k x hk hg
    have hkl : k < c.2.2.length := by rw [hl]; exact (List.getElem?_eq_some_iff.1 hx).1
    exact .inr ⟨k, c.2.2[k], x, rfl, hcnt.trans hk, List.getElem?_eq_getElem hkl, h.ver key c hc k _ x (List.getElem?_eq_getElem hkl) hx⟩

def GetIs (R : Option (List UInt8)) (w : World) (e : Ending) (w' : World) : Prop :=
  (match R with
    | none => e = .returned (.tuple #[.slice none 0 0, .bool false])
    | some bs => ∃ v, e = .returned (.tuple #[v, .bool true]) ∧ RowB w' w.heap.size v bs) ∧ Only NoneOf w w'

set_option maxRecDepth 100000 in
set_option maxHeartbeats 2000000 in
theorem get_is (w : World) (s m n : Nat) (D : MD) (C : ByteArray → Option Ch) (live : Int) (V : ByteArray → List Ver) {U : Nat → Prop} (key : ByteArray) (st : Int) (hk : key.size ≤ maxLen) (h : Sto w s m n D C live V U) (hv : ∀ x ∈ V key, x.bs.length ≤ 4096) :
    Calls Try.prog 23 #[.pointer (some ⟨s, 0, none⟩), .string key, .int .i64 st] w (GetIs (found (V key) st) w) := by
  have hof := of_is w s m n D C live key hk h.is
  obtain ⟨R, HR⟩ : ∃ R, Hid (found (V key) st = R) := ⟨_, Lib.hid rfl⟩
  rw [HR.out]
  have miss : ∀ v0, chPtr (C key) = v0 → (∀ u, Only NoneOf w u → True) → Hid (Calls Try.prog 48 #[v0, .int .i64 st] w (TellPost zeroLk false w)) → R = none →
      Calls Try.prog 23 #[.pointer (some ⟨s, 0, none⟩), .string key, .int .i64 st] w (GetIs R w) := by
    intro v0 hv0 _ HA hR
    have HRN := Lib.hid hR
    rw [hv0] at hof
    have HOf := Lib.hid hof
    clear h hv hof hv0 hR HR
    go_enter Try.func23, Try.ntmps23
    go_wp2_with fail
    refine HOf.out.mono ?_; rintro e w1 ⟨rfl, rfl⟩
    go_wp2_with fail
    refine HA.out.mono ?_; rintro e w1 ⟨rfl, ho1⟩
    have hB := Blk.new w1 92 zeroLk
    have HO := Lib.hid (((ho1.alloc (.cells zeroLk 92)).row (b := w1.heap.size) (.inr ho1.size) zeroLk))
    clear ho1
    go_wp2_with (first | (refine wpList_store_row rfl 92 (.tmp 8) (.tmp 16) rfl w1.heap.size zeroLk rfl rfl 92 zeroLk hB info92 rfl (one_lk _ _ _ _ _) ?_) | fail)
    go_ret2
    rw [HRN.out]
    exact ⟨rfl, HO.out⟩
  cases hc : C key with
  | none =>
    refine miss _ rfl (fun _ _ => trivial) (by rw [hc]; exact Lib.hid (Cb.at_nil w st)) ?_
    rw [← HR.out, h.nov key hc]
    rfl
  | some c =>
    have hch := h.is.chains key c hc
    rcases h.count hc st with ⟨h1, h2⟩ | ⟨k, l, x, h1, h2, h3, hst, hd, A, cp, hval, hby, _⟩
    · refine miss _ rfl (fun _ _ => trivial) (by rw [hc]; exact Lib.hid (Cb.at_none w c.1 c.2.1 c.2.2 st hch h2)) ?_
      rw [← HR.out]
      unfold found
      rw [h1]
      rfl
    · have HA := Lib.hid (Cb.at_has w c.1 c.2.1 c.2.2 st k l hch h2 h3)
      rw [hc] at hof
      have HOf := Lib.hid hof
      have hxl : x.bs.length ≤ 4096 := hv x ((List.takeWhile_prefix _).subset (List.mem_of_getLast? h1))
      obtain ⟨lst, lv, ld⟩ := l
      simp only at hst hd hval
      subst hst; subst hd; subst hval
      have HRR := Lib.hid (show R = if x.dead then none else some x.bs by rw [← HR.out]; unfold found; rw [h1]; rfl)
      have HBY := Lib.hid hby
      clear h hv hof hc hch h1 h2 h3 hby HR miss
      obtain ⟨xst, xb, xd⟩ := x
      obtain ⟨nb, hnb⟩ : ∃ nb, xb.length = nb := ⟨_, rfl⟩
      have HNB := Lib.hid hnb
      simp only [hnb] at HA hxl
      have HOW := fun u (ho : Only NoneOf w u) => Lib.hid (own_is A nb cp xb u hnb (HBY.out.keep ho) (by omega))
      clear hnb
      cases xd
      · have HRN := Lib.hid (show R = some xb from HRR.out)
        go_enter Try.func23, Try.ntmps23
        go_wp2_with fail
        refine HOf.out.mono ?_; rintro e w1 ⟨rfl, rfl⟩
        go_wp2_with fail
        refine HA.out.mono ?_; rintro e w1 ⟨rfl, ho1⟩
        have hB := Blk.new w1 92 zeroLk
        have E5 := hB.row #[.int .i64 xst, .slice A nb cp, .bool false]
        have HO := Lib.hid (((ho1.alloc (.cells zeroLk 92)).row (b := w1.heap.size) (.inr ho1.size) #[.int .i64 xst, .slice A nb cp, .bool false]))
        have k1 := E5.cellv 1 rfl
        have k2 := E5.cellv 2 rfl
        clear ho1 E5
        go_wp2_with (first | (refine wpList_store_row rfl 92 (.tmp 8) (.tmp 16) rfl w1.heap.size #[.int .i64 xst, .slice A nb cp, .bool false] rfl rfl 92 zeroLk hB info92 rfl (one_lk _ _ _ _ _) ?_) | fail)
        refine (HOW _ HO.out).out.mono ?_; rintro e w2 ⟨v, rfl, hr, ho2⟩
        have HR2 := Lib.hid hr
        have HO2 := Lib.hid (HO.out.trans ho2)
        have hsz := HO.out.size
        clear hr ho2
        go_wp2_with fail
        go_ret2
        rw [HRN.out]
        refine ⟨⟨v, rfl, HR2.out.1, ?_⟩, HO2.out⟩
        rcases HR2.out.2 with h0 | ⟨g, cap, cur, hv, hb, r⟩
        · exact .inl h0
        · exact .inr ⟨g, cap, cur, hv, Nat.le_trans hsz hb, r⟩
      · have HRN := Lib.hid (show R = none from HRR.out)
        go_enter Try.func23, Try.ntmps23
        go_wp2_with fail
        refine HOf.out.mono ?_; rintro e w1 ⟨rfl, rfl⟩
        go_wp2_with fail
        refine HA.out.mono ?_; rintro e w1 ⟨rfl, ho1⟩
        have hB := Blk.new w1 92 zeroLk
        have E5 := hB.row #[.int .i64 xst, .slice A nb cp, .bool true]
        have HO := Lib.hid (((ho1.alloc (.cells zeroLk 92)).row (b := w1.heap.size) (.inr ho1.size) #[.int .i64 xst, .slice A nb cp, .bool true]))
        have k2 := E5.cellv 2 rfl
        clear ho1 E5
        go_wp2_with (first | (refine wpList_store_row rfl 92 (.tmp 8) (.tmp 16) rfl w1.heap.size #[.int .i64 xst, .slice A nb cp, .bool true] rfl rfl 92 zeroLk hB info92 rfl (one_lk _ _ _ _ _) ?_) | fail)
        go_ret2
        rw [HRN.out]
        exact ⟨rfl, HO.out⟩

end Go.Proofs.Ytnonnencdhogiaa

/-
  Layer 14: what stays of a store, and a store with a version more.
-/
namespace Go.Proofs.Ytnonnencdhogiaa
open Go.RowKit
open Cb (ChIs Foot)

theorem map_only {w w' : World} {S : Nat → Prop} {m n : Nat} {D : MD} (h : w.ownsMap Try.prog 9 RP m n D) (ho : Only S w w') (hS : ¬ S m) : w'.ownsMap Try.prog 9 RP m n D := by
  have hlt := h.lt
  obtain ⟨es, clock, hb, r⟩ := h
  exact ⟨es, clock, (ho.block m hlt hS).trans hb, r⟩

theorem Holds.turn {w w' : World} {S T T' : Nat → Prop} {l : Lk} {x : Ver} (h : Holds w T l x) (ho : Only S w w') (hS : ∀ g, g < w.heap.size → ¬ T g → ¬ S g) (hT : ∀ g, g < w.heap.size → ¬ T g → ¬ T' g) : Holds w' T' l x := by
  obtain ⟨h1, h2, A, c, hval, hby, hap⟩ := h
  refine ⟨h1, h2, A, c, hval, ?_, fun hne g off hA => ?_⟩
  · intro i b hb
    obtain ⟨g, off, hA, hg, hc⟩ := hby i b hb
    have hne : x.bs ≠ [] := fun e => by rw [e] at hb; simp at hb
    exact ⟨g, off, hA, Nat.lt_of_lt_of_le hg ho.size, (ho.cell (p := ⟨g, off + i, none⟩) hg (hS g hg (hap hne g off hA))).trans hc⟩
  · have h0 : x.bs[0]? = some (x.bs[0]'(List.length_pos_iff.2 hne)) := List.getElem?_eq_getElem _
    obtain ⟨g', off', hA', hg', _⟩ := hby 0 _ h0
    rw [hA] at hA'
    simp only [Option.some.injEq, Addr.mk.injEq, and_true] at hA'
    obtain ⟨rfl, rfl⟩ := hA'
    exact hT g hg' (hap hne g off hA)

theorem StIs.ter_lt {w : World} {s m n : Nat} {D : MD} {C : ByteArray → Option Ch} {live : Int} (h : StIs w s m n D C live) {k : Nat} (hk : Ter s m C k) : k < w.heap.size := by
  rcases hk with rfl | rfl | ⟨key, c, hc, hf⟩
  · exact h.blk.lt
  · exact h.map.lt
  · exact (h.chains key c hc).foot_lt hf

theorem Sto.keep {w w' : World} {s m n : Nat} {D : MD} {C : ByteArray → Option Ch} {live : Int} {V : ByteArray → List Ver} {U : Nat → Prop} (h : Sto w s m n D C live V U) (ho : Only NoneOf w w') : Sto w' s m n D C live V U :=
  ⟨⟨h.is.blk.only ho (fun h => h), map_only h.is.map ho (fun h => h), h.is.keys, fun key c hc => (h.is.chains key c hc).keep ho, h.is.apart, h.is.far, h.is.sm⟩,
    h.len, fun key c hc i l x hl hx => (h.ver key c hc i l x hl hx).turn ho (fun _ _ _ h => h) (fun _ _ h => h), h.nov, h.has⟩

/-- one key's entry anew -/
def upd {α : Type} (C : ByteArray → α) (key : ByteArray) (c : α) : ByteArray → α := fun k => if k = key then c else C k
theorem upd_same {α : Type} (C : ByteArray → α) (key : ByteArray) (c : α) : upd C key c key = c := if_pos rfl
theorem upd_other {α : Type} (C : ByteArray → α) {key k : ByteArray} (c : α) (h : k ≠ key) : upd C key c k = C k := if_neg h

/-- a key's links -/
def linksOf : Option Ch → List Lk
  | none => []
  | some c => c.2.2

theorem string_ne {a b : ByteArray} (h : a ≠ b) : (Lit.string a.data.toList) ≠ .string b.data.toList := fun e => by
  simp only [Lit.string.injEq] at e
  apply h
  apply ByteArray.ext
  exact Array.ext' e

theorem Sto.add {W w : World} {s m n : Nat} {D : MD} {C : ByteArray → Option Ch} {live : Int} {V : ByteArray → List Ver} {U : Nat → Prop} {key : ByteArray} {p : Nat} {v' : Value} {l : Lk} {x : Ver}
    (h : Sto W s m n D C live V U) (ho : Only (fun k => k = m ∨ ∃ c, C key = some c ∧ Foot c.1 c.2.1 k) W w) (hA : ChIs w p v' (linksOf (C key) ++ [l])) (hfoot : ∀ k, Foot p v' k → (∃ c, C key = some c ∧ Foot c.1 c.2.1 k) ∨ W.heap.size ≤ k)
    (hown : w.ownsMap Try.prog 9 RP m (n + 1) (D.put (.string key.data.toList) (.lit (.int .i64 p)))) (hx : Holds w (TerU s m (upd C key (some (p, v', linksOf (C key) ++ [l]))) U) l x) :
    Sto w s m (n + 1) (D.put (.string key.data.toList) (.lit (.int .i64 p))) (upd C key (some (p, v', linksOf (C key) ++ [l]))) live (upd V key (V key ++ [x])) U := by
  obtain ⟨c', hc'⟩ : ∃ c', c' = ((p, v', linksOf (C key) ++ [l]) : Ch) := ⟨_, rfl⟩
  have hsF : ∀ c, C key = some c → ∀ k, Foot c.1 c.2.1 k → k ≠ s ∧ k ≠ m := fun c hc k hk => h.is.far key c hc k hk
  have hslt := h.is.blk.lt
  have hmlt := h.is.map.lt
  have hfar : ∀ k, Foot p v' k → k ≠ s ∧ k ≠ m := fun k hk => by
    rcases hfoot k hk with ⟨c, hc, hf⟩ | hk
    · exact hsF c hc k hf
    · exact ⟨by omega, by omega⟩
  have hoth : ∀ k2 c2, k2 ≠ key → C k2 = some c2 → ∀ k, Foot c2.1 c2.2.1 k → ¬ (k = m ∨ ∃ c, C key = some c ∧ Foot c.1 c.2.1 k) := fun k2 c2 hne hc2 k hk h' => by
    rcases h' with rfl | ⟨c, hc, hf⟩
    · exact (h.is.far k2 c2 hc2 _ hk).2 rfl
    · exact h.is.apart key k2 c c2 hc hc2 (Ne.symm hne) k hf hk
  have happ : ∀ k2 c2, k2 ≠ key → C k2 = some c2 → ∀ k, Foot p v' k → ¬ Foot c2.1 c2.2.1 k := fun k2 c2 hne hc2 k hk h2 => by
    rcases hfoot k hk with ⟨c, hc, hf⟩ | hge
    · exact h.is.apart key k2 c c2 hc hc2 (Ne.symm hne) k hf h2
    · have := (h.is.chains k2 c2 hc2).foot_lt h2
      omega
  have hT : ∀ g, g < W.heap.size → ¬ TerU s m C U g → ¬ TerU s m (upd C key (some (p, v', linksOf (C key) ++ [l]))) U g := fun g hg hn' ht => by
    have hn : ¬ Ter s m C g := fun h => hn' (.inl h)
    rcases ht with (rfl | rfl | ⟨k2, c2, hc2, hf⟩) | hu
    case inr => exact hn' (.inr hu)
    · exact hn (.inl rfl)
    · exact hn (.inr (.inl rfl))
    · by_cases e : k2 = key
      · rw [e, upd_same] at hc2
        cases hc2
        rcases hfoot g hf with ⟨c, hc, hf'⟩ | hge
        · exact hn (.inr (.inr ⟨key, c, hc, hf'⟩))
        · omega
      · rw [upd_other _ _ e] at hc2
        exact hn (.inr (.inr ⟨k2, c2, hc2, hf⟩))
  have hS : ∀ g, g < W.heap.size → ¬ TerU s m C U g → ¬ (g = m ∨ ∃ c, C key = some c ∧ Foot c.1 c.2.1 g) := fun g _ hn' h' => by
    have hn : ¬ Ter s m C g := fun h => hn' (.inl h)
    rcases h' with rfl | ⟨c, hc, hf⟩
    · exact hn (.inr (.inl rfl))
    · exact hn (.inr (.inr ⟨key, c, hc, hf⟩))
  refine ⟨⟨h.is.blk.only ho ?_, hown, fun k zd hk => ?_, fun k c hc => ?_, fun k k2 c c2 hc hc2 hne f hf hf2 => ?_, fun k c hc f hf => ?_, h.is.sm⟩, fun k c hc => ?_, fun k c hc i l2 x2 hl2 hx2 => ?_, fun k hc => ?_, fun k c hc => ?_⟩
  · rintro (e | ⟨c, hc, hf⟩)
    · exact h.is.sm e
    · exact (hsF c hc s hf).1 rfl
  · by_cases e : k = key
    · subst e
      rw [upd_same, Go.Maps.atKey_put_same (k := .string k.data.toList) (by obtain ⟨es, clock, _, _, _, hD⟩ := h.is.map; exact ⟨_, hD⟩) trivial]
    · rw [upd_other _ _ e, Go.Maps.atKey_put_other (string_ne e)]
      exact h.is.keys k zd hk
  · by_cases e : k = key
    · rw [e, upd_same] at hc
      cases hc
      exact hA
    · rw [upd_other _ _ e] at hc
      exact (h.is.chains k c hc).only ho (hoth k c e hc)
  · by_cases e : k = key
    · by_cases e2 : k2 = key
      · exact hne (e.trans e2.symm)
      · rw [e, upd_same] at hc
        rw [upd_other _ _ e2] at hc2
        cases hc
        exact happ k2 c2 e2 hc2 f hf hf2
    · rw [upd_other _ _ e] at hc
      by_cases e2 : k2 = key
      · rw [e2, upd_same] at hc2
        cases hc2
        exact happ k c e hc f hf2 hf
      · rw [upd_other _ _ e2] at hc2
        exact h.is.apart k k2 c c2 hc hc2 hne f hf hf2
  · by_cases e : k = key
    · rw [e, upd_same] at hc
      cases hc
      exact hfar f hf
    · rw [upd_other _ _ e] at hc
      exact h.is.far k c hc f hf
  · by_cases e : k = key
    · rw [e, upd_same] at hc
      cases hc
      rw [e, upd_same]
      have : (linksOf (C key)).length = (V key).length := by
        cases hk : C key with
        | none => rw [h.nov key hk]; rfl
        | some c => exact h.len key c hk
      simp [this]
    · rw [upd_other _ _ e] at hc ⊢
      exact h.len k c hc
  · by_cases e : k = key
    · rw [e, upd_same] at hc
      cases hc
      rw [e, upd_same] at hx2
      have hll : (linksOf (C key)).length = (V key).length := by
        cases hk : C key with
        | none => rw [h.nov key hk]; rfl
        | some c => exact h.len key c hk
      by_cases hi : i < (V key).length
      · have hl2' : (linksOf (C key) ++ [l])[i]? = some l2 := hl2
        rw [List.getElem?_append_left (by omega)] at hl2' hx2
        cases hk : C key with
        | none => rw [hk] at hl2'; simp [linksOf] at hl2'
        | some c =>
          rw [hk] at hl2'
          have := (h.ver key c hk i l2 x2 hl2' hx2).turn ho hS hT
          rw [hk] at this
          exact this
      · have hl2' : (linksOf (C key) ++ [l])[i]? = some l2 := hl2
        have hil : i = (V key).length := by
          have := (List.getElem?_eq_some_iff.1 hx2).1
          simp at this
          omega
        rw [hil, List.getElem?_append_right (Nat.le_refl _), Nat.sub_self] at hx2
        rw [hil, ← hll, List.getElem?_append_right (Nat.le_refl _), Nat.sub_self] at hl2'
        simp at hx2 hl2'
        rw [← hx2, ← hl2']
        exact hx
    · rw [upd_other _ _ e] at hc hx2
      exact (h.ver k c hc i l2 x2 hl2 hx2).turn ho hS hT
  · by_cases e : k = key
    · rw [e, upd_same] at hc
      cases hc
    · rw [upd_other _ _ e] at hc ⊢
      exact h.nov k hc
  · by_cases e : k = key
    · rw [e, upd_same]
      simp
    · rw [upd_other _ _ e] at hc ⊢
      exact h.has k c hc

end Go.Proofs.Ytnonnencdhogiaa

/-
  A region that draws its order, whose calls make memory but turn nothing that was there: one walk of the text's order.
-/
namespace Go.Proofs.Ytnonnencdhogiaa
open Go.RowKit

/-- The worlds in which nothing of W has turned. -/
def Aft (W w : World) : Prop := Only NoneOf W w

section
variable {P : Program} {ops : Array Oper} {W : World} {Q : Act → Prop} {a : Act} {o : Oper} {rest : List Oper}

theorem wp_region_aft {id : Nat} {Q : Exit → Act → World → Prop} {l : List Oper} (hm : P.follows .mixedOrders = true) (hB : Region.lexB .any l.toArray = true)
    (h : wpQuiet P l.toArray (Aft W) (fun a' => ∀ w', Aft W w' → Q .normal a' w') l a) : (Code.region id l.toArray true).wp P Q a W :=
  wp_region_quiet (C := Aft W) hm hB (Only.refl _ _).drew h

theorem q_at (v : Value) (hg : Region.wanted o (yielded ops a.tmps) = true) (ho : ∀ w, Aft W w → (execOp a.eval o).run P w = .ok (.value v) w) (hk : wpQuiet P ops (Aft W) Q rest (a.put o.dst v)) : wpQuiet P ops (Aft W) Q (o :: rest) a :=
  wpQuiet_step fun K hK => by
    rw [if_pos hg]
    exact ⟨v, fun w hw => by unfold Oper.quietAt; rw [ho w hw]; exact ⟨rfl, rfl⟩, hK _ hk⟩

theorem q_pure (v : Value) (hg : Region.wanted o (yielded ops a.tmps) = true) (ho : ∀ w, (execOp a.eval o).run P w = .ok (.value v) w) (hk : wpQuiet P ops (Aft W) Q rest (a.put o.dst v)) : wpQuiet P ops (Aft W) Q (o :: rest) a :=
  q_at v hg (fun w _ => ho w) hk

theorem q_skip (hg : Region.wanted o (yielded ops a.tmps) = false) (hk : wpQuiet P ops (Aft W) Q rest (a.put o.dst undef)) : wpQuiet P ops (Aft W) Q (o :: rest) a :=
  wpQuiet_step fun K hK => by
    rw [if_neg (by rw [hg]; exact Bool.false_ne_true)]
    exact hK _ hk

theorem q_move (x : Operand) (hg : Region.wanted o (yielded ops a.tmps) = true) (h : o.op = .move x ∨ o.op = .assign x) (hk : wpQuiet P ops (Aft W) Q rest (a.put o.dst (a.eval x))) : wpQuiet P ops (Aft W) Q (o :: rest) a :=
  q_pure _ hg (fun w => by rcases h with h | h <;> simp [execOp, h]) hk

theorem q_call (f : FuncId) (args : Array Value) (v : Value) (hg : Region.wanted o (yielded ops a.tmps) = true) (ho : ∀ w, (execOp a.eval o).run P w = .ok (.enter f args) w) (hc : ∀ u, Hid (Calls P f args u (Ans v u)))
    (hk : wpQuiet P ops (Aft W) Q rest (a.put o.dst v)) : wpQuiet P ops (Aft W) Q (o :: rest) a :=
  wpQuiet_step fun K hK => by
    rw [if_pos hg]
    exact ⟨v, fun w hw => by unfold Oper.quietAt; rw [ho w]; exact ⟨rfl, (hc w).out.mono fun e w' ⟨he, h⟩ => ⟨he, Only.trans hw h⟩⟩, hK _ hk⟩

theorem q_same (f : FuncId) (args : Array Value) (v : Value) (hg : Region.wanted o (yielded ops a.tmps) = true) (ho : ∀ w, (execOp a.eval o).run P w = .ok (.enter f args) w) (hc : ∀ u, Hid (Calls P f args u (Same v u)))
    (hk : wpQuiet P ops (Aft W) Q rest (a.put o.dst v)) : wpQuiet P ops (Aft W) Q (o :: rest) a :=
  q_call f args v hg ho (fun u => Lib.hid ((hc u).out.mono fun _ _ ⟨he, h⟩ => ⟨he, h ▸ Only.refl _ _⟩)) hk

theorem q_load (ty : TypeId) (x : Operand) (g : Nat) (t : TypeId) (cs : Array Value) (d : TypeDesc) (hg : Region.wanted o (yielded ops a.tmps) = true) (ho : o.op = .load ty x) (hx : a.eval x = .pointer (some ⟨g, 0, none⟩)) (hB : Blk W g t cs)
    (hu : P.underlying ty = some d) (hd : (match d with | .struct _ | .array _ _ => true | _ => false) = true) (hi : (P.info? ty).map (·.size) = some cs.size)
    (hk : wpQuiet P ops (Aft W) Q rest (a.put o.dst (.agg cs))) : wpQuiet P ops (Aft W) Q (o :: rest) a :=
  q_at _ hg (fun w hw => by
    have hB' : Blk w g t cs := hB.only hw (fun h => h)
    unfold execOp
    simp only [ho, hx, Instr.loadAt, Instr.sureAddr, Sem.run_bind, Sem.run_pure, Result.andThen_ok, run_loadVar_row w g t ty cs _ d hB' hu hd hi]) hk
end

end Go.Proofs.Ytnonnencdhogiaa

/-
  A region that draws its order: operations that make memory or only read, in any order, and behind them a tail in order.
-/
namespace Go.Proofs.Ytnonnencdhogiaa
open Go.RowKit

def dstOf (ops : Array Oper) (i : Nat) : Tmp := ((ops[i]?).bind (·.dst)).getD 0

/-- The first n operations have no guard, each a slot of its own, and wait only for earlier ones. -/
def headB (ops : Array Oper) (n : Nat) : Bool :=
  (List.range n).all fun i => match ops[i]? with
    | some o => o.guard.isNone && o.dst.isSome && (o.after.all fun e => !Region.binds .any e || decide (e.on < i)) && (List.range n).all fun j => decide (i = j) || !decide (dstOf ops i = dstOf ops j)
    | none => false

section
variable {P : Program} {ops : Array Oper} {W : World} {n : Nat} {a0 : Act} {T : Nat → Value → World → Prop} {al : Nat → Bool}

structure HInv (ops : Array Oper) (n : Nat) (a0 : Act) (W : World) (T : Nat → Value → World → Prop) (al : Nat → Bool) (listed : Array Bool) (a : Act) (w : World) : Prop where
  aft : Aft W w
  defers : a.defers = a0.defers
  size : a.tmps.size = a0.tmps.size
  other : ∀ s, (∀ i, i < n → listed.getD i false = true → dstOf ops i ≠ s) → a.tmps.getD s undef = a0.tmps.getD s undef
  held : ∀ i, i < n → listed.getD i false = true → T i (a.tmps.getD (dstOf ops i) undef) w
  apart : ∀ i j, i < n → j < n → i ≠ j → listed.getD i false = true → listed.getD j false = true → al i = true → al j = true → a.tmps.getD (dstOf ops i) undef ≠ a.tmps.getD (dstOf ops j) undef

/-- What a head operation leaves. -/
def Left (T : Nat → Value → World → Prop) (al : Nat → Bool) (i : Nat) (o : Oper) (a : Act) (w : World) (a' : Act) (w' : World) : Prop :=
  ∃ v, a' = a.put o.dst v ∧ T i v w' ∧ Only NoneOf w w' ∧ (al i = true → ∃ b, v = .pointer (some ⟨b, 0, none⟩) ∧ w.heap.size ≤ b)

theorem headB_spec (h : headB ops n = true) {i : Nat} (hi : i < n) : ∃ o, ops[i]? = some o ∧ o.guard = none ∧ o.dst = some (dstOf ops i) ∧ (∀ e ∈ o.after, Region.binds .any e = true → e.on < i) ∧ ∀ j, j < n → i ≠ j → dstOf ops i ≠ dstOf ops j := by
  have h1 := List.all_eq_true.1 h i (List.mem_range.2 hi)
  cases ho : ops[i]? with
  | none => rw [ho] at h1; cases h1
  | some o =>
    rw [ho] at h1
    simp only [Bool.and_eq_true] at h1
    obtain ⟨⟨⟨h2, h3⟩, h4⟩, h5⟩ := h1
    refine ⟨o, rfl, by simpa using h2, ?_, fun e he hb => ?_, fun j hj hij => ?_⟩
    · obtain ⟨d, hd⟩ := Option.isSome_iff_exists.1 h3
      simp [dstOf, ho, hd]
    · have := Array.all_eq_true_iff_forall_mem.1 h4 e he
      rw [hb] at this
      simpa using this
    · have := List.all_eq_true.1 h5 j (List.mem_range.2 hj)
      simp only [Bool.or_eq_true, decide_eq_true_eq, Bool.not_eq_true', decide_eq_false_iff_not] at this
      exact this.resolve_left hij

theorem put_getD (a : Act) (d s : Tmp) (v : Value) (hd : d < a.tmps.size) : (a.put (some d) v).tmps.getD s undef = if d = s then v else a.tmps.getD s undef := by
  unfold Act.put
  simp only [Array.getD_eq_getD_getElem?, Array.getElem?_setIfInBounds]
  split
  · rename_i h
    subst h
    simp
  · rfl
theorem put_size (a : Act) (d : Option Tmp) (v : Value) : (a.put d v).tmps.size = a.tmps.size := by
  unfold Act.put; split <;> simp
theorem put_defers (a : Act) (d : Option Tmp) (v : Value) : (a.put d v).defers = a.defers := by
  unfold Act.put; split <;> rfl

theorem HInv.put {listed : Array Bool} {a : Act} {w : World} (inv : HInv ops n a0 W T al listed a w) (hb : headB ops n = true) (hd : ∀ i, i < n → dstOf ops i < a0.tmps.size)
    (hT : ∀ i v w w', T i v w → Only NoneOf w w' → T i v w') (hal : ∀ i v w, al i = true → T i v w → ∃ b, v = .pointer (some ⟨b, 0, none⟩) ∧ b < w.heap.size)
    {i : Nat} (hi : i < n) {o : Oper} (ho : ops[i]? = some o) (hun : listed.getD i true = false) {a' : Act} {w' : World} (h : Left T al i o a w a' w') : HInv ops n a0 W T al (listed.setIfInBounds i true) a' w' := by
  obtain ⟨v, rfl, hv, ho', hf⟩ := h
  obtain ⟨o', h1, _, h3, _, h5⟩ := headB_spec hb hi
  obtain rfl : o' = o := Option.some.inj (h1.symm.trans ho)
  have hg := fun s => put_getD a (dstOf ops i) s v (by rw [inv.size]; exact hd i hi)
  rw [h3]
  have hother : ∀ j, j ≠ i → (listed.setIfInBounds i true).getD j false = true → listed.getD j false = true := fun j hj hl => by rwa [getD_set_ne false (Ne.symm hj)] at hl
  have hself : (listed.setIfInBounds i true).getD i false = true := by
    have : i < listed.size := by
      rcases Nat.lt_or_ge i listed.size with h' | h'
      · exact h'
      · simp [Array.getElem?_eq_none h'] at hun
    simp [this]
  refine ⟨Only.trans inv.aft ho', (put_defers _ _ _).trans inv.defers, (put_size _ _ _).trans inv.size, fun s hs => ?_, fun j hj hl => ?_, fun j k hj hk hjk hlj hlk haj hak => ?_⟩
  · rw [hg, if_neg (hs i hi hself)]
    exact inv.other s fun j hj hl => hs j hj (getD_set_true hl)
  · by_cases hji : j = i
    · subst hji
      rw [hg, if_pos rfl]
      exact hv
    · rw [hg, if_neg (h5 j hj (Ne.symm hji))]
      exact hT _ _ _ _ (inv.held j hj (hother j hji hl)) ho'
  · by_cases hji : j = i
    · subst hji
      rw [hg, hg, if_pos rfl, if_neg (h5 k hk hjk)]
      obtain ⟨b, rfl, hb'⟩ := hf haj
      obtain ⟨c, hc, hlt⟩ := hal k _ _ hak (inv.held k hk (hother k (Ne.symm hjk) hlk))
      rw [hc]
      intro he
      injection he with he
      injection he with he
      injection he with he
      omega
    · by_cases hki : k = i
      · subst hki
        rw [hg, hg, if_pos rfl, if_neg (h5 j hj (Ne.symm hji))]
        obtain ⟨b, rfl, hb'⟩ := hf hak
        obtain ⟨c, hc, hlt⟩ := hal j _ _ haj (inv.held j hj (hother j hji hlj))
        rw [hc]
        intro he
        injection he with he
        injection he with he
        injection he with he
        omega
      · rw [hg, hg, if_neg (h5 j hj (Ne.symm hji)), if_neg (h5 k hk (Ne.symm hki))]
        exact inv.apart j k hj hk hjk (hother j hji hlj) (hother k hki hlk) haj hak

/-- the frame at the head's end -/
def endFrame (ops : Array Oper) (n : Nat) (a0 : Act) (V : Nat → Value) : Act := (List.range n).foldl (fun a i => a.put (some (dstOf ops i)) (V i)) a0

theorem foldl_put (F : Tmp → Value) (d : Nat → Tmp) : ∀ (l : List Nat) (a : Act), (∀ i ∈ l, d i < a.tmps.size) →
    (l.foldl (fun a i => a.put (some (d i)) (F (d i))) a).defers = a.defers ∧ (l.foldl (fun a i => a.put (some (d i)) (F (d i))) a).tmps.size = a.tmps.size ∧
    ∀ s, (l.foldl (fun a i => a.put (some (d i)) (F (d i))) a).tmps.getD s undef = if ∃ i ∈ l, d i = s then F s else a.tmps.getD s undef
  | [], a, _ => ⟨rfl, rfl, fun s => by simp⟩
  | i :: l, a, h => by
    obtain ⟨h1, h2, h3⟩ := foldl_put F d l (a.put (some (d i)) (F (d i))) (fun j hj => by rw [put_size]; exact h j (by simp [hj]))
    refine ⟨h1.trans (put_defers _ _ _), h2.trans (put_size _ _ _), fun s => ?_⟩
    rw [List.foldl_cons, h3 s, put_getD _ _ _ _ (h i (by simp))]
    by_cases hs : ∃ j ∈ l, d j = s
    · rw [if_pos hs, if_pos (by obtain ⟨j, hj, e⟩ := hs; exact ⟨j, by simp [hj], e⟩)]
    · rw [if_neg hs]
      by_cases hi : d i = s
      · rw [if_pos hi, if_pos ⟨i, by simp, hi⟩, hi]
      · rw [if_neg hi, if_neg (by
          rintro ⟨j, hj, e⟩
          rcases List.mem_cons.1 hj with rfl | hj
          · exact hi e
          · exact hs ⟨j, hj, e⟩)]

theorem act_ext {a b : Act} (hd : a.defers = b.defers) (hs : a.tmps.size = b.tmps.size) (h : ∀ s, a.tmps.getD s undef = b.tmps.getD s undef) : a = b := by
  obtain ⟨t, d⟩ := a
  obtain ⟨t', d'⟩ := b
  simp only at hd hs h
  subst hd
  congr 1
  refine Array.ext hs fun i h1 h2 => ?_
  have := h i
  simpa [h1, h2] using this

theorem HInv.end {listed : Array Bool} {a : Act} {w : World} (inv : HInv ops n a0 W T al listed a w) (hd : ∀ i, i < n → dstOf ops i < a0.tmps.size) :
    a = endFrame ops n a0 (fun i => a.tmps.getD (dstOf ops i) undef) := by
  obtain ⟨h1, h2, h3⟩ := foldl_put (fun s => a.tmps.getD s undef) (dstOf ops) (List.range n) a0 (fun i hi => hd i (List.mem_range.1 hi))
  refine act_ext (inv.defers.trans h1.symm) (inv.size.trans h2.symm) fun s => ?_
  unfold endFrame
  rw [h3 s]
  split
  · rfl
  · rename_i hs
    exact inv.other s fun i hi _ he => hs ⟨i, List.mem_range.2 hi, he⟩

theorem countP_less (p q : Nat → Bool) (i : Nat) : ∀ l : List Nat, l.Nodup → i ∈ l → p i = true → q i = false → (∀ j, j ≠ i → q j = p j) → l.countP q + 1 = l.countP p
  | [], _, h, _, _, _ => by simp at h
  | j :: l, hn, h, hp, hq, hj => by
    obtain ⟨h1, h2⟩ := List.nodup_cons.1 hn
    by_cases e : j = i
    · subst e
      have hc : l.countP q = l.countP p := List.countP_congr fun k hk => by rw [hj k (fun e => h1 (e ▸ hk))]
      rw [List.countP_cons, List.countP_cons, hp, hq, hc]
      simp
    · have hm : i ∈ l := (List.mem_cons.1 h).resolve_left fun e' => e e'.symm
      rw [List.countP_cons, List.countP_cons, hj j e, ← countP_less p q i l h2 hm hp hq hj]
      omega

def regionB (ops : Array Oper) (n m : Nat) : Bool :=
  decide (n < ops.size) && Region.sinkB .any ops n && Region.chainB .any ops n && headB ops n && ((List.range n).all fun i => decide (dstOf ops i < m)) &&
    Region.seqB .any ops (ops.size - n) n (Array.ofFn fun i : Fin ops.size => decide (i.1 < n))

theorem head_any {Q : Exit → Act → World → Prop} {l : List Oper} {a0 : Act} {W : World} (n m : Nat) (T : Nat → Value → World → Prop) (al : Nat → Bool) (hsz : a0.tmps.size = m) (hB : regionB l.toArray n m = true)
    (hT : ∀ i v w w', T i v w → Only NoneOf w w' → T i v w') (hal : ∀ i v w, al i = true → T i v w → ∃ b, v = .pointer (some ⟨b, 0, none⟩) ∧ b < w.heap.size)
    (hstep : ∀ i o, i < n → l[i]? = some o → ∀ a w, Aft W w → (∀ s, (∀ j, j < n → dstOf l.toArray j ≠ s) → a.tmps.getD s undef = a0.tmps.getD s undef) →
      (∀ j, j < n → Region.waitsFor .any l.toArray i j = true → T j (a.tmps.getD (dstOf l.toArray j) undef) w) → o.wp P a w (Left T al i o a w) Q)
    (hend : ∀ (V : Nat → Value) w, Aft W w → (∀ i, i < n → T i (V i) w) → (∀ i j, i < n → j < n → i ≠ j → al i = true → al j = true → V i ≠ V j) → wpList P l.toArray Q (l.drop n) (endFrame l.toArray n a0 V) w) :
    wpAny P .any l.toArray Q l.toArray.size (Array.replicate l.toArray.size false) a0 { W with drawn := W.drawn + 1 } := by
  simp only [regionB, Bool.and_eq_true, decide_eq_true_eq] at hB
  obtain ⟨⟨⟨⟨⟨hn, hs⟩, hc⟩, hb⟩, hd'⟩, hseq⟩ := hB
  have hd : ∀ i, i < n → dstOf l.toArray i < a0.tmps.size := fun i hi => by
    have := List.all_eq_true.1 hd' i (List.mem_range.2 hi)
    rw [hsz]
    simpa using this
  have hdl : (l.drop n).length = l.toArray.size - n := by simp
  have key : ∀ (f : Nat) (listed : Array Bool) (a : Act) (w : World), (List.range n).countP (fun i => !listed.getD i false) = f → HeadInv .any l.toArray n listed → HInv l.toArray n a0 W T al listed a w →
      wpAny P .any l.toArray Q (f + (l.toArray.size - n)) listed a w := by
    intro f
    induction f with
    | zero =>
      intro listed a w hcount hinv inv
      have hl : ∀ i, i < n → listed.getD i false = true := fun i hi => by
        have := List.countP_eq_zero.1 hcount i (List.mem_range.2 hi)
        simpa using this
      have he : listed = Array.ofFn fun i : Fin l.toArray.size => decide (i.1 < n) := by
        refine Array.ext (by simp [hinv.size]) fun i h1 h2 => ?_
        rw [Array.getElem_ofFn]
        by_cases hi : i < n
        · have := hl i hi
          simpa [h1, hi] using this
        · have := hinv.tail i (by omega) (by rw [← hinv.size]; exact h1)
          simpa [h1, hi] using this
      have hend' := hend (fun i => a.tmps.getD (dstOf l.toArray i) undef) w inv.aft (fun i hi => inv.held i hi (hl i hi)) (fun i j hi hj hij ha hb => inv.apart i j hi hj hij (hl i hi) (hl j hj) ha hb)
      rw [← inv.end hd] at hend'
      have := wpAny_of_seq (md := .any) (Q' := Q) (l.drop n) n listed a w (fun j => by simp [List.getElem?_drop]) (by rw [hdl, he]; exact hseq) hend'
      rw [hdl] at this
      rw [Nat.zero_add]
      exact this
    | succ f ih =>
      intro listed a w hcount hinv inv
      rw [show f + 1 + (l.toArray.size - n) = (f + (l.toArray.size - n)) + 1 by omega]
      -- one that has not come up
      obtain ⟨i0, hi0, hu0⟩ : ∃ i, i < n ∧ listed.getD i false = false := by
        have : 0 < (List.range n).countP (fun i => !listed.getD i false) := by omega
        obtain ⟨i, hi, hu⟩ := List.countP_pos_iff.1 this
        exact ⟨i, List.mem_range.1 hi, by simpa using hu⟩
      have hus : ∀ i, i < n → listed.getD i false = false → listed.getD i true = false := fun i hi hu => getD_in (by rw [hinv.size]; omega) hu
      have htail := tail_waits hs hc hn hinv _ i0 rfl hi0 (hus i0 hi0 hu0)
      refine ⟨fun hr => ?_, fun i hi => ?_⟩
      · exfalso
        -- the least is ready
        have : ∀ k i, i < k → i < n → listed.getD i false = false → ∃ j, j ∈ Region.ready .any l.toArray listed := by
          intro k
          induction k with
          | zero => intro i hi; omega
          | succ k ihk =>
            intro i hik hi hu
            by_cases hlow : ∃ j, j < i ∧ listed.getD j false = false
            · obtain ⟨j, hj, huj⟩ := hlow
              exact ihk j (by omega) (by omega) huj
            · obtain ⟨o, ho, _, _, hback, _⟩ := headB_spec hb hi
              refine ⟨i, mem_ready.2 ⟨hus i hi hu, o, ho, fun e he hbe => ?_⟩⟩
              have hlt := hback e he hbe
              cases hle : listed.getD e.on false with
              | true => rfl
              | false => exact absurd ⟨e.on, hlt, hle⟩ hlow
        obtain ⟨j, hj⟩ := this (i0 + 1) i0 (by omega) hi0 hu0
        rw [hr] at hj
        cases hj
      · have hin : i < n := by
          rcases Nat.lt_or_ge i n with h | h
          · exact h
          · exact absurd hi (htail i h)
        obtain ⟨hun, o, ho, hall⟩ := mem_ready.1 hi
        obtain ⟨o', ho', hgd, _, _, _⟩ := headB_spec hb hin
        obtain rfl : o' = o := Option.some.inj (ho'.symm.trans ho)
        have hw := hstep i o' hin (by simpa using ho) a w inv.aft (fun s hs => inv.other s fun j hj _ => hs j hj) (fun j hj hwt => by
          obtain ⟨oj, hoj, e, he, hbe, hon⟩ := Region.waitsFor_spec hwt
          obtain rfl : oj = o' := Option.some.inj (hoj.symm.trans ho)
          have := hall e he hbe
          rw [hon] at this
          exact inv.held j hj this)
        have hwp : wpOp P l.toArray Q i (Left T al i o' a w) a w := by
          unfold wpOp
          simp only [ho]
          rw [if_pos (by unfold Region.wanted; rw [hgd])]
          exact .inl hw
        refine wpOp_mono (fun a' w' h' => ih _ a' w' ?_ (hinv.set hi hin) (inv.put hb hd hT hal hin ho hun h')) hwp
        have hself : (listed.setIfInBounds i true).getD i false = true := by
          have : i < listed.size := by rw [hinv.size]; omega
          simp [this]
        have := countP_less (fun i => !listed.getD i false) (fun j => !(listed.setIfInBounds i true).getD j false) i (List.range n) List.nodup_range (List.mem_range.2 hin) (by rw [getD_both hun]; rfl) (by rw [hself]; rfl) (fun j hj => by rw [getD_set_ne false (Ne.symm hj)])
        omega
  have h0 := key n (Array.replicate l.toArray.size false) a0 { W with drawn := W.drawn + 1 } (by
      rw [List.countP_eq_length.2 (fun i _ => by rw [getD_replicate_false]; rfl)]
      simp)
    ⟨by simp, fun j oj _ hl => (by rw [getD_replicate_false] at hl; cases hl), fun t _ ht => getD_in (by simpa using ht) (getD_replicate_false _ _)⟩
    ⟨(Only.refl _ _).drew, rfl, rfl, fun _ _ => rfl, fun i _ hl => (by rw [getD_replicate_false] at hl; cases hl), fun i j _ _ _ hl => (by rw [getD_replicate_false] at hl; cases hl)⟩
  rw [show n + (l.toArray.size - n) = l.toArray.size by omega] at h0
  exact h0

theorem wp_region_head {id : Nat} {Q : Exit → Act → World → Prop} {l : List Oper} {a0 : Act} {W : World} (n m : Nat) (T : Nat → Value → World → Prop) (al : Nat → Bool) (hsz : a0.tmps.size = m) (hm : P.follows .mixedOrders = true) (hB : regionB l.toArray n m = true)
    (hT : ∀ i v w w', T i v w → Only NoneOf w w' → T i v w') (hal : ∀ i v w, al i = true → T i v w → ∃ b, v = .pointer (some ⟨b, 0, none⟩) ∧ b < w.heap.size)
    (hstep : ∀ i o, i < n → l[i]? = some o → ∀ a w, Aft W w → (∀ s, (∀ j, j < n → dstOf l.toArray j ≠ s) → a.tmps.getD s undef = a0.tmps.getD s undef) →
      (∀ j, j < n → Region.waitsFor .any l.toArray i j = true → T j (a.tmps.getD (dstOf l.toArray j) undef) w) → o.wp P a w (Left T al i o a w) Q)
    (hend : ∀ (V : Nat → Value) w, Aft W w → (∀ i, i < n → T i (V i) w) → (∀ i j, i < n → j < n → i ≠ j → al i = true → al j = true → V i ≠ V j) → wpList P l.toArray Q (l.drop n) (endFrame l.toArray n a0 V) w) :
    (Code.region id l.toArray true).wp P Q a0 W :=
  wp_region_any hm (head_any n m T al hsz hB hT hal hstep hend)
end

section
variable {P : Program} {T : Nat → Value → World → Prop} {al : Nat → Bool} {i : Nat} {o : Oper} {a : Act} {w : World} {Q : Exit → Act → World → Prop}

theorem left_value (v : Value) (ho : (execOp a.eval o).run P w = .ok (.value v) w) (hal : al i = false) (hv : T i v w) : o.wp P a w (Left T al i o a w) Q := by
  unfold Oper.wp
  rw [ho]
  exact ⟨v, rfl, hv, Only.refl _ _, fun h => by rw [hal] at h; cases h⟩

theorem left_load (ty : TypeId) (x : Operand) (g : Nat) (t : TypeId) (cs : Array Value) (d : TypeDesc) (ho : o.op = .load ty x) (hx : a.eval x = .pointer (some ⟨g, 0, none⟩)) (hB : Blk w g t cs)
    (hu : P.underlying ty = some d) (hd : (match d with | .struct _ | .array _ _ => true | _ => false) = true) (hi : (P.info? ty).map (·.size) = some cs.size) (hal : al i = false) (hv : T i (.agg cs) w) : o.wp P a w (Left T al i o a w) Q :=
  left_value _ (by
    unfold execOp
    simp only [ho, hx, Instr.loadAt, Instr.sureAddr, Sem.run_bind, Sem.run_pure, Result.andThen_ok, run_loadVar_row w g t ty cs _ d hB hu hd hi]) hal hv

theorem left_call (f : FuncId) (args : Array Value) (v : Value) (ho : (execOp a.eval o).run P w = .ok (.enter f args) w) (hc : ∀ u, Hid (Calls P f args u (Ans v u))) (hal : al i = false) (hv : ∀ w', T i v w') : o.wp P a w (Left T al i o a w) Q := by
  unfold Oper.wp
  rw [ho]
  exact (hc w).out.mono fun e w' ⟨he, hw⟩ => by
    subst he
    exact ⟨v, rfl, hv w', hw, fun h => by rw [hal] at h; cases h⟩

theorem left_alloc (cs : Array Value) (t : TypeId) (ho : (execOp a.eval o).run P w = .ok (.value (.pointer (some ⟨w.heap.size, 0, none⟩))) (w.alloc (.cells cs t))) (hv : T i (.pointer (some ⟨w.heap.size, 0, none⟩)) (w.alloc (.cells cs t))) : o.wp P a w (Left T al i o a w) Q := by
  unfold Oper.wp
  rw [ho]
  exact ⟨_, rfl, hv, (Only.refl _ _).alloc _, fun _ => ⟨_, rfl, Nat.le_refl _⟩⟩
end

end Go.Proofs.Ytnonnencdhogiaa

