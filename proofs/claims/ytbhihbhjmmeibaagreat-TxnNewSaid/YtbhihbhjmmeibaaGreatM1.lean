/-
  Texts of this proof, laid together: Heap, C1, C2, C3b, C5b, C3bb, C4b, S1, S2, Rows1, S3, S4, S5, S6, Quiet1, Head1, S7, S8.
-/
import Derived.Test.YtbhihbhjmmeibaaGreatRows
import Derived.Below
import Derived.Laws.OwnMore
import Derived.Laws.Rows
import Derived.Deep.Draws
import Derived.WalkKit
import Derived.WalkSpells
import Derived.WalkLawsBesides
import Derived.Deep.QuietTactic
import Derived.BigQuiet
import Derived.Lib.Hide
import Derived.Deep.LoopGhost
import Derived.RegionTactic
import Derived.ChangeAlike
import Derived.OwnWalk
import Derived.Deep.AppendLies
import Derived.Deep.RegionLaw
import Derived.Maps.Own
import Derived.Maps.Views
import Derived.Maps.OwnOps
import Derived.StillTailTactics
import Derived.Deep.Quiet
import Derived.StillTail
import Derived.Deep.DeepCutAuto
import Derived.Laws.Cover3
/-
  Words for memory that hang on no program: a block that is known whole; a world in which only some blocks, and new ones, have turned.
-/
namespace Go.Proofs.YtbhihbhjmmeibaaGreat
open Go.RowKit

/-- Block b is known whole: its cells, their type, nothing frozen. -/
def Blk (w : World) (b : Nat) (t : TypeId) (cs : Array Value) : Prop := w.heap[b]? = some (.cells cs t (0, 0))

/-- From w to w' only blocks of S, and new ones, have turned. -/
structure Only (S : Nat → Prop) (w w' : World) : Prop where
  os : w'.os = w.os
  tape : w'.tape = w.tape
  output : w'.output = w.output
  size : w.heap.size ≤ w'.heap.size
  block : ∀ k, k < w.heap.size → ¬ S k → w'.heap[k]? = w.heap[k]?

/-- nothing that was there has turned -/
abbrev NoneOf : Nat → Prop := fun _ => False

section
variable {w w' w'' : World} {b b' : Nat} {t : TypeId} {cs : Array Value} {S S' : Nat → Prop}

theorem Blk.lt (h : Blk w b t cs) : b < w.heap.size := by
  unfold Blk at h
  rcases Nat.lt_or_ge b w.heap.size with hl | hl
  · exact hl
  · rw [Array.getElem?_eq_none hl] at h; cases h
theorem Blk.cell (h : Blk w b t cs) (i : Nat) : w.cell? ⟨b, i, none⟩ = cs[i]? := cell_of_row w b i cs t (0, 0) h
theorem Blk.cellv (h : Blk w b t cs) (i : Nat) {v : Value} (hv : cs[i]? = some v) : w.cell? ⟨b, i, none⟩ = some v := (h.cell i).trans hv
theorem Blk.free (h : Blk w b t cs) (i : Nat) : w.frozen? ⟨b, i, none⟩ = false := by
  unfold Blk at h; simp [World.frozen?, h]
theorem Blk.new (w : World) (t : TypeId) (cs : Array Value) : Blk (w.alloc (.cells cs t)) w.heap.size t cs := heap_alloc_new w _
theorem Blk.new' (w : World) (t : TypeId) (cs : Array Value) {n : Nat} (hn : n = w.heap.size) : Blk (w.alloc (.cells cs t)) n t cs := hn ▸ heap_alloc_new w _
theorem Blk.drew (h : Blk w b t cs) : Blk w.drew b t cs := h
theorem Blk.drewN (h : Blk w b t cs) (n : Nat) : Blk (w.drewN n) b t cs := h
theorem Blk.alloc (h : Blk w b t cs) (o : Obj) : Blk (w.alloc o) b t cs := (Below.heap_alloc w o b h.lt).trans h
theorem Blk.put (h : Blk w b t cs) (i : Nat) (u : Value) : Blk (w.setCell ⟨b, i, none⟩ u) b t (cs.setIfInBounds i u) := by
  unfold Blk at h ⊢; simp [World.setCell, Array.getElem?_modify, h]
theorem Blk.far (h : Blk w b t cs) {p : Addr} (hp : b ≠ p.block) (u : Value) : Blk (w.setCell p u) b t cs := (Below.heap_setCell w p u b hp).trans h
theorem Blk.only (h : Blk w b t cs) (ho : Only S w w') (hb : ¬ S b) : Blk w' b t cs := (ho.block b h.lt hb).trans h
theorem Blk.below {B : Nat} (h : Blk w b t cs) (hb : Below B w w') (hlt : b < B) : Blk w' b t cs := (hb.block b hlt).trans h
theorem Blk.uniq {t' : TypeId} {cs' : Array Value} (h : Blk w b t cs) (h' : Blk w b t' cs') : cs = cs' := by
  unfold Blk at h h'; rw [h] at h'; injection h' with h'; injection h'

theorem Only.refl (S : Nat → Prop) (w : World) : Only S w w := ⟨rfl, rfl, rfl, Nat.le_refl _, fun _ _ _ => rfl⟩
theorem Only.trans (h : Only S w w') (k : Only S w' w'') : Only S w w'' :=
  ⟨k.os.trans h.os, k.tape.trans h.tape, k.output.trans h.output, Nat.le_trans h.size k.size, fun i hi hs => (k.block i (Nat.lt_of_lt_of_le hi h.size) hs).trans (h.block i hi hs)⟩
theorem Only.mono (h : Only S w w') (hS : ∀ k, k < w.heap.size → S k → S' k) : Only S' w w' :=
  ⟨h.os, h.tape, h.output, h.size, fun i hi hs => h.block i hi fun k => hs (hS i hi k)⟩
/-- two steps; the second may touch what the first has made -/
theorem Only.step (h : Only S w w') (k : Only S' w' w'') (hS : ∀ k, k < w.heap.size → S' k → S k) : Only S w w'' :=
  ⟨k.os.trans h.os, k.tape.trans h.tape, k.output.trans h.output, Nat.le_trans h.size k.size, fun i hi hs => (k.block i (Nat.lt_of_lt_of_le hi h.size) fun x => hs (hS i hi x)).trans (h.block i hi hs)⟩
theorem Only.drew (h : Only S w w') : Only S w w'.drew := ⟨h.os, h.tape, h.output, h.size, h.block⟩
theorem Only.drewN (h : Only S w w') (n : Nat) : Only S w (w'.drewN n) := ⟨h.os, h.tape, h.output, h.size, h.block⟩
theorem Only.alloc (h : Only S w w') (o : Obj) : Only S w (w'.alloc o) :=
  ⟨h.os, h.tape, h.output, Nat.le_trans h.size (by simp), fun i hi hs => (Below.heap_alloc w' o i (Nat.lt_of_lt_of_le hi h.size)).trans (h.block i hi hs)⟩
theorem Only.put (h : Only S w w') {p : Addr} (hp : S p.block ∨ w.heap.size ≤ p.block) (u : Value) : Only S w (w'.setCell p u) :=
  ⟨h.os, h.tape, h.output, by simpa [World.setCell] using h.size, fun i hi hs => (Below.heap_setCell w' p u i (by
    rintro rfl
    rcases hp with hp | hp
    · exact hs hp
    · omega)).trans (h.block i hi hs)⟩
theorem Only.below {B : Nat} (h : Only S w w') (hS : ∀ k, S k → B ≤ k) (hB : B ≤ w.heap.size) : Below B w w' :=
  ⟨h.os, h.tape, h.output, h.size, fun k hk => h.block k (by omega) fun hs => by have := hS k hs; omega⟩
theorem Only.of_below (h : Below w.heap.size w w') (S : Nat → Prop) : Only S w w' := ⟨h.os, h.tape, h.output, h.size, fun i hi _ => h.block i hi⟩
theorem Only.cell (h : Only S w w') {p : Addr} (hp : p.block < w.heap.size) (hs : ¬ S p.block) : w'.cell? p = w.cell? p := World.cell?_of_block (w := w) (h.block p.block hp hs)
theorem Only.frozen (h : Only S w w') {p : Addr} (hp : p.block < w.heap.size) (hs : ¬ S p.block) : w'.frozen? p = w.frozen? p := World.frozen?_of_block (w := w) (h.block p.block hp hs)

end
end Go.Proofs.YtbhihbhjmmeibaaGreat

/-
  Layer 13: a chain's links as numbers and values; what counts at a stamp. No program here.
-/
namespace Go.Proofs.YtbhihbhjmmeibaaGreat
open Go.RowKit

/-- A link: its value as the cell that holds it. -/
structure Lk where
  stamp : Int
  val : Value
  dead : Bool

def Lk.cells (l : Lk) : List Value := [.int .i64 l.stamp, l.val, .bool l.dead]
def flat (ls : List Lk) : List Value := ls.flatMap Lk.cells

theorem flat_length (ls : List Lk) : (flat ls).length = ls.length * 3 := by
  induction ls with
  | nil => rfl
  | cons l ls ih => simp only [flat, List.flatMap_cons, List.length_append, List.length_cons, Lk.cells, List.length_nil] at ih ⊢; omega
theorem flat_append (a b : List Lk) : flat (a ++ b) = flat a ++ flat b := by simp [flat]
theorem flat_one (l : Lk) : flat [l] = l.cells := by simp [flat]
theorem flat_drop (ls : List Lk) (k : Nat) : (flat ls).drop (k * 3) = flat (ls.drop k) := by
  induction ls generalizing k with
  | nil => simp [flat]
  | cons l ls ih =>
    cases k with
    | zero => simp
    | succ k =>
      have e : (k + 1) * 3 = 3 + k * 3 := by omega
      rw [e, List.drop_succ_cons, ← ih k]
      show ((l.cells ++ flat ls).drop (3 + k * 3)) = _
      rw [List.drop_append]
      have : l.cells.length = 3 := rfl
      rw [this, List.drop_of_length_le (by rw [this]; omega)]
      simp
theorem flat_get (ls : List Lk) (i j : Nat) (l : Lk) (h : ls[i]? = some l) (hj : j < 3) : (flat ls)[i * 3 + j]? = l.cells[j]? := by
  have h1 : (flat ls)[i * 3 + j]? = ((flat ls).drop (i * 3))[j]? := by rw [List.getElem?_drop]
  rw [h1, flat_drop]
  have hi : i < ls.length := (List.getElem?_eq_some_iff.1 h).1
  have h2 : ls.drop i = l :: ls.drop (i + 1) := by
    rw [List.drop_eq_getElem_cons hi]
    congr 1
    exact (List.getElem?_eq_some_iff.1 h).2
  rw [h2]
  show (l.cells ++ flat _)[j]? = _
  rw [List.getElem?_append_left (by show j < 3; exact hj)]

/-- Stamps rise, from 0 on. -/
def Rising (ls : List Lk) : Prop := (∀ l ∈ ls, 0 ≤ l.stamp) ∧ ls.Pairwise fun a b => a.stamp < b.stamp

/-- How many links have a stamp at or below s. -/
def cnt (ls : List Lk) (s : Int) : Nat := (ls.takeWhile fun l => decide (l.stamp ≤ s)).length

theorem cnt_le (ls : List Lk) (s : Int) : cnt ls s ≤ ls.length := by
  unfold cnt
  induction ls with
  | nil => simp
  | cons l ls ih => simp only [List.takeWhile_cons]; split <;> simp <;> omega

theorem cnt_lt {ls : List Lk} {s : Int} {i : Nat} {l : Lk} (hi : i < cnt ls s) (hl : ls[i]? = some l) : l.stamp ≤ s := by
  induction ls generalizing i with
  | nil => simp at hl
  | cons x ls ih =>
    unfold cnt at hi
    simp only [List.takeWhile_cons] at hi
    split at hi
    · rename_i hx
      cases i with
      | zero => simp at hl; subst hl; simpa using hx
      | succ i => simp only [List.length_cons] at hi; exact ih (i := i) (by unfold cnt; omega) (by simpa using hl)
    · simp at hi

theorem cnt_ge {ls : List Lk} (hr : ls.Pairwise fun a b => a.stamp < b.stamp) {s : Int} {i : Nat} {l : Lk} (hi : cnt ls s ≤ i) (hl : ls[i]? = some l) : s < l.stamp := by
  induction ls generalizing i with
  | nil => simp at hl
  | cons x ls ih =>
    rw [List.pairwise_cons] at hr
    unfold cnt at hi
    simp only [List.takeWhile_cons] at hi
    split at hi
    · cases i with
      | zero => simp at hi
      | succ i => simp only [List.length_cons] at hi; exact ih hr.2 (i := i) (by unfold cnt; omega) (by simpa using hl)
    · rename_i hx
      simp only [decide_eq_true_eq] at hx
      cases i with
      | zero => simp at hl; subst hl; omega
      | succ i =>
        have hm : l ∈ ls := List.mem_of_getElem? (by simpa using hl)
        have := hr.1 l hm
        omega

end Go.Proofs.YtbhihbhjmmeibaaGreat

/-
  sort.Search over a closure that makes memory and changes none: how many places say no.
-/
namespace Go.Proofs.YtbhihbhjmmeibaaGreat
open Go.RowKit

/-- What Search is told at the place i. -/
def SearchAsks (g : Nat) (cb : Array Value) (n : Nat) (p : Nat → Bool) (w : World) : Prop :=
  ∀ (u : World) (i : Nat), Only NoneOf w u → i < n → Calls Tryz.prog g (#[.int .i64 i] ++ cb) u fun e u' => e = .returned (.bool (p i)) ∧ Only NoneOf u u'

def SearchRel (w : World) (n c : Nat) (v5 v6 : Value) (wr : World) : Prop :=
  ∃ lo hi : Nat, v5 = .int .i64 lo ∧ v6 = .int .i64 hi ∧ lo ≤ c ∧ c ≤ hi ∧ hi ≤ n ∧ Only NoneOf w wr

set_option maxHeartbeats 2000000 in
theorem search_any (g : Nat) (cb : Array Value) (n c : Nat) (p : Nat → Bool) (w : World) (hn : n ≤ 4611686018427387904) (hc : c ≤ n) (hlo : ∀ i, i < c → p i = false) (hhi : ∀ i, c ≤ i → i < n → p i = true)
    (eg : ∀ args w, (callFunc g args).run Tryz.prog w = .ok (.enter g args) w) (hf : SearchAsks g cb n p w) :
    Calls Tryz.prog 159 #[.int .i64 n, .func (.func g) #[] cb] w fun e w' => e = .returned (.int .i64 c) ∧ Only NoneOf w w' := by
  have HL := Lib.hid hlo
  have HH := Lib.hid hhi
  have HF := Lib.hid hf
  clear hlo hhi hf
  go_enter Tryz.func159, Tryz.ntmps159
  go_wp2
  go_loopw [5, 6] (fun v5 v6 wr => SearchRel w n c v5 v6 wr) (fun v5 v6 _ => (intOf v6).toNat - (intOf v5).toNat)
  case atStart => exact ⟨0, n, rfl, rfl, Nat.zero_le _, hc, Nat.le_refl _, Only.refl _ _⟩
  case round =>
    obtain ⟨lo, hi, rfl, rfl, h1, h2, h3, ho⟩ := hrel
    by_cases hlt : lo < hi
    · have hm := HF.out wr ((lo + hi) / 2) ho (by omega)
      rw [show (((lo + hi) / 2 : Nat) : Int) = ((lo : Int) + (hi : Int)) / 2 by omega] at hm
      by_cases hp : (lo + hi) / 2 < c
      · rw [HL.out _ hp] at hm
        have HM := Lib.hid hm
        clear hm
        go_wp2_with fail
        refine HM.out.mono ?_; rintro e w1 ⟨rfl, ho1⟩
        go_wp2_with fail
        go_roundw
        case rel => exact ⟨(lo + hi) / 2 + 1, hi, by go_num, rfl, by omega, h2, h3, ho.trans ho1⟩
        case measure => simp [intOf]; omega
      · rw [HH.out _ (by omega) (by omega)] at hm
        have HM := Lib.hid hm
        clear hm
        go_wp2_with fail
        refine HM.out.mono ?_; rintro e w1 ⟨rfl, ho1⟩
        go_wp2_with fail
        go_roundw
        case rel => exact ⟨lo, (lo + hi) / 2, rfl, by go_num, h1, by omega, by omega, ho.trans ho1⟩
        case measure => simp [intOf]; omega
    · obtain rfl : lo = c := by omega
      go_wp2_with fail
      go_ret
      exact ⟨rfl, ho⟩

end Go.Proofs.YtbhihbhjmmeibaaGreat

/-
  Layer 13: a chain in memory; Len, Last.
-/
namespace Go.Proofs.YtbhihbhjmmeibaaGreat
open Go.RowKit
namespace Cb

/-- The values that these chains hold. -/
def IsV (v : Value) : Prop := ∃ x : (Option Addr × Nat × Nat), v = Value.slice x.1 x.2.1 x.2.2

/-- Chain p's slice is v; its links are ls. -/
structure ChIs (w : World) (p : Nat) (v : Value) (ls : List Lk) : Prop where
  blk : Blk w p 135 #[v]
  row : w.ownsRow 0 140 3 v ls.length (flat ls)
  vals : ∀ l ∈ ls, IsV l.val
  rise : Rising ls
  few : ls.length ≤ 3518437208800

/-- The blocks that are a chain's own. -/
def Foot (p : Nat) (v : Value) (k : Nat) : Prop := k = p ∨ v.ownBlock = some k

section
variable {w w' : World} {p : Nat} {v : Value} {ls : List Lk} {S : Nat → Prop}

theorem ChIs.lt (h : ChIs w p v ls) : p < w.heap.size := h.blk.lt
theorem ChIs.row_lt (h : ChIs w p v ls) {g : Nat} (hg : v.ownBlock = some g) : g < w.heap.size := by
  rcases h.row.2 with ⟨rfl, _⟩ | ⟨g', cap, cur, rfl, _, hb, _⟩
  · simp [Value.ownBlock] at hg
  · have : g' = g := by simpa [Value.ownBlock] using hg
    subst this
    exact Blk.lt (t := 140) (cs := cur) hb
theorem ChIs.foot_lt (h : ChIs w p v ls) {k : Nat} (hk : Foot p v k) : k < w.heap.size := by
  rcases hk with rfl | hk
  · exact h.lt
  · exact h.row_lt hk
theorem ChIs.row_ne (h : ChIs w p v ls) : v.ownBlock ≠ some p := by
  rcases h.row.2 with ⟨rfl, _⟩ | ⟨g', cap, cur, rfl, _, hb, _⟩
  · simp [Value.ownBlock]
  · intro e
    have : g' = p := by simpa [Value.ownBlock] using e
    subst this
    have hb2 := h.blk
    unfold Blk at hb2
    rw [hb] at hb2
    injection hb2 with hb2
    injection hb2 with _ ht
    revert ht
    decide

theorem row_only {base n : Nat} {xs : List Value} (h : w.ownsRow base 140 3 v n xs) (ho : Only S w w') (hg : ∀ g, v.ownBlock = some g → ¬ S g) : w'.ownsRow base 140 3 v n xs := by
  refine ⟨h.1, ?_⟩
  rcases h.2 with h0 | ⟨g, cap, cur, hv, hb, hh, r⟩
  · exact .inl h0
  · refine .inr ⟨g, cap, cur, hv, hb, ?_, r⟩
    exact Blk.only (t := 140) (cs := cur) hh ho (hg g (by rw [hv]; rfl))
theorem ChIs.only (h : ChIs w p v ls) (ho : Only S w w') (hS : ∀ k, Foot p v k → ¬ S k) : ChIs w' p v ls :=
  ⟨h.blk.only ho (hS p (.inl rfl)), row_only h.row ho (fun g hg => hS g (.inr hg)), h.vals, h.rise, h.few⟩
theorem ChIs.keep (h : ChIs w p v ls) (ho : Only NoneOf w w') : ChIs w' p v ls := h.only ho (fun _ _ h => h)
theorem ChIs.alloc (h : ChIs w p v ls) (o : Obj) : ChIs (w.alloc o) p v ls := h.keep ((Only.refl NoneOf w).alloc o)
theorem ChIs.drewN (h : ChIs w p v ls) (n : Nat) : ChIs (w.drewN n) p v ls := h.keep ((Only.refl NoneOf w).drewN n)

/-- What the slice looks like, and its cells. -/
theorem ChIs.form (h : ChIs w p v ls) : (v = .slice none 0 0 ∧ ls = []) ∨ ∃ g cap, v = .slice (some ⟨g, 0, none⟩) ls.length cap ∧ ls.length ≤ cap ∧ g < w.heap.size ∧
    ∀ (i : Nat) (l : Lk), ls[i]? = some l → ∃ x : (Option Addr × Nat × Nat), l.val = Value.slice x.1 x.2.1 x.2.2 ∧ w.cell? ⟨g, i * 3, none⟩ = some (.int .i64 l.stamp) ∧ w.cell? ⟨g, i * 3 + 1, none⟩ = some (Value.slice x.1 x.2.1 x.2.2) ∧ w.cell? ⟨g, i * 3 + 2, none⟩ = some (.bool l.dead) := by
  rcases h.row.2 with ⟨rfl, h0⟩ | ⟨g, cap, cur, hv, _, hb, hle, _, hsz, hcur⟩
  · exact .inl ⟨rfl, List.eq_nil_of_length_eq_zero h0⟩
  · refine .inr ⟨g, cap, hv, hle, Blk.lt (t := 140) (cs := cur) hb, fun i l hl => ?_⟩
    obtain ⟨x, hx⟩ := h.vals l (List.mem_of_getElem? hl)
    have hi : i < ls.length := (List.getElem?_eq_some_iff.1 hl).1
    have hc : ∀ j, j < 3 → w.cell? ⟨g, i * 3 + j, none⟩ = l.cells[j]? := by
      intro j hj
      rw [Blk.cell (t := 140) (cs := cur) hb, ← flat_get ls i j l hl hj, ← hcur, List.getElem?_take_of_lt (by omega), Array.getElem?_toList]
    exact ⟨x, hx, hc 0 (by omega), by rw [hc 1 (by omega), ← hx]; rfl, hc 2 (by omega)⟩
end

set_option maxHeartbeats 400000 in
theorem len_has (w : World) (p : Nat) (v : Value) (ls : List Lk) (n : Nat) (h : ChIs w p v ls) (hn : ls.length = n) :
    Calls Tryz.prog 109 #[.pointer (some ⟨p, 0, none⟩)] w fun e w' => e = .returned (.int .i64 n) ∧ w = w' := by
  subst hn
  have c0 := h.blk.cellv 0 rfl
  rcases h.form with ⟨rfl, rfl⟩ | ⟨g, cap, rfl, _, _, _⟩
  · go_enter Tryz.func109, Tryz.ntmps109
    go_wp2_with fail
    go_ret
    exact ⟨rfl, rfl⟩
  · go_enter Tryz.func109, Tryz.ntmps109
    go_wp2_with fail
    go_ret
    exact ⟨rfl, rfl⟩

theorem len_empty (w : World) (p : Nat) (v : Value) (h : ChIs w p v []) : Calls Tryz.prog 109 #[.pointer (some ⟨p, 0, none⟩)] w fun e w' => e = .returned (.int .i64 0) ∧ w = w' :=
  len_has w p v [] 0 h rfl

set_option maxHeartbeats 400000 in
theorem len_nil (w : World) : Calls Tryz.prog 109 #[.pointer none] w fun e w' => e = .returned (.int .i64 0) ∧ w = w' := by
  go_enter Tryz.func109, Tryz.ntmps109
  go_wp2_with fail
  go_ret
  exact ⟨rfl, rfl⟩

/-- A link beside a bool; nothing that was there has turned. -/
def TellPost (l : Array Value) (is : Bool) (w : World) (e : Ending) (w' : World) : Prop := e = .returned (.tuple #[.agg l, .bool is]) ∧ Only NoneOf w w'

abbrev zeroLk : Array Value := #[.int .i64 0, (Value.slice none 0 0), .bool false]

set_option maxHeartbeats 400000 in
theorem last_empty (w : World) (p : Nat) (v : Value) (h : ChIs w p v []) : Calls Tryz.prog 86 #[.pointer (some ⟨p, 0, none⟩)] w (TellPost zeroLk false w) := by
  have L := fun u hu => Lib.hid (len_empty u p v hu)
  go_enter Tryz.func86, Tryz.ntmps86
  go_wp2_with fail
  refine (L _ (h.alloc _)).out.mono ?_; rintro e w1 ⟨rfl, rfl⟩
  go_wp2_with fail
  exact bodyPost_ret (v := .tuple #[.agg zeroLk, .bool false]) (by simp [results, Tryz.results86, go_sem, zeroLk]) rfl ⟨rfl, (Only.refl _ _).alloc _⟩

set_option maxHeartbeats 400000 in
theorem last_nil (w : World) : Calls Tryz.prog 86 #[.pointer none] w (TellPost zeroLk false w) := by
  have L := fun u => Lib.hid (len_nil u)
  go_enter Tryz.func86, Tryz.ntmps86
  go_wp2_with fail
  refine (L _).out.mono ?_; rintro e w1 ⟨rfl, rfl⟩
  go_wp2_with fail
  exact bodyPost_ret (v := .tuple #[.agg zeroLk, .bool false]) (by simp [results, Tryz.results86, go_sem, zeroLk]) rfl ⟨rfl, (Only.refl _ _).alloc _⟩

set_option maxHeartbeats 400000 in
theorem last_has (w : World) (p : Nat) (v : Value) (ls : List Lk) (l : Lk) (h : ChIs w p v (ls ++ [l])) : Calls Tryz.prog 86 #[.pointer (some ⟨p, 0, none⟩)] w (TellPost l.cells.toArray true w) := by
  have L := fun u hu => Lib.hid (len_has u p v (ls ++ [l]) (ls.length + 1) hu (by simp))
  have hfew := h.few
  have c0 := (h.alloc (.cells #[.int .i64 0, (Value.slice none 0 0), .bool false] 140)).blk.cellv 0 rfl
  have hz : (w.alloc (.cells #[.int .i64 0, (Value.slice none 0 0), .bool false] 140)).heap.size = w.heap.size + 1 := by simp
  rcases (h.alloc (.cells #[.int .i64 0, (Value.slice none 0 0), .bool false] 140)).form with ⟨_, h0⟩ | ⟨g, cap, rfl, hcap, hg, hc⟩
  · simp at h0
  · obtain ⟨x, hx, e0, e1, e2⟩ := hc ls.length l (by simp)
    clear hc
    have hlen : (ls ++ [l]).length = ls.length + 1 := by simp
    rw [hlen] at c0 hcap hfew h
    simp only [hlen] at L
    clear hlen
    obtain ⟨st, val, dead⟩ := l
    simp only at hx e0 e1 e2
    subst hx
    have hne : (((ls.length + 1 : Nat) : Int) == 0) = false := beq_eq_false_iff_ne.2 (by omega)
    go_enter Tryz.func86, Tryz.ntmps86
    go_wp2_with fail
    refine (L _ (h.alloc _)).out.mono ?_; rintro e w1 ⟨rfl, rfl⟩
    go_wp2_with fail
    go_region
    go_wp2_with fail
    exact bodyPost_ret (v := .tuple #[.agg (Lk.cells ⟨st, Value.slice x.1 x.2.1 x.2.2, dead⟩).toArray, .bool true]) (by simp [results, Tryz.results86, go_sem, Lk.cells]) rfl
      ⟨rfl, by repeat (first | exact Only.refl _ _ | refine Only.drew ?_ | refine Only.drewN ?_ _ | refine Only.alloc ?_ _ | refine Only.put ?_ (.inr (by simp)) _)⟩

theorem infoL : (Tryz.prog.info? 140).map (fun i => (i.zero, i.size, i.bytes)) = some (some (.agg #[.int .i64 0, (Value.slice none 0 0), .bool false]), 3, 40) := by kernel_rfl

end Cb
end Go.Proofs.YtbhihbhjmmeibaaGreat

/-
  Layer 13: a chain in memory; Add, Clone, Prune.
-/
namespace Go.Proofs.YtbhihbhjmmeibaaGreat
open Go.RowKit
namespace Cb

/-- How Add ends where it takes the link. -/
def AddPost (p : Nat) (v : Value) (ls : List Lk) (w : World) (e : Ending) (w' : World) : Prop :=
  ∃ v', e = .returned (.int .i64 0) ∧ ChIs w' p v' ls ∧ Only (Foot p v) w w' ∧ ∀ k, Foot p v' k → Foot p v k ∨ w.heap.size ≤ k

/-- How a call ends that is refused. -/
def NoPost (c : Int) (w : World) (e : Ending) (w' : World) : Prop := e = .returned (.int .i64 c) ∧ Only NoneOf w w'

set_option maxHeartbeats 400000 in
theorem add_nil (w : World) (st : Int) (x : (Option Addr × Nat × Nat)) (dead : Bool) : Calls Tryz.prog 61 #[.pointer none, .agg #[.int .i64 st, Value.slice x.1 x.2.1 x.2.2, .bool dead]] w (NoPost 1 w) := by
  go_enter Tryz.func61, Tryz.ntmps61
  go_wp2_with fail
  go_ret
  exact ⟨rfl, (Only.refl _ _).alloc _⟩

set_option maxHeartbeats 400000 in
theorem add_low (w : World) (p : Nat) (v : Value) (ls : List Lk) (st : Int) (x : (Option Addr × Nat × Nat)) (dead : Bool) (h : ChIs w p v ls) (hs : st < 0) :
    Calls Tryz.prog 61 #[.pointer (some ⟨p, 0, none⟩), .agg #[.int .i64 st, Value.slice x.1 x.2.1 x.2.2, .bool dead]] w (NoPost 130 w) := by
  have hL : ∀ u, ChIs u p v ls → ∃ l is, Hid (Calls Tryz.prog 86 #[.pointer (some ⟨p, 0, none⟩)] u (TellPost l is u)) ∧ ∃ (a : Int) (y : (Option Addr × Nat × Nat)) (b : Bool), l = #[.int .i64 a, Value.slice y.1 y.2.1 y.2.2, .bool b] := by
    intro u hu
    rcases List.eq_nil_or_concat ls with rfl | ⟨r, l, rfl⟩
    · exact ⟨_, _, Lib.hid (last_empty u p v hu), 0, (none, 0, 0), false, rfl⟩
    · rw [List.concat_eq_append] at hu
      obtain ⟨y, hy⟩ := hu.vals l (by simp)
      refine ⟨_, _, Lib.hid (last_has u p v r l hu), l.stamp, y, l.dead, ?_⟩
      simp [Lk.cells, hy]
  obtain ⟨l, is, L, a, y, b, rfl⟩ := hL _ (h.alloc (.cells #[.int .i64 st, Value.slice x.1 x.2.1 x.2.2, .bool dead] 140))
  clear hL
  have hB := Blk.new w 140 #[.int .i64 st, Value.slice x.1 x.2.1 x.2.2, .bool dead]
  go_enter Tryz.func61, Tryz.ntmps61
  go_wp2_with fail
  refine L.out.mono ?_; rintro e w1 ⟨rfl, ho⟩
  have hO := Lib.hid (((Only.refl NoneOf w).alloc _).trans ho)
  have hB1 := hB.only ho (fun h => h)
  have b0 := hB1.cellv 0 rfl
  have hlt := hB1.lt
  go_wp2_with fail
  go_ret
  exact ⟨rfl, by repeat (first | exact hO.out | refine Only.drew ?_ | refine Only.drewN ?_ _ | refine Only.alloc ?_ _)⟩

set_option maxHeartbeats 400000 in
theorem add_old (w : World) (p : Nat) (v : Value) (ls : List Lk) (l : Lk) (st : Int) (x : (Option Addr × Nat × Nat)) (dead : Bool) (h : ChIs w p v (ls ++ [l])) (h0 : 0 ≤ st) (hs : st ≤ l.stamp) :
    Calls Tryz.prog 61 #[.pointer (some ⟨p, 0, none⟩), .agg #[.int .i64 st, Value.slice x.1 x.2.1 x.2.2, .bool dead]] w (NoPost 130 w) := by
  have L := Lib.hid (last_has _ p v ls l (h.alloc (.cells #[.int .i64 st, Value.slice x.1 x.2.1 x.2.2, .bool dead] 140)))
  obtain ⟨y, hy⟩ := h.vals l (by simp)
  obtain ⟨a, val, b⟩ := l
  simp only at hy hs
  subst hy
  have hB := Blk.new w 140 #[.int .i64 st, Value.slice x.1 x.2.1 x.2.2, .bool dead]
  go_enter Tryz.func61, Tryz.ntmps61
  go_wp2_with fail
  refine L.out.mono ?_; rintro e w1 ⟨rfl, ho⟩
  have hO := Lib.hid (((Only.refl NoneOf w).alloc _).trans ho)
  have hB1 := hB.only ho (fun h => h)
  have b0 := hB1.cellv 0 rfl
  have hlt := hB1.lt
  simp only [Lk.cells]
  go_wp2_with fail
  go_ret
  exact ⟨rfl, by repeat (first | exact hO.out | refine Only.drew ?_ | refine Only.drewN ?_ _ | refine Only.alloc ?_ _)⟩

theorem rising_snoc {ls : List Lk} {l : Lk} (h : Rising ls) (h0 : 0 ≤ l.stamp) (hl : ∀ a ∈ ls, a.stamp < l.stamp) : Rising (ls ++ [l]) := by
  refine ⟨fun a ha => ?_, ?_⟩
  · rcases List.mem_append.1 ha with ha | ha
    · exact h.1 a ha
    · rw [List.mem_singleton.1 ha]; exact h0
  · rw [List.pairwise_append]
    refine ⟨h.2, List.pairwise_singleton _ _, fun a ha b hb => ?_⟩
    rw [List.mem_singleton.1 hb]; exact hl a ha

theorem only_grown {w w' : World} {row : Option Nat} (h : w.grownBy w' row) : Only (fun k => row = some k) w w' :=
  ⟨h.os, h.tape, h.output, h.size, fun k hk hs => h.block k hk (fun e => hs e.symm)⟩

theorem row_keep {w w' : World} {p : Nat} {v : Value} {ls : List Lk} (h : ChIs w p v ls) (ho : Only NoneOf w w') : w'.ownsRow 0 140 3 v ls.length (flat ls) := (h.keep ho).row

/-- The links behind an append, from what the law of append leaves. -/
theorem add_done {w W w2 : World} {p : Nat} {v v' : Value} {ls : List Lk} {st : Int} {x : (Option Addr × Nat × Nat)} {dead : Bool} (h : ChIs w p v ls) (hw : Only NoneOf w W) (hg : W.grownBy w2 v.ownBlock)
    (hown : w2.ownsRow 0 140 3 v' (ls.length + 1) (flat ls ++ [.int .i64 st, Value.slice x.1 x.2.1 x.2.2, .bool dead])) (hat : v'.ownBlock = v.ownBlock ∨ ∃ g, v'.ownBlock = some g ∧ w.heap.size ≤ g ∧ g ≠ p)
    (h0 : 0 ≤ st) (hst : ∀ a ∈ ls, a.stamp < st) (hfew : ls.length < 3518437208800) :
    ChIs (w2.setCell ⟨p, 0, none⟩ v') p v' (ls ++ [⟨st, Value.slice x.1 x.2.1 x.2.2, dead⟩]) ∧ Only (Foot p v) w (w2.setCell ⟨p, 0, none⟩ v') ∧ ∀ k, Foot p v' k → Foot p v k ∨ w.heap.size ≤ k := by
  have hW := h.keep hw
  have hb : Blk w2 p 135 #[v] := hW.blk.only (only_grown hg) (fun e => hW.row_ne e)
  have hne : v'.ownBlock ≠ some p := by
    rcases hat with e | ⟨g, e, _, hgp⟩
    · rw [e]; exact h.row_ne
    · rw [e]; intro hh; exact hgp (by injection hh)
  refine ⟨⟨hb.put 0 v', ?_, ?_, rising_snoc h.rise h0 hst, by simp; omega⟩, ?_, ?_⟩
  · rw [flat_append, flat_one, List.length_append]
    refine row_only (S := (· = p)) hown ((Only.refl (· = p) w2).put (.inl rfl) _) (fun g hg e => hne (by rw [hg, e]))
  · intro l hl
    rcases List.mem_append.1 hl with hl | hl
    · exact h.vals l hl
    · rw [List.mem_singleton.1 hl]; exact ⟨x, rfl⟩
  · exact Only.put (S := Foot p v) ((hw.mono (S' := Foot p v) (fun _ _ h => h.elim)).step (only_grown hg) (fun k _ e => .inr e)) (.inl (.inl rfl)) _
  · rintro k (rfl | hk)
    · exact .inl (.inl rfl)
    · rcases hat with e | ⟨g, e, hge, _⟩
      · exact .inl (.inr (by rw [← e]; exact hk))
      · rw [e] at hk; injection hk with hk; exact .inr (by omega)

set_option maxRecDepth 100000 in
set_option maxHeartbeats 1000000 in
theorem add_take (w : World) (p : Nat) (v : Value) (ls : List Lk) (st : Int) (x : (Option Addr × Nat × Nat)) (dead : Bool) (a : Int) (y : (Option Addr × Nat × Nat)) (b is : Bool) (h : ChIs w p v ls) (h0 : 0 ≤ st) (hst : ∀ a ∈ ls, a.stamp < st)
    (hfew : ls.length < 3518437208800) (ha : is = true → a < st)
    (L : Hid (Calls Tryz.prog 86 #[.pointer (some ⟨p, 0, none⟩)] (w.alloc (.cells #[.int .i64 st, Value.slice x.1 x.2.1 x.2.2, .bool dead] 140)) (TellPost #[.int .i64 a, Value.slice y.1 y.2.1 y.2.2, .bool b] is (w.alloc (.cells #[.int .i64 st, Value.slice x.1 x.2.1 x.2.2, .bool dead] 140))))) :
    Calls Tryz.prog 61 #[.pointer (some ⟨p, 0, none⟩), .agg #[.int .i64 st, Value.slice x.1 x.2.1 x.2.2, .bool dead]] w (AddPost p v (ls ++ [⟨st, Value.slice x.1 x.2.1 x.2.2, dead⟩]) w) := by
  obtain ⟨i0, hi, hz0, hz1, hz2⟩ := info_parts infoL
  have hB := Blk.new w 140 #[.int .i64 st, Value.slice x.1 x.2.1 x.2.2, .bool dead]
  have HST := Lib.hid hst
  have HF := Lib.hid hfew
  clear hst hfew
  go_enter Tryz.func61, Tryz.ntmps61
  go_wp2_with fail
  refine L.out.mono ?_; rintro e w1 ⟨rfl, ho⟩
  have hO := Lib.hid (((Only.refl NoneOf w).alloc _).trans ho)
  have hB1 := hB.only ho (fun h => h)
  have b0 := hB1.cellv 0 rfl
  have b1 := hB1.cellv 1 rfl
  have b2 := hB1.cellv 2 rfl
  have hlt := hB1.lt
  have h1 := h.keep hO.out
  have c0 := h1.blk.cellv 0 rfl
  have hp := h1.lt
  have hpw := h.lt
  have f0 := h1.blk.free 0
  have hR := ((row_keep h hO.out).alloc (.cells #[.int .i64 a, Value.slice y.1 y.2.1 y.2.2, .bool b] 140)).alloc (.cells #[.int .i64 st, Value.slice x.1 x.2.1 x.2.2, .bool dead] 140)
  have hN := Blk.new' (w1.alloc (.cells #[.int .i64 a, Value.slice y.1 y.2.1 y.2.2, .bool b] 140)) 140 #[.int .i64 st, Value.slice x.1 x.2.1 x.2.2, .bool dead] (n := w1.heap.size + 1) (by simp)
  have hW := Lib.hid ((((hO.out.alloc (.cells #[.int .i64 a, Value.slice y.1 y.2.1 y.2.2, .bool b] 140)).alloc (.cells #[.int .i64 st, Value.slice x.1 x.2.1 x.2.2, .bool dead] 140))).drew)
  cases is with
  | true =>
    have ha' : a < st := ha rfl
    clear ha
    go_wp2_with fail
    go_region_law (refine step_append_lies _ rfl (.tmp 31) (.tmp 33) 133 rfl 0 140 i0 _ 3 40 Tryz.underlying133 hi hz0 hz1 hz2 rfl (by decide) v ls.length (flat ls) rfl hR.drew ⟨w1.heap.size + 1, 0, none⟩ 1 1 [.int .i64 st, Value.slice x.1 x.2.1 x.2.2, .bool dead] rfl rfl (World.news_of_block (w := ((w1.alloc (.cells #[.int .i64 a, Value.slice y.1 y.2.1 y.2.2, .bool b] 140)).alloc (.cells #[.int .i64 st, Value.slice x.1 x.2.1 x.2.2, .bool dead] 140)).drew) hN) (by simp [Value.oneCell']) (by decide) (by have := HF.out; unfold maxLen; omega) (by have := HF.out; omega) (Nat.zero_le _) (w1.heap.size + 2) (by simp) ?_; intro g cap w2 hown2 hgr hat hlt2; have hb2 := (h.keep hW.out).blk.only (only_grown hgr) (fun e => h.row_ne e); have c2 := hb2.cellv 0 rfl; have f2 := hb2.free 0)
    all_goals go_wp2_with fail
    all_goals go_ret
    all_goals
      obtain ⟨r1, r2, r3⟩ := add_done h hW.out hgr hown2 (by
        rcases hat with e | e
        · exact .inl e.symm
        · exact .inr ⟨g, rfl, by have := hO.out.size; omega, by omega⟩) h0 HST.out HF.out
      exact ⟨_, rfl, r1, r2, r3⟩
  | false =>
    clear ha
    go_wp2_with fail
    go_region_law (refine step_append_lies _ rfl (.tmp 31) (.tmp 33) 133 rfl 0 140 i0 _ 3 40 Tryz.underlying133 hi hz0 hz1 hz2 rfl (by decide) v ls.length (flat ls) rfl hR.drew ⟨w1.heap.size + 1, 0, none⟩ 1 1 [.int .i64 st, Value.slice x.1 x.2.1 x.2.2, .bool dead] rfl rfl (World.news_of_block (w := ((w1.alloc (.cells #[.int .i64 a, Value.slice y.1 y.2.1 y.2.2, .bool b] 140)).alloc (.cells #[.int .i64 st, Value.slice x.1 x.2.1 x.2.2, .bool dead] 140)).drew) hN) (by simp [Value.oneCell']) (by decide) (by have := HF.out; unfold maxLen; omega) (by have := HF.out; omega) (Nat.zero_le _) (w1.heap.size + 2) (by simp) ?_; intro g cap w2 hown2 hgr hat hlt2; have hb2 := (h.keep hW.out).blk.only (only_grown hgr) (fun e => h.row_ne e); have c2 := hb2.cellv 0 rfl; have f2 := hb2.free 0)
    all_goals go_wp2_with fail
    all_goals go_ret
    all_goals
      obtain ⟨r1, r2, r3⟩ := add_done h hW.out hgr hown2 (by
        rcases hat with e | e
        · exact .inl e.symm
        · exact .inr ⟨g, rfl, by have := hO.out.size; omega, by omega⟩) h0 HST.out HF.out
      exact ⟨_, rfl, r1, r2, r3⟩

/-- Add, where the link is taken. -/
theorem add_ok (w : World) (p : Nat) (v : Value) (ls : List Lk) (st : Int) (x : (Option Addr × Nat × Nat)) (dead : Bool) (h : ChIs w p v ls) (h0 : 0 ≤ st) (hst : ∀ a ∈ ls, a.stamp < st) (hfew : ls.length < 3518437208800) :
    Calls Tryz.prog 61 #[.pointer (some ⟨p, 0, none⟩), .agg #[.int .i64 st, Value.slice x.1 x.2.1 x.2.2, .bool dead]] w (AddPost p v (ls ++ [⟨st, Value.slice x.1 x.2.1 x.2.2, dead⟩]) w) := by
  have ha := h.alloc (.cells #[.int .i64 st, Value.slice x.1 x.2.1 x.2.2, .bool dead] 140)
  rcases List.eq_nil_or_concat ls with rfl | ⟨r, l, rfl⟩
  · exact add_take w p v [] st x dead 0 (none, 0, 0) false false h h0 hst hfew (fun e => by cases e) (Lib.hid (last_empty _ p v ha))
  · rw [List.concat_eq_append] at *
    obtain ⟨y, hy⟩ := h.vals l (by simp)
    have L := last_has _ p v r l ha
    have hl := hst l (by simp)
    obtain ⟨a, val, b⟩ := l
    simp only at hy
    subst hy
    exact add_take w p v _ st x dead a y b true h h0 hst hfew (fun _ => hl) (Lib.hid L)

end Cb
end Go.Proofs.YtbhihbhjmmeibaaGreat

/-
  Layer 13: a chain in memory; how many links count at a stamp.
-/
namespace Go.Proofs.YtbhihbhjmmeibaaGreat
open Go.RowKit
namespace Cb

/-- The links that a search looks through. -/
theorem past_is (ls : List Lk) (hr : Rising ls) (s : Int) : (∀ i, i < cnt ls s → decide (s < ((ls[i]?).map (·.stamp)).getD 0) = false) ∧ (∀ i, cnt ls s ≤ i → i < ls.length → decide (s < ((ls[i]?).map (·.stamp)).getD 0) = true) := by
  constructor
  · intro i hi
    have hl : ls[i]? = some (ls[i]'(by have := cnt_le ls s; omega)) := List.getElem?_eq_getElem _
    have := cnt_lt hi hl
    rw [hl]
    simp
    omega
  · intro i hi hlt
    have hl : ls[i]? = some (ls[i]'hlt) := List.getElem?_eq_getElem _
    have := cnt_ge hr.2 hi hl
    rw [hl]
    simp
    omega

set_option maxHeartbeats 400000 in
theorem past_at (w : World) (p b1 b2 : Nat) (v : Value) (ls : List Lk) (s : Int) (i : Nat) (l : Lk) (h : ChIs w p v ls) (hl : ls[i]? = some l)
    (k1 : w.cell? ⟨b1, 0, none⟩ = some (.pointer (some ⟨p, 0, none⟩))) (k2 : w.cell? ⟨b2, 0, none⟩ = some (.int .i64 s)) :
    Calls Tryz.prog 160 #[.int .i64 i, .pointer (some ⟨b1, 0, none⟩), .pointer (some ⟨b2, 0, none⟩)] w fun e w' => e = .returned (.bool (decide (s < l.stamp))) ∧ Only NoneOf w w' := by
  have c0 := h.blk.cellv 0 rfl
  have hi : i < ls.length := (List.getElem?_eq_some_iff.1 hl).1
  have hfew := h.few
  rcases h.form with ⟨_, rfl⟩ | ⟨g, cap, rfl, hcap, hg, hc⟩
  · simp at hi
  · obtain ⟨x, hx, e0, e1, e2⟩ := hc i l hl
    clear hc e1 e2 hx
    go_enter Tryz.func160, Tryz.ntmps160
    go_wp2_with fail
    go_quiet (fail)
    go_wp2_with fail
    go_ret
    exact ⟨rfl, (Only.refl _ _).drewN _⟩

set_option maxHeartbeats 400000 in
theorem count_has (w : World) (p : Nat) (v : Value) (ls : List Lk) (s : Int) (h : ChIs w p v ls) :
    Calls Tryz.prog 157 #[.pointer (some ⟨p, 0, none⟩), .int .i64 s] w fun e w' => e = .returned (.int .i64 (cnt ls s)) ∧ Only NoneOf w w' := by
  have hO : Only NoneOf w ((w.alloc (.cells #[.pointer (some ⟨p, 0, none⟩)] 131)).alloc (.cells #[.int .i64 s] 3)) := ((Only.refl _ _).alloc _).alloc _
  have h2 := h.keep hO
  have hb1 := (Blk.new w 131 #[.pointer (some ⟨p, 0, none⟩)]).alloc (.cells #[.int .i64 s] 3)
  have hb2 := Blk.new' (w.alloc (.cells #[.pointer (some ⟨p, 0, none⟩)] 131)) 3 #[.int .i64 s] (n := w.heap.size + 1) (by simp)
  have hp := past_is ls h.rise s
  have S := Lib.hid (search_any 160 #[.pointer (some ⟨w.heap.size, 0, none⟩), .pointer (some ⟨w.heap.size + 1, 0, none⟩)] ls.length (cnt ls s) (fun i => decide (s < ((ls[i]?).map (·.stamp)).getD 0))
    ((w.alloc (.cells #[.pointer (some ⟨p, 0, none⟩)] 131)).alloc (.cells #[.int .i64 s] 3)) (by have := h.few; omega) (cnt_le ls s) hp.1 hp.2 (fun _ _ => by kernel_rfl) (fun u i hu hi => by
      have hl : ls[i]? = some (ls[i]'hi) := List.getElem?_eq_getElem _
      refine (past_at u p w.heap.size (w.heap.size + 1) v ls s i _ (h2.keep hu) hl ((hb1.only hu (fun h => h)).cellv 0 rfl) ((hb2.only hu (fun h => h)).cellv 0 rfl)).mono fun e u' ⟨he, ho⟩ => ⟨?_, ho⟩
      rw [he]
      simp only [hl, Option.map_some, Option.getD_some]))
  clear hp
  have c0 := h2.blk.cellv 0 rfl
  rcases h.form with ⟨rfl, rfl⟩ | ⟨g, cap, rfl, _, _, _⟩
  · go_enter Tryz.func157, Tryz.ntmps157
    go_wp2_with fail
    refine S.out.mono ?_; rintro e w1 ⟨rfl, ho⟩
    go_wp2_with fail
    go_ret
    exact ⟨rfl, hO.trans ho⟩
  · go_enter Tryz.func157, Tryz.ntmps157
    go_wp2_with fail
    refine S.out.mono ?_; rintro e w1 ⟨rfl, ho⟩
    go_wp2_with fail
    go_ret
    exact ⟨rfl, hO.trans ho⟩

set_option maxHeartbeats 400000 in
theorem count_nil (w : World) (s : Int) : Calls Tryz.prog 157 #[.pointer none, .int .i64 s] w fun e w' => e = .returned (.int .i64 0) ∧ Only NoneOf w w' := by
  go_enter Tryz.func157, Tryz.ntmps157
  go_wp2_with fail
  go_ret
  exact ⟨rfl, ((Only.refl _ _).alloc _).alloc _⟩

end Cb
end Go.Proofs.YtbhihbhjmmeibaaGreat

/-
  Layer 13: a chain in memory; At, Add, Clone, Prune.
-/
namespace Go.Proofs.YtbhihbhjmmeibaaGreat
open Go.RowKit
namespace Cb

set_option maxHeartbeats 400000 in
theorem at_nil (w : World) (s : Int) : Calls Tryz.prog 154 #[.pointer none, .int .i64 s] w (TellPost zeroLk false w) := by
  have L := fun u => Lib.hid (count_nil u s)
  go_enter Tryz.func154, Tryz.ntmps154
  go_wp2_with fail
  refine (L _).out.mono ?_; rintro e w1 ⟨rfl, ho⟩
  have hO := Lib.hid (((Only.refl NoneOf w).alloc _).trans ho)
  have hB := (Blk.new w 140 #[.int .i64 0, (Value.slice none 0 0), .bool false]).only ho (fun h => h)
  have b0 := hB.cellv 0 rfl
  have b1 := hB.cellv 1 rfl
  have b2 := hB.cellv 2 rfl
  have f0 := hB.free 0
  have f1 := hB.free 1
  have f2 := hB.free 2
  go_wp2_with fail
  exact bodyPost_ret (v := .tuple #[.agg zeroLk, .bool false]) (by simp [results, Tryz.results154, go_sem, b0, b1, b2]) rfl
      ⟨rfl, by repeat (first | exact hO.out | refine Only.drew ?_ | refine Only.drewN ?_ _ | refine Only.alloc ?_ _ | refine Only.put ?_ (.inr (by simp)) _)⟩

set_option maxHeartbeats 400000 in
theorem at_none (w : World) (p : Nat) (v : Value) (ls : List Lk) (s : Int) (h : ChIs w p v ls) (hc : cnt ls s = 0) :
    Calls Tryz.prog 154 #[.pointer (some ⟨p, 0, none⟩), .int .i64 s] w (TellPost zeroLk false w) := by
  have L := fun u hu => Lib.hid (count_has u p v ls s hu)
  simp only [hc] at L
  clear hc
  go_enter Tryz.func154, Tryz.ntmps154
  go_wp2_with fail
  refine (L _ (h.alloc _)).out.mono ?_; rintro e w1 ⟨rfl, ho⟩
  have hO := Lib.hid (((Only.refl NoneOf w).alloc _).trans ho)
  have hB := (Blk.new w 140 #[.int .i64 0, (Value.slice none 0 0), .bool false]).only ho (fun h => h)
  have b0 := hB.cellv 0 rfl
  have b1 := hB.cellv 1 rfl
  have b2 := hB.cellv 2 rfl
  have f0 := hB.free 0
  have f1 := hB.free 1
  have f2 := hB.free 2
  go_wp2_with fail
  exact bodyPost_ret (v := .tuple #[.agg zeroLk, .bool false]) (by simp [results, Tryz.results154, go_sem, b0, b1, b2]) rfl
      ⟨rfl, by repeat (first | exact hO.out | refine Only.drew ?_ | refine Only.drewN ?_ _ | refine Only.alloc ?_ _ | refine Only.put ?_ (.inr (by simp)) _)⟩

set_option maxHeartbeats 400000 in
theorem at_has (w : World) (p : Nat) (v : Value) (ls : List Lk) (s : Int) (n : Nat) (l : Lk) (h : ChIs w p v ls) (hc : cnt ls s = n + 1) (hl : ls[n]? = some l) :
    Calls Tryz.prog 154 #[.pointer (some ⟨p, 0, none⟩), .int .i64 s] w (TellPost l.cells.toArray true w) := by
  have L := fun u hu => Lib.hid (count_has u p v ls s hu)
  simp only [hc] at L
  clear hc
  have hfew := h.few
  have hn : n < ls.length := (List.getElem?_eq_some_iff.1 hl).1
  go_enter Tryz.func154, Tryz.ntmps154
  go_wp2_with fail
  refine (L _ (h.alloc _)).out.mono ?_; rintro e w1 ⟨rfl, ho⟩
  have hO := Lib.hid (((Only.refl NoneOf w).alloc _).trans ho)
  have hB := (Blk.new w 140 #[.int .i64 0, (Value.slice none 0 0), .bool false]).only ho (fun h => h)
  have b0 := hB.cellv 0 rfl
  have b1 := hB.cellv 1 rfl
  have b2 := hB.cellv 2 rfl
  have f0 := hB.free 0
  have f1 := hB.free 1
  have f2 := hB.free 2
  have h1 := (h.alloc _).keep ho
  have c0 := h1.blk.cellv 0 rfl
  rcases h1.form with ⟨_, rfl⟩ | ⟨g, cap, rfl, hcap, hg, hcs⟩
  · simp at hl
  · obtain ⟨x, hx, e0, e1, e2⟩ := hcs n l hl
    clear hcs hl
    obtain ⟨st, val, dead⟩ := l
    simp only at hx e0 e1 e2
    subst hx
    go_wp2_with fail
    exact bodyPost_ret (v := .tuple #[.agg (Lk.cells ⟨st, Value.slice x.1 x.2.1 x.2.2, dead⟩).toArray, .bool true]) (by simp [results, Tryz.results154, go_sem, Lk.cells, b0, b1, b2]) rfl
      ⟨rfl, by repeat (first | exact hO.out | refine Only.drew ?_ | refine Only.drewN ?_ _ | refine Only.alloc ?_ _ | refine Only.put ?_ (.inr (by simp)) _)⟩

end Cb
end Go.Proofs.YtbhihbhjmmeibaaGreat

/-
  Layer 14: a store in memory: a map of chains; New, of, Live, may.
-/
namespace Go.Proofs.YtbhihbhjmmeibaaGreat
open Go.RowKit
open Go.Maps (Keyed)
open Cb (ChIs Foot)

abbrev MD := DataW Unit
/-- How a chain's pointer reads. -/
def RP (v : Value) : Option (MD × List MemPlace) := match v with
  | .pointer none => some (.nil, [])
  | .pointer (some ⟨p, 0, none⟩) => some (.lit (.int .i64 p), [])
  | _ => none
theorem RP_nil {v : Value} {ps : List MemPlace} (h : RP v = some (.nil, ps)) : v = .pointer none := by
  unfold RP at h
  split at h
  · rfl
  · simp at h
  · cases h
theorem RP_at {v : Value} {p : Nat} {ps : List MemPlace} (h : RP v = some (.lit (.int .i64 p), ps)) : v = .pointer (some ⟨p, 0, none⟩) := by
  unfold RP at h
  split at h
  · simp at h
  · rename_i q
    simp only [Option.some.injEq, Prod.mk.injEq, DataW.lit.injEq, Lit.int.injEq, true_and] at h
    have : q = p := by omega
    rw [this]
  · cases h

theorem law9 : Keyed Tryz.prog 9 := Go.Maps.string_keyed Tryz.underlying9
theorem zero84 (w : World) : (zeroValue 131).run Tryz.prog w = .ok (.pointer none) w := by kernel_rfl

/-- a chain of a store: where it lies, its row, its links -/
abbrev Ch := Nat × Value × List Lk

structure StIs (w : World) (s m n : Nat) (D : MD) (C : ByteArray → Option Ch) (live : Int) : Prop where
  blk : Blk w s 128 #[.map (some m), .int .i64 live]
  map : w.ownsMap Tryz.prog 9 RP m n D
  keys : ∀ (key : ByteArray) (zd : MD), key.size ≤ maxLen → D.atKey (.string key.data.toList) zd = match C key with | none => zd | some c => .lit (.int .i64 c.1)
  chains : ∀ key c, C key = some c → ChIs w c.1 c.2.1 c.2.2
  apart : ∀ key key' c c', C key = some c → C key' = some c' → key ≠ key' → ∀ k, Foot c.1 c.2.1 k → ¬ Foot c'.1 c'.2.1 k
  far : ∀ key c, C key = some c → ∀ k, Foot c.1 c.2.1 k → k ≠ s ∧ k ≠ m
  sm : s ≠ m

theorem wpList_lookup_rp {ops : Array Oper} {rest : List Oper} {o : Oper} {a : Act} {Q : Exit → Act → World → Prop} {w : World}
    (hg : o.guard = none) (mo x : Operand) (hop : o.op = Op.lookup 126 mo x false) (m n : Nat) (D : MD) (hm : a.eval mo = .map (some m)) (hown : w.ownsMap Tryz.prog 9 RP m n D)
    (key : ByteArray) (hx : a.eval x = .string key) (hl : key.size ≤ maxLen) (v : Value) (hv : ∀ v' ps, RP v' = some (D.atKey (.string key.data.toList) .nil, ps) → v' = v)
    (hK : wpList Tryz.prog ops Q rest (a.put o.dst v) w) : wpList Tryz.prog ops Q (o :: rest) a w := by
  refine wpList_plain hg fun K' hK' => ?_
  obtain ⟨v', ps, hrun, hr⟩ := hown.lookup law9 Tryz.underlying126 (zero84 w) (zd := .nil) (zp := []) rfl (Go.WideMaps.keyOf_string_mk Tryz.underlying9 hl)
  obtain rfl := hv v' ps hr
  unfold Oper.wp
  simp [execOp, hop, hm, hx, hrun, Result.andThen]
  exact hK' _ _ hK

def chPtr : Option Ch → Value
  | none => .pointer none
  | some c => .pointer (some ⟨c.1, 0, none⟩)
theorem StIs.ptr {w : World} {s m n : Nat} {D : MD} {C : ByteArray → Option Ch} {live : Int} (h : StIs w s m n D C live) {key : ByteArray} (hl : key.size ≤ maxLen) : ∀ v ps, RP v = some (D.atKey (.string key.data.toList) .nil, ps) → v = chPtr (C key) := fun v ps hr => by
  rw [h.keys key .nil hl] at hr
  cases hc : C key with
  | none => rw [hc] at hr; exact RP_nil hr
  | some c => rw [hc] at hr; exact RP_at hr

set_option maxHeartbeats 400000 in
theorem of_is (w : World) (s m n : Nat) (D : MD) (C : ByteArray → Option Ch) (live : Int) (key : ByteArray) (hl : key.size ≤ maxLen) (h : StIs w s m n D C live) :
    Calls Tryz.prog 59 #[.pointer (some ⟨s, 0, none⟩), .string key] w fun e w' => e = .returned (chPtr (C key)) ∧ w = w' := by
  have c0 := h.blk.cellv 0 rfl
  have hp := Lib.hid (h.ptr hl)
  have hm := Lib.hid h.map
  clear h
  go_enter Tryz.func59, Tryz.ntmps59
  go_wp2_with (at_lookup; refine wpList_lookup_rp rfl (.tmp 10) (.tmp 11) rfl m n D rfl hm.out key rfl hl (chPtr (C key)) hp.out ?_)
  go_ret
  exact ⟨rfl, rfl⟩
theorem of_nil (w : World) (key : ByteArray) : Calls Tryz.prog 59 #[.pointer none, .string key] w fun e w' => e = .returned (.pointer none) ∧ w = w' := by
  go_enter Tryz.func59, Tryz.ntmps59
  go_wp2_with fail
  go_ret
  exact ⟨rfl, rfl⟩
end Go.Proofs.YtbhihbhjmmeibaaGreat

/-
  Layer 14: New, may.
-/
namespace Go.Proofs.YtbhihbhjmmeibaaGreat
open Go.RowKit
open Cb (ChIs Foot)

theorem StIs.none {w : World} {s m : Nat} (hb : Blk w s 128 #[.map (some m), .int .i64 0]) (hm : w.ownsMap Tryz.prog 9 RP m 0 (.map [])) (hne : s ≠ m) : StIs w s m 0 (.map []) (fun _ => none) 0 :=
  ⟨hb, hm, fun _ _ _ => rfl, fun _ _ h => (by cases h), fun _ _ _ _ h => (by cases h), fun _ _ h => (by cases h), hne⟩

def NewPost (w : World) (e : Ending) (w' : World) : Prop :=
  e = .returned (.pointer (some ⟨w.heap.size + 1, 0, none⟩)) ∧ StIs w' (w.heap.size + 1) w.heap.size 0 (.map []) (fun _ => none) 0 ∧ Only NoneOf w w'
set_option maxHeartbeats 400000 in
theorem new_is (w : World) : Calls Tryz.prog 28 #[] w (NewPost w) := by
  have hmm := @run_makeMap Tryz.prog
  have hown := World.ownsMap_made w Tryz.prog 9 RP
  have hB := Blk.new' (w.alloc (.map #[] 0)) 128 #[.map (some w.heap.size), .int .i64 0] (n := w.heap.size + 1) (by simp)
  have HO := Lib.hid (((Only.refl NoneOf w).alloc (.map #[] 0)).alloc (.cells #[.map (some w.heap.size), .int .i64 0] 128))
  have HM := Lib.hid (hown.alloc (.cells #[.map (some w.heap.size), .int .i64 0] 128))
  have HB := Lib.hid hB
  clear hown hB
  go_enter Tryz.func28, Tryz.ntmps28
  go_wp2_with fail
  go_ret
  exact ⟨rfl, StIs.none HB.out HM.out (by omega), HO.out⟩

/-- what is wrong with a version -/
def mayI (k n : Nat) (st : Int) (dead : Bool) : Int :=
  if k < 1 ∨ 255 < k then 140 else if 4096 < n ∨ (dead = true ∧ 0 < n) then 141 else if st < 0 ∨ 4611686018427387904 < st then 2 else 0
abbrev verC (key : ByteArray) (st : Int) (v : Value) (dead : Bool) : Array Value := #[.string key, .int .i64 st, v, .bool dead]

set_option maxRecDepth 100000 in
set_option maxHeartbeats 1000000 in
theorem may_is (key : ByteArray) (st : Int) (A : Option Addr) (n c : Nat) (dead : Bool) (w : World) : Calls Tryz.prog 58 #[.agg (verC key st (.slice A n c) dead)] w fun e w' => e = .returned (.int .i64 (mayI key.size n st dead)) ∧ Only NoneOf w w' := by
  have B := Blk.new w 47 (verC key st (.slice A n c) dead)
  have c0 := B.cellv 0 rfl
  have c1 := B.cellv 1 rfl
  have c2 := B.cellv 2 rfl
  have c3 := B.cellv 3 rfl
  have HO := Lib.hid ((Only.refl NoneOf w).alloc (.cells (verC key st (.slice A n c) dead) 47))
  clear B
  by_cases h1 : key.size < 1
  · have HM := Lib.hid (show mayI key.size n st dead = 140 by unfold mayI; rw [if_pos (.inl h1)])
    rw [HM.out]
    go_enter Tryz.func58, Tryz.ntmps58
    go_wp2_with fail
    go_ret
    exact ⟨rfl, HO.out⟩
  by_cases h2 : 255 < key.size
  · have HM := Lib.hid (show mayI key.size n st dead = 140 by unfold mayI; rw [if_pos (.inr h2)])
    rw [HM.out]
    go_enter Tryz.func58, Tryz.ntmps58
    go_wp2_with fail
    go_ret
    exact ⟨rfl, HO.out⟩
  by_cases h3 : 4096 < n
  · have HM := Lib.hid (show mayI key.size n st dead = 141 by unfold mayI; rw [if_neg (by omega), if_pos (.inl h3)])
    rw [HM.out]
    go_enter Tryz.func58, Tryz.ntmps58
    go_wp2_with fail
    go_ret
    exact ⟨rfl, HO.out⟩
  by_cases h4 : dead = true ∧ 0 < n
  · have HM := Lib.hid (show mayI key.size n st dead = 141 by unfold mayI; rw [if_neg (by omega), if_pos (.inr h4)])
    rw [HM.out]
    obtain ⟨rfl, h5⟩ := h4
    go_enter Tryz.func58, Tryz.ntmps58
    go_wp2_with fail
    go_ret
    exact ⟨rfl, HO.out⟩
  cases dead
  · clear h4
    by_cases h5 : st < 0
    · have HM := Lib.hid (show mayI key.size n st false = 2 by unfold mayI; rw [if_neg (by omega), if_neg (by simp; omega), if_pos (.inl h5)])
      rw [HM.out]
      go_enter Tryz.func58, Tryz.ntmps58
      go_wp2_with fail
      go_ret
      exact ⟨rfl, HO.out⟩
    by_cases h6 : 4611686018427387904 < st
    · have HM := Lib.hid (show mayI key.size n st false = 2 by unfold mayI; rw [if_neg (by omega), if_neg (by simp; omega), if_pos (.inr h6)])
      rw [HM.out]
      have q5 : decide (st < 0) = false := decide_eq_false h5
      have q6 : decide (4611686018427387904 < st) = true := decide_eq_true h6
      clear h5 h6
      go_enter Tryz.func58, Tryz.ntmps58
      go_wp2_with fail
      go_ret
      exact ⟨rfl, HO.out⟩
    · have HM := Lib.hid (show mayI key.size n st false = 0 by unfold mayI; rw [if_neg (by omega), if_neg (by simp; omega), if_neg (by omega)])
      rw [HM.out]
      have q5 : decide (st < 0) = false := decide_eq_false h5
      have q6 : decide (4611686018427387904 < st) = false := decide_eq_false h6
      clear h5 h6
      go_enter Tryz.func58, Tryz.ntmps58
      go_wp2_with fail
      go_ret
      exact ⟨rfl, HO.out⟩
  · have h0 : n = 0 := by
      rcases Nat.eq_zero_or_pos n with h | h
      · exact h
      · exact absurd ⟨rfl, h⟩ h4
    subst h0
    clear h4 h3
    by_cases h5 : st < 0
    · have HM := Lib.hid (show mayI key.size 0 st true = 2 by unfold mayI; rw [if_neg (by omega), if_neg (by simp), if_pos (.inl h5)])
      rw [HM.out]
      go_enter Tryz.func58, Tryz.ntmps58
      go_wp2_with fail
      go_ret
      exact ⟨rfl, HO.out⟩
    by_cases h6 : 4611686018427387904 < st
    · have HM := Lib.hid (show mayI key.size 0 st true = 2 by unfold mayI; rw [if_neg (by omega), if_neg (by simp), if_pos (.inr h6)])
      rw [HM.out]
      have q5 : decide (st < 0) = false := decide_eq_false h5
      have q6 : decide (4611686018427387904 < st) = true := decide_eq_true h6
      clear h5 h6
      go_enter Tryz.func58, Tryz.ntmps58
      go_wp2_with fail
      go_ret
      exact ⟨rfl, HO.out⟩
    · have HM := Lib.hid (show mayI key.size 0 st true = 0 by unfold mayI; rw [if_neg (by omega), if_neg (by simp), if_neg (by omega)])
      rw [HM.out]
      have q5 : decide (st < 0) = false := decide_eq_false h5
      have q6 : decide (4611686018427387904 < st) = false := decide_eq_false h6
      clear h5 h6
      go_enter Tryz.func58, Tryz.ntmps58
      go_wp2_with fail
      go_ret
      exact ⟨rfl, HO.out⟩

end Go.Proofs.YtbhihbhjmmeibaaGreat

/-
  Rows of cells written whole: what stands behind them.
-/
namespace Go.Proofs.YtbhihbhjmmeibaaGreat
open Go.RowKit

theorem new2 (w : World) (t u : TypeId) (c d : Array Value) : Blk ((w.alloc (.cells c t)).alloc (.cells d u)) w.heap.size t c ∧ Blk ((w.alloc (.cells c t)).alloc (.cells d u)) (w.heap.size + 1) u d ∧ Only NoneOf w ((w.alloc (.cells c t)).alloc (.cells d u)) :=
  ⟨(Blk.new w t c).alloc _, Blk.new' _ _ _ (by simp), ((Only.refl _ _).alloc _).alloc _⟩

section
variable {w w' : World} {b g : Nat} {t : TypeId} {cs ds : Array Value} {S : Nat → Prop}
theorem Blk.row (h : Blk w b t cs) (ds : Array Value) : Blk (w.setRow b ds) b t ds := setRow_heap w b cs ds t _ h
theorem Blk.row_far (h : Blk w b t cs) (hne : b ≠ g) (ds : Array Value) : Blk (w.setRow g ds) b t cs := (setRow_other w g b ds hne).trans h
theorem Only.row (h : Only S w w') (hb : S b ∨ w.heap.size ≤ b) (ds : Array Value) : Only S w (w'.setRow b ds) :=
  ⟨h.os, h.tape, h.output, by simpa using h.size, fun i hi hs => (setRow_other w' b i ds (by
    rintro rfl
    rcases hb with hp | hp
    · exact hs hp
    · omega)).trans (h.block i hi hs)⟩
end

theorem bcell {W w1 : World} (hb : Only NoneOf W w1) : (∀ b o, b < W.heap.size → w1.cell? ⟨b, o, none⟩ = W.cell? ⟨b, o, none⟩) ∧ (∀ b o, b < W.heap.size → w1.frozen? ⟨b, o, none⟩ = W.frozen? ⟨b, o, none⟩) :=
  ⟨fun b o h => hb.cell (p := ⟨b, o, none⟩) h (fun h => h), fun b o h => hb.frozen (p := ⟨b, o, none⟩) h (fun h => h)⟩
/-- A call that answers; nothing that was there has turned. -/
def Ans (v : Value) (w : World) (e : Ending) (w' : World) : Prop := e = .returned v ∧ Only NoneOf w w'

/-- A call that answers and turns nothing. -/
def Same (v : Value) (w : World) (e : Ending) (w' : World) : Prop := e = .returned v ∧ w = w'

end Go.Proofs.YtbhihbhjmmeibaaGreat

/-
  Layer 14: own (a copy of a value).
-/
namespace Go.Proofs.YtbhihbhjmmeibaaGreat
open Go.RowKit
open Cb (ChIs Foot)

/-- A byte's cell. -/
abbrev byteV (c : UInt8) : Value := .int .u8 (c.toNat : Int)
/-- A slice of bytes that is its own. -/
def RowB (w : World) (B : Nat) (v : Value) (l : List UInt8) : Prop := w.ownsRow B 5 1 v l.length (l.map byteV)
theorem info5 : (Tryz.prog.info? 5).map (fun i => (i.zero, i.size, i.bytes)) = some (some (.int .u8 0), 1, 1) := by kernel_rfl
theorem only_grown {w w' : World} {row : Option Nat} (h : w.grownBy w' row) : Only (fun k => row = some k) w w' :=
  ⟨h.os, h.tape, h.output, h.size, fun k hk hs => h.block k hk (fun e => hs e.symm)⟩

/-- bytes in memory, from a slice's place on -/
def BytesAt (w : World) (A : Option Addr) (bs : List UInt8) : Prop := ∀ (i : Nat) (c : UInt8), bs[i]? = some c → ∃ g off, A = some ⟨g, off, none⟩ ∧ g < w.heap.size ∧ w.cell? ⟨g, off + i, none⟩ = some (byteV c)
theorem BytesAt.keep {w w' : World} {A : Option Addr} {bs : List UInt8} (h : BytesAt w A bs) (ho : Only NoneOf w w') : BytesAt w' A bs := fun i c hc => by
  obtain ⟨g, off, hA, hg, h1⟩ := h i c hc
  exact ⟨g, off, hA, Nat.lt_of_lt_of_le hg ho.size, (ho.cell (p := ⟨g, off + i, none⟩) hg (fun h => h)).trans h1⟩
theorem RowB.at {w : World} {B : Nat} {v : Value} {l : List UInt8} (h : RowB w B v l) : ∃ A cap, v = .slice A l.length cap ∧ BytesAt w A l := by
  rcases h.2 with ⟨rfl, h0⟩ | ⟨g, cap, cur, rfl, _, hb, hle, _, hsz, hcur⟩
  · obtain rfl : l = [] := List.eq_nil_of_length_eq_zero h0
    exact ⟨none, 0, rfl, fun i x hx => by simp at hx⟩
  · refine ⟨_, cap, rfl, fun i c hi => ⟨g, 0, rfl, Blk.lt (t := 5) (cs := cur) hb, ?_⟩⟩
    have hil : i < l.length := (List.getElem?_eq_some_iff.1 hi).1
    have : (l.map byteV)[i]? = some (byteV c) := by rw [List.getElem?_map, hi]; rfl
    rw [Nat.zero_add, Blk.cell (t := 5) (cs := cur) hb, ← this, ← hcur, List.getElem?_take_of_lt (by omega), Array.getElem?_toList]

theorem run_append_zero (t ty e : TypeId) (i : TypeInfo) (ht : Tryz.prog.underlying t = some (.slice e)) (hi : Tryz.prog.info? e = some i) (A : Option Addr) (c : Nat) (w : World) :
    (Builtin.append_ #[t, t] ty #[.slice none 0 0, .slice A 0 c]).run Tryz.prog w = .ok (.slice none 0 0) w := by
  cases A <;> simp [Builtin.append_, run_underlying ht, sizeOf, typeInfo, hi, Builtin.lenOf, Builtin.firstCells, loadCells, loadCellsFrom]

theorem wpList_append_zero {w : World} {ops : Array Oper} {rest : List Oper} {o : Oper} {a : Act} {Q : Exit → Act → World → Prop} (hgd : o.guard = none) (s x : Operand) (t e : TypeId)
    (ho : o.op = .call { callee := .builtin .append, args := #[s, x], argTypes := #[t, t] }) (i : TypeInfo) (ht : Tryz.prog.underlying t = some (.slice e)) (hi : Tryz.prog.info? e = some i)
    (hs : a.eval s = .slice none 0 0) (A : Option Addr) (c : Nat) (hx : a.eval x = .slice A 0 c) (h : wpList Tryz.prog ops Q rest (a.put o.dst (.slice none 0 0)) w) : wpList Tryz.prog ops Q (o :: rest) a w := by
  refine wpList_plain hgd fun K hK => ?_
  have hrun := run_append_zero t o.type e i ht hi A c w
  unfold Oper.wp
  simp [execOp, ho, resolve, invoke, builtin, hs, hx, hrun, Result.andThen]
  exact hK _ _ h

def OwnPost (bs : List UInt8) (w : World) (e : Ending) (w' : World) : Prop := ∃ v, e = .returned v ∧ RowB w' w.heap.size v bs ∧ Only NoneOf w w'

set_option maxRecDepth 100000 in
set_option maxHeartbeats 1000000 in
theorem own_is (A : Option Addr) (n c : Nat) (bs : List UInt8) (w : World) (hn : bs.length = n) (hA : BytesAt w A bs) (hl : n ≤ 35184372088832) : Calls Tryz.prog 62 #[.slice A n c] w (OwnPost bs w) := by
  obtain ⟨i0, hi, hz0, hz1, hz2⟩ := info_parts info5
  rcases Nat.eq_zero_or_pos n with h0 | h0
  · subst h0
    obtain rfl : bs = [] := List.eq_nil_of_length_eq_zero hn
    go_enter Tryz.func62, Tryz.ntmps62
    go_wp2_with (at_builtin; refine wpList_append_zero rfl (.const (.slice none 0 0)) (.tmp 3) 45 5 rfl i0 Tryz.underlying45 hi rfl A c rfl ?_)
    go_ret
    exact ⟨_, rfl, ⟨by simp, .inl ⟨rfl, rfl⟩⟩, Only.refl _ _⟩
  · obtain ⟨g, off, rfl, hg, hq⟩ := hA 0 bs[0] (List.getElem?_eq_getElem (by omega))
    clear hq hg
    have HA := Lib.hid hA
    have HN := Lib.hid hn
    clear hA hn
    go_enter Tryz.func62, Tryz.ntmps62
    go_wp2_with (at_builtin; refine wpList_append_lies w rfl (.const (.slice none 0 0)) (.tmp 3) 45 rfl w.heap.size 5 i0 _ 1 1 Tryz.underlying45 hi hz0 hz1 hz2 rfl (by decide) (.slice none 0 0) 0 [] rfl ⟨rfl, .inl ⟨rfl, rfl⟩⟩ ⟨g, off, none⟩ n c (bs.map byteV) rfl (by rw [List.length_map, HN.out, Nat.mul_one]) ?_ ?_ h0 (by unfold maxLen; omega) (by omega) (Nat.le_refl _) w.heap.size rfl ?_)
    · intro j u hj
      have hadd : (⟨g, off, none⟩ : Addr).add j = ⟨g, off + j, none⟩ := by unfold Addr.add; split <;> simp_all
      rw [List.getElem?_map] at hj
      obtain ⟨b, hb, rfl⟩ := Option.map_eq_some_iff.1 hj
      obtain ⟨g', off', he, _, h1⟩ := HA.out j b hb
      simp only [Option.some.injEq, Addr.mk.injEq, and_true] at he
      obtain ⟨rfl, rfl⟩ := he
      rw [hadd]
      exact h1
    · intro u hu
      obtain ⟨b, _, rfl⟩ := List.mem_map.1 hu
      rfl
    · intro g' cap w' h1 h2 h3 _
      have H1 := Lib.hid h1
      have H2 := Lib.hid h2
      clear h1 h2 h3
      go_wp2_with fail
      go_ret
      refine ⟨.slice (some ⟨g', 0, none⟩) n cap, by simp, ?_, (only_grown H2.out).mono (fun k _ hk => by simp [Value.ownBlock] at hk)⟩
      have h3 : World.ownsRow w' w.heap.size 5 1 (.slice (some ⟨g', 0, none⟩) n cap) n (bs.map byteV) := by simpa using H1.out
      show World.ownsRow w' w.heap.size 5 1 (.slice (some ⟨g', 0, none⟩) n cap) bs.length (bs.map byteV)
      rw [HN.out]
      exact h3

end Go.Proofs.YtbhihbhjmmeibaaGreat

/-
  Layer 14: a store and what its chains hold; weight, Newest, Get.
-/
namespace Go.Proofs.YtbhihbhjmmeibaaGreat
open Go.RowKit
open Cb (ChIs Foot TellPost zeroLk)

/-- a version of a key -/
structure Ver where
  st : Int
  bs : List UInt8
  dead : Bool

/-- the blocks that a store turns -/
def Ter (s m : Nat) (C : ByteArray → Option Ch) (k : Nat) : Prop := k = s ∨ k = m ∨ ∃ key c, C key = some c ∧ Foot c.1 c.2.1 k
/-- .. and the blocks U besides -/
def TerU (s m : Nat) (C : ByteArray → Option Ch) (U : Nat → Prop) (k : Nat) : Prop := Ter s m C k ∨ U k
/-- a link holds a version, its bytes apart from what the store turns -/
def Holds (w : World) (T : Nat → Prop) (l : Lk) (x : Ver) : Prop :=
  l.stamp = x.st ∧ l.dead = x.dead ∧ ∃ A c, l.val = .slice A x.bs.length c ∧ BytesAt w A x.bs ∧ (x.bs ≠ [] → ∀ g off, A = some ⟨g, off, none⟩ → ¬ T g)

structure Sto (w : World) (s m n : Nat) (D : MD) (C : ByteArray → Option Ch) (live : Int) (V : ByteArray → List Ver) (U : Nat → Prop) : Prop where
  is : StIs w s m n D C live
  len : ∀ key c, C key = some c → c.2.2.length = (V key).length
  ver : ∀ (key : ByteArray) (c : Ch), C key = some c → ∀ (i : Nat) (l : Lk) (x : Ver), c.2.2[i]? = Option.some l → (V key)[i]? = Option.some x → Holds w (TerU s m C U) l x
  nov : ∀ key, C key = Option.none → V key = []
  has : ∀ key c, C key = some c → V key ≠ []

theorem info92 : (Tryz.prog.info? 140).map (·.size) = some 3 := by kernel_rfl
theorem one_lk (st : Int) (A : Option Addr) (n c : Nat) (dead : Bool) : (#[.int .i64 st, .slice A n c, .bool dead] : Array Value).all (·.oneCell') = true := by simp [Value.oneCell']

theorem snoc_of {α : Type} : ∀ {l : List α}, l ≠ [] → ∃ a x, l = a ++ [x]
  | [], h => absurd rfl h
  | [x], _ => ⟨[], x, rfl⟩
  | x :: y :: l, _ => by
    obtain ⟨a, z, h⟩ := snoc_of (l := y :: l) (by simp)
    exact ⟨x :: a, z, by rw [h]; rfl⟩

/-- what the last version weighs -/
def wgt (key : ByteArray) (xs : List Ver) : Int := match xs.getLast? with
  | none => 0
  | some x => if x.dead then 0 else key.size + x.bs.length

/-- the last link of a key's chain, and the version that it holds -/
theorem Sto.last {w : World} {s m n : Nat} {D : MD} {C : ByteArray → Option Ch} {live : Int} {V : ByteArray → List Ver} {U : Nat → Prop} (h : Sto w s m n D C live V U) {key : ByteArray} {c : Ch} (hc : C key = some c) :
    ∃ ls l xs x, c.2.2 = ls ++ [l] ∧ V key = xs ++ [x] ∧ Holds w (TerU s m C U) l x := by
  obtain ⟨xs, x, hx⟩ := snoc_of (h.has key c hc)
  have hl := h.len key c hc
  have hne : c.2.2 ≠ [] := fun e => by rw [e, hx] at hl; simp at hl
  obtain ⟨ls, l, hls⟩ := snoc_of hne
  rw [hls, hx] at hl
  simp at hl
  refine ⟨ls, l, xs, x, hls, hx, h.ver key c hc ls.length l x (by rw [hls]; simp) (by rw [hx, hl]; simp)⟩

set_option maxRecDepth 100000 in
set_option maxHeartbeats 1000000 in
theorem weight_is (w : World) (s m n : Nat) (D : MD) (C : ByteArray → Option Ch) (live : Int) (V : ByteArray → List Ver) {U : Nat → Prop} (key : ByteArray) (hk : key.size ≤ 255) (h : Sto w s m n D C live V U) (hv : ∀ x ∈ V key, x.bs.length ≤ 4096) :
    Calls Tryz.prog 60 #[.pointer (some ⟨s, 0, none⟩), .string key] w fun e w' => e = .returned (.int .i64 (wgt key (V key))) ∧ Only NoneOf w w' := by
  have hof := of_is w s m n D C live key (by unfold maxLen; omega) h.is
  cases hc : C key with
  | none =>
    have HV := Lib.hid (show wgt key (V key) = 0 by rw [h.nov key hc]; rfl)
    rw [hc] at hof
    have HL := fun u => Lib.hid (Cb.last_nil u)
    have HOf := Lib.hid hof
    clear h hv hof hc
    rw [HV.out]
    go_enter Tryz.func60, Tryz.ntmps60
    go_wp2_with fail
    refine HOf.out.mono ?_; rintro e w1 ⟨rfl, rfl⟩
    go_wp2_with fail
    refine (HL _).out.mono ?_; rintro e w1 ⟨rfl, ho1⟩
    have hB := Blk.new w1 140 zeroLk
    have HO := Lib.hid (((ho1.alloc (.cells zeroLk 140)).row (b := w1.heap.size) (.inr ho1.size) zeroLk))
    clear ho1
    go_wp2_with (first | (refine wpList_store_row rfl 140 (.tmp 5) (.tmp 12) rfl w1.heap.size zeroLk rfl rfl 140 zeroLk hB info92 rfl (one_lk _ _ _ _ _) ?_) | fail)
    go_ret
    exact ⟨rfl, HO.out⟩
  | some c =>
    obtain ⟨ls, l, xs, x, e1, e2, hst, hd, A, cp, hval, _, _⟩ := h.last hc
    have hch := h.is.chains key c hc
    rw [e1] at hch
    rw [hc] at hof
    have hxl := hv x (by rw [e2]; simp)
    have HL := Lib.hid (Cb.last_has w c.1 c.2.1 ls l hch)
    have HOf := Lib.hid hof
    obtain ⟨lst, lv, ld⟩ := l
    simp only at hst hd hval
    subst hst; subst hd; subst hval
    have HV := Lib.hid (show wgt key (V key) = if x.dead then 0 else (key.size : Int) + x.bs.length by rw [e2]; unfold wgt; rw [List.getLast?_concat])
    clear h hv hof hc e1 e2 hch
    rw [HV.out]
    generalize x.bs.length = nb at *
    generalize x.st = xst at *
    cases hdd : x.dead
    · rw [hdd] at HL
      go_enter Tryz.func60, Tryz.ntmps60
      go_wp2_with fail
      refine HOf.out.mono ?_; rintro e w1 ⟨rfl, rfl⟩
      go_wp2_with fail
      refine HL.out.mono ?_; rintro e w1 ⟨rfl, ho1⟩
      have hB := Blk.new w1 140 zeroLk
      have E5 := hB.row #[.int .i64 xst, .slice A nb cp, .bool false]
      have HO := Lib.hid (((ho1.alloc (.cells zeroLk 140)).row (b := w1.heap.size) (.inr ho1.size) #[.int .i64 xst, .slice A nb cp, .bool false]))
      have k1 := E5.cellv 1 rfl
      have k2 := E5.cellv 2 rfl
      clear ho1 E5
      go_wp2_with (first | (refine wpList_store_row rfl 140 (.tmp 5) (.tmp 12) rfl w1.heap.size #[.int .i64 xst, .slice A nb cp, .bool false] rfl rfl 140 zeroLk hB info92 rfl (one_lk _ _ _ _ _) ?_) | fail)
      go_ret
      exact ⟨by simp, HO.out⟩
    · rw [hdd] at HL
      go_enter Tryz.func60, Tryz.ntmps60
      go_wp2_with fail
      refine HOf.out.mono ?_; rintro e w1 ⟨rfl, rfl⟩
      go_wp2_with fail
      refine HL.out.mono ?_; rintro e w1 ⟨rfl, ho1⟩
      have hB := Blk.new w1 140 zeroLk
      have E5 := hB.row #[.int .i64 xst, .slice A nb cp, .bool true]
      have HO := Lib.hid (((ho1.alloc (.cells zeroLk 140)).row (b := w1.heap.size) (.inr ho1.size) #[.int .i64 xst, .slice A nb cp, .bool true]))
      have k2 := E5.cellv 2 rfl
      clear ho1 E5
      go_wp2_with (first | (refine wpList_store_row rfl 140 (.tmp 5) (.tmp 12) rfl w1.heap.size #[.int .i64 xst, .slice A nb cp, .bool true] rfl rfl 140 zeroLk hB info92 rfl (one_lk _ _ _ _ _) ?_) | fail)
      go_ret
      exact ⟨by simp, HO.out⟩

end Go.Proofs.YtbhihbhjmmeibaaGreat

/-
  Layer 14: Get.
-/
namespace Go.Proofs.YtbhihbhjmmeibaaGreat
open Go.RowKit
open Cb (ChIs Foot TellPost zeroLk)

/-- the newest version at a stamp -/
def newest (xs : List Ver) (st : Int) : Option Ver := (xs.takeWhile fun x => decide (x.st ≤ st)).getLast?
/-- what Get finds -/
def found (xs : List Ver) (st : Int) : Option (List UInt8) := (newest xs st).bind fun x => if x.dead then none else some x.bs

theorem cnt_ver : ∀ (ls : List Lk) (xs : List Ver) (st : Int), ls.length = xs.length → (∀ (i : Nat) (l : Lk) (x : Ver), ls[i]? = some l → xs[i]? = some x → l.stamp = x.st) → cnt ls st = (xs.takeWhile fun x => decide (x.st ≤ st)).length
  | [], [], _, _, _ => rfl
  | [], _ :: _, _, h, _ => by simp at h
  | _ :: _, [], _, h, _ => by simp at h
  | l :: ls, x :: xs, st, h, hs => by
    have ih := cnt_ver ls xs st (by simpa using h) (fun i l x hl hx => hs (i + 1) l x (by simpa using hl) (by simpa using hx))
    have h0 : l.stamp = x.st := hs 0 l x rfl rfl
    unfold cnt at ih ⊢
    rw [List.takeWhile_cons, List.takeWhile_cons, h0]
    split
    · simp only [List.length_cons]
      rw [ih]
    · rfl
theorem take_at {α : Type} (p : α → Bool) : ∀ (xs : List α) (n : Nat) (x : α), (xs.takeWhile p).length = n + 1 → (xs.takeWhile p).getLast? = some x → xs[n]? = some x
  | xs, n, x, hl, hx => by
    have h1 : (xs.takeWhile p)[n]? = some x := by
      rw [List.getLast?_eq_getElem?, hl] at hx
      exact hx
    have h2 : xs.takeWhile p <+: xs := List.takeWhile_prefix p
    obtain ⟨r, hr⟩ := h2
    rw [← hr, List.getElem?_append_left (by omega)]
    exact h1

theorem Sto.count {w : World} {s m n : Nat} {D : MD} {C : ByteArray → Option Ch} {live : Int} {V : ByteArray → List Ver} {U : Nat → Prop} (h : Sto w s m n D C live V U) {key : ByteArray} {c : Ch} (hc : C key = some c) (st : Int) :
    (newest (V key) st = none ∧ cnt c.2.2 st = 0) ∨ ∃ k l x, newest (V key) st = some x ∧ cnt c.2.2 st = k + 1 ∧ c.2.2[k]? = some l ∧ Holds w (TerU s m C U) l x := by
  have hl := h.len key c hc
  have hcnt := cnt_ver c.2.2 (V key) st hl (fun i l x h1 h2 => (h.ver key c hc i l x h1 h2).1)
  unfold newest
  cases hg : ((V key).takeWhile fun x => decide (x.st ≤ st)).getLast? with
  | none =>
    rw [List.getLast?_eq_none_iff] at hg
    rw [hg] at hcnt
    exact .inl ⟨rfl, hcnt⟩
  | some x =>
    have hne : ((V key).takeWhile fun x => decide (x.st ≤ st)) ≠ [] := fun e => by rw [e] at hg; simp at hg
    obtain ⟨k, hk⟩ : ∃ k, ((V key).takeWhile fun x => decide (x.st ≤ st)).length = k + 1 := ⟨_, (Nat.succ_pred_eq_of_pos (List.length_pos_iff.2 hne)).symm⟩
    have hx := take_at _ (V key) k x hk hg
    have hkl : k < c.2.2.length := by rw [hl]; exact (List.getElem?_eq_some_iff.1 hx).1
    exact .inr ⟨k, c.2.2[k], x, rfl, hcnt.trans hk, List.getElem?_eq_getElem hkl, h.ver key c hc k _ x (List.getElem?_eq_getElem hkl) hx⟩

def GetIs (R : Option (List UInt8)) (w : World) (e : Ending) (w' : World) : Prop :=
  (match R with
    | none => e = .returned (.tuple #[.slice none 0 0, .bool false])
    | some bs => ∃ v, e = .returned (.tuple #[v, .bool true]) ∧ RowB w' w.heap.size v bs) ∧ Only NoneOf w w'

set_option maxRecDepth 100000 in
set_option maxHeartbeats 2000000 in
theorem get_is (w : World) (s m n : Nat) (D : MD) (C : ByteArray → Option Ch) (live : Int) (V : ByteArray → List Ver) {U : Nat → Prop} (key : ByteArray) (st : Int) (hk : key.size ≤ maxLen) (h : Sto w s m n D C live V U) (hv : ∀ x ∈ V key, x.bs.length ≤ 4096) :
    Calls Tryz.prog 152 #[.pointer (some ⟨s, 0, none⟩), .string key, .int .i64 st] w (GetIs (found (V key) st) w) := by
  have hof := of_is w s m n D C live key hk h.is
  obtain ⟨R, HR⟩ : ∃ R, Hid (found (V key) st = R) := ⟨_, Lib.hid rfl⟩
  rw [HR.out]
  have miss : ∀ v0, chPtr (C key) = v0 → (∀ u, Only NoneOf w u → True) → Hid (Calls Tryz.prog 154 #[v0, .int .i64 st] w (TellPost zeroLk false w)) → R = none →
      Calls Tryz.prog 152 #[.pointer (some ⟨s, 0, none⟩), .string key, .int .i64 st] w (GetIs R w) := by
    intro v0 hv0 _ HA hR
    have HRN := Lib.hid hR
    rw [hv0] at hof
    have HOf := Lib.hid hof
    clear h hv hof hv0 hR HR
    go_enter Tryz.func152, Tryz.ntmps152
    go_wp2_with fail
    refine HOf.out.mono ?_; rintro e w1 ⟨rfl, rfl⟩
    go_wp2_with fail
    refine HA.out.mono ?_; rintro e w1 ⟨rfl, ho1⟩
    have hB := Blk.new w1 140 zeroLk
    have HO := Lib.hid (((ho1.alloc (.cells zeroLk 140)).row (b := w1.heap.size) (.inr ho1.size) zeroLk))
    clear ho1
    go_wp2_with (first | (refine wpList_store_row rfl 140 (.tmp 8) (.tmp 16) rfl w1.heap.size zeroLk rfl rfl 140 zeroLk hB info92 rfl (one_lk _ _ _ _ _) ?_) | fail)
    go_ret2
    rw [HRN.out]
    exact ⟨rfl, HO.out⟩
  cases hc : C key with
  | none =>
    refine miss _ rfl (fun _ _ => trivial) (by rw [hc]; exact Lib.hid (Cb.at_nil w st)) ?_
    rw [← HR.out, h.nov key hc]
    rfl
  | some c =>
    have hch := h.is.chains key c hc
    rcases h.count hc st with ⟨h1, h2⟩ | ⟨k, l, x, h1, h2, h3, hst, hd, A, cp, hval, hby, _⟩
    · refine miss _ rfl (fun _ _ => trivial) (by rw [hc]; exact Lib.hid (Cb.at_none w c.1 c.2.1 c.2.2 st hch h2)) ?_
      rw [← HR.out]
      unfold found
      rw [h1]
      rfl
    · have HA := Lib.hid (Cb.at_has w c.1 c.2.1 c.2.2 st k l hch h2 h3)
      rw [hc] at hof
      have HOf := Lib.hid hof
      have hxl : x.bs.length ≤ 4096 := hv x ((List.takeWhile_prefix _).subset (List.mem_of_getLast? h1))
      obtain ⟨lst, lv, ld⟩ := l
      simp only at hst hd hval
      subst hst; subst hd; subst hval
      have HRR := Lib.hid (show R = if x.dead then none else some x.bs by rw [← HR.out]; unfold found; rw [h1]; rfl)
      have HBY := Lib.hid hby
      clear h hv hof hc hch h1 h2 h3 hby HR miss
      obtain ⟨xst, xb, xd⟩ := x
      obtain ⟨nb, hnb⟩ : ∃ nb, xb.length = nb := ⟨_, rfl⟩
      have HNB := Lib.hid hnb
      simp only [hnb] at HA hxl
      have HOW := fun u (ho : Only NoneOf w u) => Lib.hid (own_is A nb cp xb u hnb (HBY.out.keep ho) (by omega))
      clear hnb
      cases xd
      · have HRN := Lib.hid (show R = some xb from HRR.out)
        go_enter Tryz.func152, Tryz.ntmps152
        go_wp2_with fail
        refine HOf.out.mono ?_; rintro e w1 ⟨rfl, rfl⟩
        go_wp2_with fail
        refine HA.out.mono ?_; rintro e w1 ⟨rfl, ho1⟩
        have hB := Blk.new w1 140 zeroLk
        have E5 := hB.row #[.int .i64 xst, .slice A nb cp, .bool false]
        have HO := Lib.hid (((ho1.alloc (.cells zeroLk 140)).row (b := w1.heap.size) (.inr ho1.size) #[.int .i64 xst, .slice A nb cp, .bool false]))
        have k1 := E5.cellv 1 rfl
        have k2 := E5.cellv 2 rfl
        clear ho1 E5
        go_wp2_with (first | (refine wpList_store_row rfl 140 (.tmp 8) (.tmp 16) rfl w1.heap.size #[.int .i64 xst, .slice A nb cp, .bool false] rfl rfl 140 zeroLk hB info92 rfl (one_lk _ _ _ _ _) ?_) | fail)
        refine (HOW _ HO.out).out.mono ?_; rintro e w2 ⟨v, rfl, hr, ho2⟩
        have HR2 := Lib.hid hr
        have HO2 := Lib.hid (HO.out.trans ho2)
        have hsz := HO.out.size
        clear hr ho2
        go_wp2_with fail
        go_ret2
        rw [HRN.out]
        refine ⟨⟨v, rfl, HR2.out.1, ?_⟩, HO2.out⟩
        rcases HR2.out.2 with h0 | ⟨g, cap, cur, hv, hb, r⟩
        · exact .inl h0
        · exact .inr ⟨g, cap, cur, hv, Nat.le_trans hsz hb, r⟩
      · have HRN := Lib.hid (show R = none from HRR.out)
        go_enter Tryz.func152, Tryz.ntmps152
        go_wp2_with fail
        refine HOf.out.mono ?_; rintro e w1 ⟨rfl, rfl⟩
        go_wp2_with fail
        refine HA.out.mono ?_; rintro e w1 ⟨rfl, ho1⟩
        have hB := Blk.new w1 140 zeroLk
        have E5 := hB.row #[.int .i64 xst, .slice A nb cp, .bool true]
        have HO := Lib.hid (((ho1.alloc (.cells zeroLk 140)).row (b := w1.heap.size) (.inr ho1.size) #[.int .i64 xst, .slice A nb cp, .bool true]))
        have k2 := E5.cellv 2 rfl
        clear ho1 E5
        go_wp2_with (first | (refine wpList_store_row rfl 140 (.tmp 8) (.tmp 16) rfl w1.heap.size #[.int .i64 xst, .slice A nb cp, .bool true] rfl rfl 140 zeroLk hB info92 rfl (one_lk _ _ _ _ _) ?_) | fail)
        go_ret2
        rw [HRN.out]
        exact ⟨rfl, HO.out⟩

end Go.Proofs.YtbhihbhjmmeibaaGreat

/-
  Layer 14: what stays of a store, and a store with a version more.
-/
namespace Go.Proofs.YtbhihbhjmmeibaaGreat
open Go.RowKit
open Cb (ChIs Foot)

theorem map_only {w w' : World} {S : Nat → Prop} {m n : Nat} {D : MD} (h : w.ownsMap Tryz.prog 9 RP m n D) (ho : Only S w w') (hS : ¬ S m) : w'.ownsMap Tryz.prog 9 RP m n D := by
  have hlt := h.lt
  obtain ⟨es, clock, hb, r⟩ := h
  exact ⟨es, clock, (ho.block m hlt hS).trans hb, r⟩

theorem Holds.turn {w w' : World} {S T T' : Nat → Prop} {l : Lk} {x : Ver} (h : Holds w T l x) (ho : Only S w w') (hS : ∀ g, g < w.heap.size → ¬ T g → ¬ S g) (hT : ∀ g, g < w.heap.size → ¬ T g → ¬ T' g) : Holds w' T' l x := by
  obtain ⟨h1, h2, A, c, hval, hby, hap⟩ := h
  refine ⟨h1, h2, A, c, hval, ?_, fun hne g off hA => ?_⟩
  · intro i b hb
    obtain ⟨g, off, hA, hg, hc⟩ := hby i b hb
    have hne : x.bs ≠ [] := fun e => by rw [e] at hb; simp at hb
    exact ⟨g, off, hA, Nat.lt_of_lt_of_le hg ho.size, (ho.cell (p := ⟨g, off + i, none⟩) hg (hS g hg (hap hne g off hA))).trans hc⟩
  · have h0 : x.bs[0]? = some (x.bs[0]'(List.length_pos_iff.2 hne)) := List.getElem?_eq_getElem _
    obtain ⟨g', off', hA', hg', _⟩ := hby 0 _ h0
    rw [hA] at hA'
    simp only [Option.some.injEq, Addr.mk.injEq, and_true] at hA'
    obtain ⟨rfl, rfl⟩ := hA'
    exact hT g hg' (hap hne g off hA)

theorem StIs.ter_lt {w : World} {s m n : Nat} {D : MD} {C : ByteArray → Option Ch} {live : Int} (h : StIs w s m n D C live) {k : Nat} (hk : Ter s m C k) : k < w.heap.size := by
  rcases hk with rfl | rfl | ⟨key, c, hc, hf⟩
  · exact h.blk.lt
  · exact h.map.lt
  · exact (h.chains key c hc).foot_lt hf

theorem Sto.keep {w w' : World} {s m n : Nat} {D : MD} {C : ByteArray → Option Ch} {live : Int} {V : ByteArray → List Ver} {U : Nat → Prop} (h : Sto w s m n D C live V U) (ho : Only NoneOf w w') : Sto w' s m n D C live V U :=
  ⟨⟨h.is.blk.only ho (fun h => h), map_only h.is.map ho (fun h => h), h.is.keys, fun key c hc => (h.is.chains key c hc).keep ho, h.is.apart, h.is.far, h.is.sm⟩,
    h.len, fun key c hc i l x hl hx => (h.ver key c hc i l x hl hx).turn ho (fun _ _ _ h => h) (fun _ _ h => h), h.nov, h.has⟩

/-- one key's entry anew -/
def upd {α : Type} (C : ByteArray → α) (key : ByteArray) (c : α) : ByteArray → α := fun k => if k = key then c else C k
theorem upd_same {α : Type} (C : ByteArray → α) (key : ByteArray) (c : α) : upd C key c key = c := if_pos rfl
theorem upd_other {α : Type} (C : ByteArray → α) {key k : ByteArray} (c : α) (h : k ≠ key) : upd C key c k = C k := if_neg h

/-- a key's links -/
def linksOf : Option Ch → List Lk
  | none => []
  | some c => c.2.2

theorem string_ne {a b : ByteArray} (h : a ≠ b) : (Lit.string a.data.toList) ≠ .string b.data.toList := fun e => by
  simp only [Lit.string.injEq] at e
  apply h
  apply ByteArray.ext
  exact Array.ext' e

theorem Sto.add {W w : World} {s m n : Nat} {D : MD} {C : ByteArray → Option Ch} {live : Int} {V : ByteArray → List Ver} {U : Nat → Prop} {key : ByteArray} {p : Nat} {v' : Value} {l : Lk} {x : Ver}
    (h : Sto W s m n D C live V U) (ho : Only (fun k => k = m ∨ ∃ c, C key = some c ∧ Foot c.1 c.2.1 k) W w) (hA : ChIs w p v' (linksOf (C key) ++ [l])) (hfoot : ∀ k, Foot p v' k → (∃ c, C key = some c ∧ Foot c.1 c.2.1 k) ∨ W.heap.size ≤ k)
    (hown : w.ownsMap Tryz.prog 9 RP m (n + 1) (D.put (.string key.data.toList) (.lit (.int .i64 p)))) (hx : Holds w (TerU s m (upd C key (some (p, v', linksOf (C key) ++ [l]))) U) l x) :
    Sto w s m (n + 1) (D.put (.string key.data.toList) (.lit (.int .i64 p))) (upd C key (some (p, v', linksOf (C key) ++ [l]))) live (upd V key (V key ++ [x])) U := by
  obtain ⟨c', hc'⟩ : ∃ c', c' = ((p, v', linksOf (C key) ++ [l]) : Ch) := ⟨_, rfl⟩
  have hsF : ∀ c, C key = some c → ∀ k, Foot c.1 c.2.1 k → k ≠ s ∧ k ≠ m := fun c hc k hk => h.is.far key c hc k hk
  have hslt := h.is.blk.lt
  have hmlt := h.is.map.lt
  have hfar : ∀ k, Foot p v' k → k ≠ s ∧ k ≠ m := fun k hk => by
    rcases hfoot k hk with ⟨c, hc, hf⟩ | hk
    · exact hsF c hc k hf
    · exact ⟨by omega, by omega⟩
  have hoth : ∀ k2 c2, k2 ≠ key → C k2 = some c2 → ∀ k, Foot c2.1 c2.2.1 k → ¬ (k = m ∨ ∃ c, C key = some c ∧ Foot c.1 c.2.1 k) := fun k2 c2 hne hc2 k hk h' => by
    rcases h' with rfl | ⟨c, hc, hf⟩
    · exact (h.is.far k2 c2 hc2 _ hk).2 rfl
    · exact h.is.apart key k2 c c2 hc hc2 (Ne.symm hne) k hf hk
  have happ : ∀ k2 c2, k2 ≠ key → C k2 = some c2 → ∀ k, Foot p v' k → ¬ Foot c2.1 c2.2.1 k := fun k2 c2 hne hc2 k hk h2 => by
    rcases hfoot k hk with ⟨c, hc, hf⟩ | hge
    · exact h.is.apart key k2 c c2 hc hc2 (Ne.symm hne) k hf h2
    · have := (h.is.chains k2 c2 hc2).foot_lt h2
      omega
  have hT : ∀ g, g < W.heap.size → ¬ TerU s m C U g → ¬ TerU s m (upd C key (some (p, v', linksOf (C key) ++ [l]))) U g := fun g hg hn' ht => by
    have hn : ¬ Ter s m C g := fun h => hn' (.inl h)
    rcases ht with (rfl | rfl | ⟨k2, c2, hc2, hf⟩) | hu
    case inr => exact hn' (.inr hu)
    · exact hn (.inl rfl)
    · exact hn (.inr (.inl rfl))
    · by_cases e : k2 = key
      · rw [e, upd_same] at hc2
        cases hc2
        rcases hfoot g hf with ⟨c, hc, hf'⟩ | hge
        · exact hn (.inr (.inr ⟨key, c, hc, hf'⟩))
        · omega
      · rw [upd_other _ _ e] at hc2
        exact hn (.inr (.inr ⟨k2, c2, hc2, hf⟩))
  have hS : ∀ g, g < W.heap.size → ¬ TerU s m C U g → ¬ (g = m ∨ ∃ c, C key = some c ∧ Foot c.1 c.2.1 g) := fun g _ hn' h' => by
    have hn : ¬ Ter s m C g := fun h => hn' (.inl h)
    rcases h' with rfl | ⟨c, hc, hf⟩
    · exact hn (.inr (.inl rfl))
    · exact hn (.inr (.inr ⟨key, c, hc, hf⟩))
  refine ⟨⟨h.is.blk.only ho ?_, hown, fun k zd hk => ?_, fun k c hc => ?_, fun k k2 c c2 hc hc2 hne f hf hf2 => ?_, fun k c hc f hf => ?_, h.is.sm⟩, fun k c hc => ?_, fun k c hc i l2 x2 hl2 hx2 => ?_, fun k hc => ?_, fun k c hc => ?_⟩
  · rintro (e | ⟨c, hc, hf⟩)
    · exact h.is.sm e
    · exact (hsF c hc s hf).1 rfl
  · by_cases e : k = key
    · subst e
      rw [upd_same, Go.Maps.atKey_put_same (k := .string k.data.toList) (by obtain ⟨es, clock, _, _, _, hD⟩ := h.is.map; exact ⟨_, hD⟩) trivial]
    · rw [upd_other _ _ e, Go.Maps.atKey_put_other (string_ne e)]
      exact h.is.keys k zd hk
  · by_cases e : k = key
    · rw [e, upd_same] at hc
      cases hc
      exact hA
    · rw [upd_other _ _ e] at hc
      exact (h.is.chains k c hc).only ho (hoth k c e hc)
  · by_cases e : k = key
    · by_cases e2 : k2 = key
      · exact hne (e.trans e2.symm)
      · rw [e, upd_same] at hc
        rw [upd_other _ _ e2] at hc2
        cases hc
        exact happ k2 c2 e2 hc2 f hf hf2
    · rw [upd_other _ _ e] at hc
      by_cases e2 : k2 = key
      · rw [e2, upd_same] at hc2
        cases hc2
        exact happ k c e hc f hf2 hf
      · rw [upd_other _ _ e2] at hc2
        exact h.is.apart k k2 c c2 hc hc2 hne f hf hf2
  · by_cases e : k = key
    · rw [e, upd_same] at hc
      cases hc
      exact hfar f hf
    · rw [upd_other _ _ e] at hc
      exact h.is.far k c hc f hf
  · by_cases e : k = key
    · rw [e, upd_same] at hc
      cases hc
      rw [e, upd_same]
      have : (linksOf (C key)).length = (V key).length := by
        cases hk : C key with
        | none => rw [h.nov key hk]; rfl
        | some c => exact h.len key c hk
      simp [this]
    · rw [upd_other _ _ e] at hc ⊢
      exact h.len k c hc
  · by_cases e : k = key
    · rw [e, upd_same] at hc
      cases hc
      rw [e, upd_same] at hx2
      have hll : (linksOf (C key)).length = (V key).length := by
        cases hk : C key with
        | none => rw [h.nov key hk]; rfl
        | some c => exact h.len key c hk
      by_cases hi : i < (V key).length
      · have hl2' : (linksOf (C key) ++ [l])[i]? = some l2 := hl2
        rw [List.getElem?_append_left (by omega)] at hl2' hx2
        cases hk : C key with
        | none => rw [hk] at hl2'; simp [linksOf] at hl2'
        | some c =>
          rw [hk] at hl2'
          have := (h.ver key c hk i l2 x2 hl2' hx2).turn ho hS hT
          rw [hk] at this
          exact this
      · have hl2' : (linksOf (C key) ++ [l])[i]? = some l2 := hl2
        have hil : i = (V key).length := by
          have := (List.getElem?_eq_some_iff.1 hx2).1
          simp at this
          omega
        rw [hil, List.getElem?_append_right (Nat.le_refl _), Nat.sub_self] at hx2
        rw [hil, ← hll, List.getElem?_append_right (Nat.le_refl _), Nat.sub_self] at hl2'
        simp at hx2 hl2'
        rw [← hx2, ← hl2']
        exact hx
    · rw [upd_other _ _ e] at hc hx2
      exact (h.ver k c hc i l2 x2 hl2 hx2).turn ho hS hT
  · by_cases e : k = key
    · rw [e, upd_same] at hc
      cases hc
    · rw [upd_other _ _ e] at hc ⊢
      exact h.nov k hc
  · by_cases e : k = key
    · rw [e, upd_same]
      simp
    · rw [upd_other _ _ e] at hc ⊢
      exact h.has k c hc

end Go.Proofs.YtbhihbhjmmeibaaGreat

/-
  A region that draws its order, whose calls make memory but turn nothing that was there: one walk of the text's order.
-/
namespace Go.Proofs.YtbhihbhjmmeibaaGreat
open Go.RowKit

/-- The worlds in which nothing of W has turned. -/
def Aft (W w : World) : Prop := Only NoneOf W w

section
variable {P : Program} {ops : Array Oper} {W : World} {Q : Act → Prop} {a : Act} {o : Oper} {rest : List Oper}

theorem wp_region_aft {id : Nat} {Q : Exit → Act → World → Prop} {l : List Oper} (hm : P.follows .mixedOrders = true) (hB : Region.lexB .any l.toArray = true)
    (h : wpQuiet P l.toArray (Aft W) (fun a' => ∀ w', Aft W w' → Q .normal a' w') l a) : (Code.region id l.toArray true).wp P Q a W :=
  wp_region_quiet (C := Aft W) hm hB (Only.refl _ _).drew h

theorem q_at (v : Value) (hg : Region.wanted o (yielded ops a.tmps) = true) (ho : ∀ w, Aft W w → (execOp a.eval o).run P w = .ok (.value v) w) (hk : wpQuiet P ops (Aft W) Q rest (a.put o.dst v)) : wpQuiet P ops (Aft W) Q (o :: rest) a :=
  wpQuiet_step fun K hK => by
    rw [if_pos hg]
    exact ⟨v, fun w hw => by unfold Oper.quietAt; rw [ho w hw]; exact ⟨rfl, rfl⟩, hK _ hk⟩

theorem q_pure (v : Value) (hg : Region.wanted o (yielded ops a.tmps) = true) (ho : ∀ w, (execOp a.eval o).run P w = .ok (.value v) w) (hk : wpQuiet P ops (Aft W) Q rest (a.put o.dst v)) : wpQuiet P ops (Aft W) Q (o :: rest) a :=
  q_at v hg (fun w _ => ho w) hk

theorem q_skip (hg : Region.wanted o (yielded ops a.tmps) = false) (hk : wpQuiet P ops (Aft W) Q rest (a.put o.dst undef)) : wpQuiet P ops (Aft W) Q (o :: rest) a :=
  wpQuiet_step fun K hK => by
    rw [if_neg (by rw [hg]; exact Bool.false_ne_true)]
    exact hK _ hk

theorem q_move (x : Operand) (hg : Region.wanted o (yielded ops a.tmps) = true) (h : o.op = .move x ∨ o.op = .assign x) (hk : wpQuiet P ops (Aft W) Q rest (a.put o.dst (a.eval x))) : wpQuiet P ops (Aft W) Q (o :: rest) a :=
  q_pure _ hg (fun w => by rcases h with h | h <;> simp [execOp, h]) hk

theorem q_call (f : FuncId) (args : Array Value) (v : Value) (hg : Region.wanted o (yielded ops a.tmps) = true) (ho : ∀ w, (execOp a.eval o).run P w = .ok (.enter f args) w) (hc : ∀ u, Hid (Calls P f args u (Ans v u)))
    (hk : wpQuiet P ops (Aft W) Q rest (a.put o.dst v)) : wpQuiet P ops (Aft W) Q (o :: rest) a :=
  wpQuiet_step fun K hK => by
    rw [if_pos hg]
    exact ⟨v, fun w hw => by unfold Oper.quietAt; rw [ho w]; exact ⟨rfl, (hc w).out.mono fun e w' ⟨he, h⟩ => ⟨he, Only.trans hw h⟩⟩, hK _ hk⟩

theorem q_same (f : FuncId) (args : Array Value) (v : Value) (hg : Region.wanted o (yielded ops a.tmps) = true) (ho : ∀ w, (execOp a.eval o).run P w = .ok (.enter f args) w) (hc : ∀ u, Hid (Calls P f args u (Same v u)))
    (hk : wpQuiet P ops (Aft W) Q rest (a.put o.dst v)) : wpQuiet P ops (Aft W) Q (o :: rest) a :=
  q_call f args v hg ho (fun u => Lib.hid ((hc u).out.mono fun _ _ ⟨he, h⟩ => ⟨he, h ▸ Only.refl _ _⟩)) hk

theorem q_load (ty : TypeId) (x : Operand) (g : Nat) (t : TypeId) (cs : Array Value) (d : TypeDesc) (hg : Region.wanted o (yielded ops a.tmps) = true) (ho : o.op = .load ty x) (hx : a.eval x = .pointer (some ⟨g, 0, none⟩)) (hB : Blk W g t cs)
    (hu : P.underlying ty = some d) (hd : (match d with | .struct _ | .array _ _ => true | _ => false) = true) (hi : (P.info? ty).map (·.size) = some cs.size)
    (hk : wpQuiet P ops (Aft W) Q rest (a.put o.dst (.agg cs))) : wpQuiet P ops (Aft W) Q (o :: rest) a :=
  q_at _ hg (fun w hw => by
    have hB' : Blk w g t cs := hB.only hw (fun h => h)
    unfold execOp
    simp only [ho, hx, Instr.loadAt, Instr.sureAddr, Sem.run_bind, Sem.run_pure, Result.andThen_ok, run_loadVar_row w g t ty cs _ d hB' hu hd hi]) hk
end

end Go.Proofs.YtbhihbhjmmeibaaGreat

/-
  A region that draws its order: operations that make memory or only read, in any order, and behind them a tail in order.
-/
namespace Go.Proofs.YtbhihbhjmmeibaaGreat
open Go.RowKit

def dstOf (ops : Array Oper) (i : Nat) : Tmp := ((ops[i]?).bind (·.dst)).getD 0

/-- The first n operations have no guard, each a slot of its own, and wait only for earlier ones. -/
def headB (ops : Array Oper) (n : Nat) : Bool :=
  (List.range n).all fun i => match ops[i]? with
    | some o => o.guard.isNone && o.dst.isSome && (o.after.all fun e => !Region.binds .any e || decide (e.on < i)) && (List.range n).all fun j => decide (i = j) || !decide (dstOf ops i = dstOf ops j)
    | none => false

section
variable {P : Program} {ops : Array Oper} {W : World} {n : Nat} {a0 : Act} {T : Nat → Value → World → Prop} {al : Nat → Bool}

structure HInv (ops : Array Oper) (n : Nat) (a0 : Act) (W : World) (T : Nat → Value → World → Prop) (al : Nat → Bool) (listed : Array Bool) (a : Act) (w : World) : Prop where
  aft : Aft W w
  defers : a.defers = a0.defers
  size : a.tmps.size = a0.tmps.size
  other : ∀ s, (∀ i, i < n → listed.getD i false = true → dstOf ops i ≠ s) → a.tmps.getD s undef = a0.tmps.getD s undef
  held : ∀ i, i < n → listed.getD i false = true → T i (a.tmps.getD (dstOf ops i) undef) w
  apart : ∀ i j, i < n → j < n → i ≠ j → listed.getD i false = true → listed.getD j false = true → al i = true → al j = true → a.tmps.getD (dstOf ops i) undef ≠ a.tmps.getD (dstOf ops j) undef

/-- What a head operation leaves. -/
def Left (T : Nat → Value → World → Prop) (al : Nat → Bool) (i : Nat) (o : Oper) (a : Act) (w : World) (a' : Act) (w' : World) : Prop :=
  ∃ v, a' = a.put o.dst v ∧ T i v w' ∧ Only NoneOf w w' ∧ (al i = true → ∃ b, v = .pointer (some ⟨b, 0, none⟩) ∧ w.heap.size ≤ b)

theorem headB_spec (h : headB ops n = true) {i : Nat} (hi : i < n) : ∃ o, ops[i]? = some o ∧ o.guard = none ∧ o.dst = some (dstOf ops i) ∧ (∀ e ∈ o.after, Region.binds .any e = true → e.on < i) ∧ ∀ j, j < n → i ≠ j → dstOf ops i ≠ dstOf ops j := by
  have h1 := List.all_eq_true.1 h i (List.mem_range.2 hi)
  cases ho : ops[i]? with
  | none => rw [ho] at h1; cases h1
  | some o =>
    rw [ho] at h1
    simp only [Bool.and_eq_true] at h1
    obtain ⟨⟨⟨h2, h3⟩, h4⟩, h5⟩ := h1
    refine ⟨o, rfl, by simpa using h2, ?_, fun e he hb => ?_, fun j hj hij => ?_⟩
    · obtain ⟨d, hd⟩ := Option.isSome_iff_exists.1 h3
      simp [dstOf, ho, hd]
    · have := Array.all_eq_true_iff_forall_mem.1 h4 e he
      rw [hb] at this
      simpa using this
    · have := List.all_eq_true.1 h5 j (List.mem_range.2 hj)
      simp only [Bool.or_eq_true, decide_eq_true_eq, Bool.not_eq_true', decide_eq_false_iff_not] at this
      exact this.resolve_left hij

theorem put_getD (a : Act) (d s : Tmp) (v : Value) (hd : d < a.tmps.size) : (a.put (some d) v).tmps.getD s undef = if d = s then v else a.tmps.getD s undef := by
  unfold Act.put
  simp only [Array.getD_eq_getD_getElem?, Array.getElem?_setIfInBounds]
  split
  · rename_i h
    subst h
    simp
  · rfl
theorem put_size (a : Act) (d : Option Tmp) (v : Value) : (a.put d v).tmps.size = a.tmps.size := by
  unfold Act.put; split <;> simp
theorem put_defers (a : Act) (d : Option Tmp) (v : Value) : (a.put d v).defers = a.defers := by
  unfold Act.put; split <;> rfl

theorem HInv.put {listed : Array Bool} {a : Act} {w : World} (inv : HInv ops n a0 W T al listed a w) (hb : headB ops n = true) (hd : ∀ i, i < n → dstOf ops i < a0.tmps.size)
    (hT : ∀ i v w w', T i v w → Only NoneOf w w' → T i v w') (hal : ∀ i v w, al i = true → T i v w → ∃ b, v = .pointer (some ⟨b, 0, none⟩) ∧ b < w.heap.size)
    {i : Nat} (hi : i < n) {o : Oper} (ho : ops[i]? = some o) (hun : listed.getD i true = false) {a' : Act} {w' : World} (h : Left T al i o a w a' w') : HInv ops n a0 W T al (listed.setIfInBounds i true) a' w' := by
  obtain ⟨v, rfl, hv, ho', hf⟩ := h
  obtain ⟨o', h1, _, h3, _, h5⟩ := headB_spec hb hi
  obtain rfl : o' = o := Option.some.inj (h1.symm.trans ho)
  have hg := fun s => put_getD a (dstOf ops i) s v (by rw [inv.size]; exact hd i hi)
  rw [h3]
  have hother : ∀ j, j ≠ i → (listed.setIfInBounds i true).getD j false = true → listed.getD j false = true := fun j hj hl => by rwa [getD_set_ne false (Ne.symm hj)] at hl
  have hself : (listed.setIfInBounds i true).getD i false = true := by
    have : i < listed.size := by
      rcases Nat.lt_or_ge i listed.size with h' | h'
      · exact h'
      · simp [Array.getElem?_eq_none h'] at hun
    simp [this]
  refine ⟨Only.trans inv.aft ho', (put_defers _ _ _).trans inv.defers, (put_size _ _ _).trans inv.size, fun s hs => ?_, fun j hj hl => ?_, fun j k hj hk hjk hlj hlk haj hak => ?_⟩
  · rw [hg, if_neg (hs i hi hself)]
    exact inv.other s fun j hj hl => hs j hj (getD_set_true hl)
  · by_cases hji : j = i
    · subst hji
      rw [hg, if_pos rfl]
      exact hv
    · rw [hg, if_neg (h5 j hj (Ne.symm hji))]
      exact hT _ _ _ _ (inv.held j hj (hother j hji hl)) ho'
  · by_cases hji : j = i
    · subst hji
      rw [hg, hg, if_pos rfl, if_neg (h5 k hk hjk)]
      obtain ⟨b, rfl, hb'⟩ := hf haj
      obtain ⟨c, hc, hlt⟩ := hal k _ _ hak (inv.held k hk (hother k (Ne.symm hjk) hlk))
      rw [hc]
      intro he
      injection he with he
      injection he with he
      injection he with he
      omega
    · by_cases hki : k = i
      · subst hki
        rw [hg, hg, if_pos rfl, if_neg (h5 j hj (Ne.symm hji))]
        obtain ⟨b, rfl, hb'⟩ := hf hak
        obtain ⟨c, hc, hlt⟩ := hal j _ _ haj (inv.held j hj (hother j hji hlj))
        rw [hc]
        intro he
        injection he with he
        injection he with he
        injection he with he
        omega
      · rw [hg, hg, if_neg (h5 j hj (Ne.symm hji)), if_neg (h5 k hk (Ne.symm hki))]
        exact inv.apart j k hj hk hjk (hother j hji hlj) (hother k hki hlk) haj hak

/-- the frame at the head's end -/
def endFrame (ops : Array Oper) (n : Nat) (a0 : Act) (V : Nat → Value) : Act := (List.range n).foldl (fun a i => a.put (some (dstOf ops i)) (V i)) a0

theorem foldl_put (F : Tmp → Value) (d : Nat → Tmp) : ∀ (l : List Nat) (a : Act), (∀ i ∈ l, d i < a.tmps.size) →
    (l.foldl (fun a i => a.put (some (d i)) (F (d i))) a).defers = a.defers ∧ (l.foldl (fun a i => a.put (some (d i)) (F (d i))) a).tmps.size = a.tmps.size ∧
    ∀ s, (l.foldl (fun a i => a.put (some (d i)) (F (d i))) a).tmps.getD s undef = if ∃ i ∈ l, d i = s then F s else a.tmps.getD s undef
  | [], a, _ => ⟨rfl, rfl, fun s => by simp⟩
  | i :: l, a, h => by
    obtain ⟨h1, h2, h3⟩ := foldl_put F d l (a.put (some (d i)) (F (d i))) (fun j hj => by rw [put_size]; exact h j (by simp [hj]))
    refine ⟨h1.trans (put_defers _ _ _), h2.trans (put_size _ _ _), fun s => ?_⟩
    rw [List.foldl_cons, h3 s, put_getD _ _ _ _ (h i (by simp))]
    by_cases hs : ∃ j ∈ l, d j = s
    · rw [if_pos hs, if_pos (by obtain ⟨j, hj, e⟩ := hs; exact ⟨j, by simp [hj], e⟩)]
    · rw [if_neg hs]
      by_cases hi : d i = s
      · rw [if_pos hi, if_pos ⟨i, by simp, hi⟩, hi]
      · rw [if_neg hi, if_neg (by
          rintro ⟨j, hj, e⟩
          rcases List.mem_cons.1 hj with rfl | hj
          · exact hi e
          · exact hs ⟨j, hj, e⟩)]

theorem act_ext {a b : Act} (hd : a.defers = b.defers) (hs : a.tmps.size = b.tmps.size) (h : ∀ s, a.tmps.getD s undef = b.tmps.getD s undef) : a = b := by
  obtain ⟨t, d⟩ := a
  obtain ⟨t', d'⟩ := b
  simp only at hd hs h
  subst hd
  congr 1
  refine Array.ext hs fun i h1 h2 => ?_
  have := h i
  simpa [h1, h2] using this

theorem HInv.end {listed : Array Bool} {a : Act} {w : World} (inv : HInv ops n a0 W T al listed a w) (hd : ∀ i, i < n → dstOf ops i < a0.tmps.size) :
    a = endFrame ops n a0 (fun i => a.tmps.getD (dstOf ops i) undef) := by
  obtain ⟨h1, h2, h3⟩ := foldl_put (fun s => a.tmps.getD s undef) (dstOf ops) (List.range n) a0 (fun i hi => hd i (List.mem_range.1 hi))
  refine act_ext (inv.defers.trans h1.symm) (inv.size.trans h2.symm) fun s => ?_
  unfold endFrame
  rw [h3 s]
  split
  · rfl
  · rename_i hs
    exact inv.other s fun i hi _ he => hs ⟨i, List.mem_range.2 hi, he⟩

theorem countP_less (p q : Nat → Bool) (i : Nat) : ∀ l : List Nat, l.Nodup → i ∈ l → p i = true → q i = false → (∀ j, j ≠ i → q j = p j) → l.countP q + 1 = l.countP p
  | [], _, h, _, _, _ => by simp at h
  | j :: l, hn, h, hp, hq, hj => by
    obtain ⟨h1, h2⟩ := List.nodup_cons.1 hn
    by_cases e : j = i
    · subst e
      have hc : l.countP q = l.countP p := List.countP_congr fun k hk => by rw [hj k (fun e => h1 (e ▸ hk))]
      rw [List.countP_cons, List.countP_cons, hp, hq, hc]
      simp
    · have hm : i ∈ l := (List.mem_cons.1 h).resolve_left fun e' => e e'.symm
      rw [List.countP_cons, List.countP_cons, hj j e, ← countP_less p q i l h2 hm hp hq hj]
      omega

def regionB (ops : Array Oper) (n m : Nat) : Bool :=
  decide (n < ops.size) && Region.sinkB .any ops n && Region.chainB .any ops n && headB ops n && ((List.range n).all fun i => decide (dstOf ops i < m)) &&
    Region.seqB .any ops (ops.size - n) n (Array.ofFn fun i : Fin ops.size => decide (i.1 < n))

theorem head_any {Q : Exit → Act → World → Prop} {l : List Oper} {a0 : Act} {W : World} (n m : Nat) (T : Nat → Value → World → Prop) (al : Nat → Bool) (hsz : a0.tmps.size = m) (hB : regionB l.toArray n m = true)
    (hT : ∀ i v w w', T i v w → Only NoneOf w w' → T i v w') (hal : ∀ i v w, al i = true → T i v w → ∃ b, v = .pointer (some ⟨b, 0, none⟩) ∧ b < w.heap.size)
    (hstep : ∀ i o, i < n → l[i]? = some o → ∀ a w, Aft W w → (∀ s, (∀ j, j < n → dstOf l.toArray j ≠ s) → a.tmps.getD s undef = a0.tmps.getD s undef) →
      (∀ j, j < n → Region.waitsFor .any l.toArray i j = true → T j (a.tmps.getD (dstOf l.toArray j) undef) w) → o.wp P a w (Left T al i o a w) Q)
    (hend : ∀ (V : Nat → Value) w, Aft W w → (∀ i, i < n → T i (V i) w) → (∀ i j, i < n → j < n → i ≠ j → al i = true → al j = true → V i ≠ V j) → wpList P l.toArray Q (l.drop n) (endFrame l.toArray n a0 V) w) :
    wpAny P .any l.toArray Q l.toArray.size (Array.replicate l.toArray.size false) a0 { W with drawn := W.drawn + 1 } := by
  simp only [regionB, Bool.and_eq_true, decide_eq_true_eq] at hB
  obtain ⟨⟨⟨⟨⟨hn, hs⟩, hc⟩, hb⟩, hd'⟩, hseq⟩ := hB
  have hd : ∀ i, i < n → dstOf l.toArray i < a0.tmps.size := fun i hi => by
    have := List.all_eq_true.1 hd' i (List.mem_range.2 hi)
    rw [hsz]
    simpa using this
  have hdl : (l.drop n).length = l.toArray.size - n := by simp
  have key : ∀ (f : Nat) (listed : Array Bool) (a : Act) (w : World), (List.range n).countP (fun i => !listed.getD i false) = f → HeadInv .any l.toArray n listed → HInv l.toArray n a0 W T al listed a w →
      wpAny P .any l.toArray Q (f + (l.toArray.size - n)) listed a w := by
    intro f
    induction f with
    | zero =>
      intro listed a w hcount hinv inv
      have hl : ∀ i, i < n → listed.getD i false = true := fun i hi => by
        have := List.countP_eq_zero.1 hcount i (List.mem_range.2 hi)
        simpa using this
      have he : listed = Array.ofFn fun i : Fin l.toArray.size => decide (i.1 < n) := by
        refine Array.ext (by simp [hinv.size]) fun i h1 h2 => ?_
        rw [Array.getElem_ofFn]
        by_cases hi : i < n
        · have := hl i hi
          simpa [h1, hi] using this
        · have := hinv.tail i (by omega) (by rw [← hinv.size]; exact h1)
          simpa [h1, hi] using this
      have hend' := hend (fun i => a.tmps.getD (dstOf l.toArray i) undef) w inv.aft (fun i hi => inv.held i hi (hl i hi)) (fun i j hi hj hij ha hb => inv.apart i j hi hj hij (hl i hi) (hl j hj) ha hb)
      rw [← inv.end hd] at hend'
      have := wpAny_of_seq (md := .any) (Q' := Q) (l.drop n) n listed a w (fun j => by simp [List.getElem?_drop]) (by rw [hdl, he]; exact hseq) hend'
      rw [hdl] at this
      rw [Nat.zero_add]
      exact this
    | succ f ih =>
      intro listed a w hcount hinv inv
      rw [show f + 1 + (l.toArray.size - n) = (f + (l.toArray.size - n)) + 1 by omega]
      -- one that has not come up
      obtain ⟨i0, hi0, hu0⟩ : ∃ i, i < n ∧ listed.getD i false = false := by
        have : 0 < (List.range n).countP (fun i => !listed.getD i false) := by omega
        obtain ⟨i, hi, hu⟩ := List.countP_pos_iff.1 this
        exact ⟨i, List.mem_range.1 hi, by simpa using hu⟩
      have hus : ∀ i, i < n → listed.getD i false = false → listed.getD i true = false := fun i hi hu => getD_in (by rw [hinv.size]; omega) hu
      have htail := tail_waits hs hc hn hinv _ i0 rfl hi0 (hus i0 hi0 hu0)
      refine ⟨fun hr => ?_, fun i hi => ?_⟩
      · exfalso
        -- the least is ready
        have : ∀ k i, i < k → i < n → listed.getD i false = false → ∃ j, j ∈ Region.ready .any l.toArray listed := by
          intro k
          induction k with
          | zero => intro i hi; omega
          | succ k ihk =>
            intro i hik hi hu
            by_cases hlow : ∃ j, j < i ∧ listed.getD j false = false
            · obtain ⟨j, hj, huj⟩ := hlow
              exact ihk j (by omega) (by omega) huj
            · obtain ⟨o, ho, _, _, hback, _⟩ := headB_spec hb hi
              refine ⟨i, mem_ready.2 ⟨hus i hi hu, o, ho, fun e he hbe => ?_⟩⟩
              have hlt := hback e he hbe
              cases hle : listed.getD e.on false with
              | true => rfl
              | false => exact absurd ⟨e.on, hlt, hle⟩ hlow
        obtain ⟨j, hj⟩ := this (i0 + 1) i0 (by omega) hi0 hu0
        rw [hr] at hj
        cases hj
      · have hin : i < n := by
          rcases Nat.lt_or_ge i n with h | h
          · exact h
          · exact absurd hi (htail i h)
        obtain ⟨hun, o, ho, hall⟩ := mem_ready.1 hi
        obtain ⟨o', ho', hgd, _, _, _⟩ := headB_spec hb hin
        obtain rfl : o' = o := Option.some.inj (ho'.symm.trans ho)
        have hw := hstep i o' hin (by simpa using ho) a w inv.aft (fun s hs => inv.other s fun j hj _ => hs j hj) (fun j hj hwt => by
          obtain ⟨oj, hoj, e, he, hbe, hon⟩ := Region.waitsFor_spec hwt
          obtain rfl : oj = o' := Option.some.inj (hoj.symm.trans ho)
          have := hall e he hbe
          rw [hon] at this
          exact inv.held j hj this)
        have hwp : wpOp P l.toArray Q i (Left T al i o' a w) a w := by
          unfold wpOp
          simp only [ho]
          rw [if_pos (by unfold Region.wanted; rw [hgd])]
          exact .inl hw
        refine wpOp_mono (fun a' w' h' => ih _ a' w' ?_ (hinv.set hi hin) (inv.put hb hd hT hal hin ho hun h')) hwp
        have hself : (listed.setIfInBounds i true).getD i false = true := by
          have : i < listed.size := by rw [hinv.size]; omega
          simp [this]
        have := countP_less (fun i => !listed.getD i false) (fun j => !(listed.setIfInBounds i true).getD j false) i (List.range n) List.nodup_range (List.mem_range.2 hin) (by rw [getD_both hun]; rfl) (by rw [hself]; rfl) (fun j hj => by rw [getD_set_ne false (Ne.symm hj)])
        omega
  have h0 := key n (Array.replicate l.toArray.size false) a0 { W with drawn := W.drawn + 1 } (by
      rw [List.countP_eq_length.2 (fun i _ => by rw [getD_replicate_false]; rfl)]
      simp)
    ⟨by simp, fun j oj _ hl => (by rw [getD_replicate_false] at hl; cases hl), fun t _ ht => getD_in (by simpa using ht) (getD_replicate_false _ _)⟩
    ⟨(Only.refl _ _).drew, rfl, rfl, fun _ _ => rfl, fun i _ hl => (by rw [getD_replicate_false] at hl; cases hl), fun i j _ _ _ hl => (by rw [getD_replicate_false] at hl; cases hl)⟩
  rw [show n + (l.toArray.size - n) = l.toArray.size by omega] at h0
  exact h0

theorem wp_region_head {id : Nat} {Q : Exit → Act → World → Prop} {l : List Oper} {a0 : Act} {W : World} (n m : Nat) (T : Nat → Value → World → Prop) (al : Nat → Bool) (hsz : a0.tmps.size = m) (hm : P.follows .mixedOrders = true) (hB : regionB l.toArray n m = true)
    (hT : ∀ i v w w', T i v w → Only NoneOf w w' → T i v w') (hal : ∀ i v w, al i = true → T i v w → ∃ b, v = .pointer (some ⟨b, 0, none⟩) ∧ b < w.heap.size)
    (hstep : ∀ i o, i < n → l[i]? = some o → ∀ a w, Aft W w → (∀ s, (∀ j, j < n → dstOf l.toArray j ≠ s) → a.tmps.getD s undef = a0.tmps.getD s undef) →
      (∀ j, j < n → Region.waitsFor .any l.toArray i j = true → T j (a.tmps.getD (dstOf l.toArray j) undef) w) → o.wp P a w (Left T al i o a w) Q)
    (hend : ∀ (V : Nat → Value) w, Aft W w → (∀ i, i < n → T i (V i) w) → (∀ i j, i < n → j < n → i ≠ j → al i = true → al j = true → V i ≠ V j) → wpList P l.toArray Q (l.drop n) (endFrame l.toArray n a0 V) w) :
    (Code.region id l.toArray true).wp P Q a0 W :=
  wp_region_any hm (head_any n m T al hsz hB hT hal hstep hend)
end

section
variable {P : Program} {T : Nat → Value → World → Prop} {al : Nat → Bool} {i : Nat} {o : Oper} {a : Act} {w : World} {Q : Exit → Act → World → Prop}

theorem left_value (v : Value) (ho : (execOp a.eval o).run P w = .ok (.value v) w) (hal : al i = false) (hv : T i v w) : o.wp P a w (Left T al i o a w) Q := by
  unfold Oper.wp
  rw [ho]
  exact ⟨v, rfl, hv, Only.refl _ _, fun h => by rw [hal] at h; cases h⟩

theorem left_load (ty : TypeId) (x : Operand) (g : Nat) (t : TypeId) (cs : Array Value) (d : TypeDesc) (ho : o.op = .load ty x) (hx : a.eval x = .pointer (some ⟨g, 0, none⟩)) (hB : Blk w g t cs)
    (hu : P.underlying ty = some d) (hd : (match d with | .struct _ | .array _ _ => true | _ => false) = true) (hi : (P.info? ty).map (·.size) = some cs.size) (hal : al i = false) (hv : T i (.agg cs) w) : o.wp P a w (Left T al i o a w) Q :=
  left_value _ (by
    unfold execOp
    simp only [ho, hx, Instr.loadAt, Instr.sureAddr, Sem.run_bind, Sem.run_pure, Result.andThen_ok, run_loadVar_row w g t ty cs _ d hB hu hd hi]) hal hv

theorem left_call (f : FuncId) (args : Array Value) (v : Value) (ho : (execOp a.eval o).run P w = .ok (.enter f args) w) (hc : ∀ u, Hid (Calls P f args u (Ans v u))) (hal : al i = false) (hv : ∀ w', T i v w') : o.wp P a w (Left T al i o a w) Q := by
  unfold Oper.wp
  rw [ho]
  exact (hc w).out.mono fun e w' ⟨he, hw⟩ => by
    subst he
    exact ⟨v, rfl, hv w', hw, fun h => by rw [hal] at h; cases h⟩

theorem left_alloc (cs : Array Value) (t : TypeId) (ho : (execOp a.eval o).run P w = .ok (.value (.pointer (some ⟨w.heap.size, 0, none⟩))) (w.alloc (.cells cs t))) (hv : T i (.pointer (some ⟨w.heap.size, 0, none⟩)) (w.alloc (.cells cs t))) : o.wp P a w (Left T al i o a w) Q := by
  unfold Oper.wp
  rw [ho]
  exact ⟨_, rfl, hv, (Only.refl _ _).alloc _, fun _ => ⟨_, rfl, Nat.le_refl _⟩⟩
end

end Go.Proofs.YtbhihbhjmmeibaaGreat

/-
  Layer 14: Apply.
-/
namespace Go.Proofs.YtbhihbhjmmeibaaGreat
open Go.RowKit
open Cb (ChIs Foot)

theorem info27 : (Tryz.prog.info? 47).map (·.size) = some 4 := by kernel_rfl
/-- Apply's answer -/
def applyC (key : ByteArray) (n : Nat) (st : Int) (dead : Bool) (xs : List Ver) : Int :=
  if mayI key.size n st dead ≠ 0 then mayI key.size n st dead else match xs.getLast? with
    | none => 0
    | some x => if st ≤ x.st then 130 else 0

section
variable {P : Program} {Q : Exit → Act → World → Prop} {T : Nat → Value → World → Prop} {al : Nat → Bool} {i : Nat} {o : Oper} {a : Act} {w : World}
theorem left_calls (f : FuncId) (args : Array Value) (ho : (execOp a.eval o).run P w = .ok (.enter f args) w) (hc : Calls P f args w fun e w' => ∃ v, e = .returned v ∧ T i v w' ∧ Only NoneOf w w') (hal : al i = false) : o.wp P a w (Left T al i o a w) Q := by
  unfold Oper.wp
  rw [ho]
  exact hc.mono fun e w' ⟨v, he, ht, hw⟩ => by
    subst he
    exact ⟨v, rfl, ht, hw, fun h => by rw [hal] at h; cases h⟩
end

/-- what region 10 has made -/
def ApT (p b3 : Nat) (st : Int) (A : Option Addr) (nn cc : Nat) (dead : Bool) (bs : List UInt8) (B : Nat) : Nat → Value → World → Prop
  | 0, v, _ => v = .pointer (some ⟨p, 0, none⟩)
  | 1, v, _ => v = .pointer (some ⟨b3, 1, none⟩)
  | 2, v, _ => v = .int .i64 st
  | 3, v, _ => v = .pointer (some ⟨b3, 2, none⟩)
  | 4, v, _ => v = .slice A nn cc
  | 5, v, w => ∃ A' c', v = .slice A' bs.length c' ∧ RowB w B v bs
  | 6, v, _ => v = .pointer (some ⟨b3, 3, none⟩)
  | 7, v, _ => v = .bool dead
  | 8, v, w => ∃ A' c', v = .agg #[.int .i64 st, .slice A' bs.length c', .bool dead] ∧ RowB w B (.slice A' bs.length c') bs
  | _, _, _ => True
theorem RowB.keep {w w' : World} {B : Nat} {v : Value} {l : List UInt8} (h : RowB w B v l) (ho : Only NoneOf w w') : RowB w' B v l := by
  refine ⟨h.1, ?_⟩
  rcases h.2 with h0 | ⟨g, cap, cur, hv, hb, hh, r⟩
  · exact .inl h0
  · exact .inr ⟨g, cap, cur, hv, hb, Blk.only (t := 5) (cs := cur) hh ho (fun h => h), r⟩
theorem RowB.base {w : World} {B B' : Nat} {v : Value} {l : List UInt8} (h : RowB w B v l) (hB : B' ≤ B) : RowB w B' v l := by
  refine ⟨h.1, ?_⟩
  rcases h.2 with h0 | ⟨g, cap, cur, hv, hb, r⟩
  · exact .inl h0
  · exact .inr ⟨g, cap, cur, hv, Nat.le_trans hB hb, r⟩
theorem ApT_keep (p b3 : Nat) (st : Int) (A : Option Addr) (nn cc : Nat) (dead : Bool) (bs : List UInt8) (B : Nat) (i : Nat) (v : Value) (w w' : World) (h : ApT p b3 st A nn cc dead bs B i v w) (ho : Only NoneOf w w') : ApT p b3 st A nn cc dead bs B i v w' :=
  match i, h with
  | 0, h | 1, h | 2, h | 3, h | 4, h | 6, h | 7, h => h
  | 5, ⟨A', c', h1, h2⟩ => ⟨A', c', h1, h2.keep ho⟩
  | 8, ⟨A', c', h1, h2⟩ => ⟨A', c', h1, h2.keep ho⟩
  | _ + 9, _ => trivial

theorem BytesAt.only {w w' : World} {S : Nat → Prop} {A : Option Addr} {bs : List UInt8} (h : BytesAt w A bs) (ho : Only S w w') (hS : ∀ g off, A = some ⟨g, off, none⟩ → g < w.heap.size → ¬ S g) : BytesAt w' A bs := fun i c hc => by
  obtain ⟨g, off, hA, hg, h1⟩ := h i c hc
  exact ⟨g, off, hA, Nat.lt_of_lt_of_le hg ho.size, (ho.cell (p := ⟨g, off + i, none⟩) hg (hS g off hA hg)).trans h1⟩
theorem RowB.place {w : World} {B n c : Nat} {A : Option Addr} {bs : List UInt8} (h : RowB w B (.slice A n c) bs) : BytesAt w A bs ∧ ∀ g off, A = some ⟨g, off, none⟩ → B ≤ g ∧ g < w.heap.size := by
  refine ⟨?_, fun g off hA => ?_⟩
  · obtain ⟨A', cap, hv, hb⟩ := h.at
    simp only [Value.slice.injEq] at hv
    rw [hv.1]
    exact hb
  · rcases h.2 with ⟨hv, _⟩ | ⟨g', cap, cur, hv, hb, hh, _⟩
    · simp only [Value.slice.injEq] at hv
      rw [hv.1] at hA
      cases hA
    · simp only [Value.slice.injEq] at hv
      rw [hv.1] at hA
      simp only [Option.some.injEq, Addr.mk.injEq] at hA
      obtain ⟨rfl, _⟩ := hA
      exact ⟨hb, Blk.lt (t := 5) (cs := cur) hh⟩

theorem Sto.setLive {w : World} {s m n : Nat} {D : MD} {C : ByteArray → Option Ch} {live : Int} {V : ByteArray → List Ver} {U : Nat → Prop} (h : Sto w s m n D C live V U) (l' : Int) : Sto (w.setCell ⟨s, 1, none⟩ (.int .i64 l')) s m n D C l' V U := by
  have ho : Only (· = s) w (w.setCell ⟨s, 1, none⟩ (.int .i64 l')) := (Only.refl (fun x => x = s) w).put (p := ⟨s, 1, none⟩) (.inl rfl) _
  exact ⟨⟨h.is.blk.put 1 (.int .i64 l'), map_only h.is.map ho (fun e => h.is.sm e.symm), h.is.keys, fun key c hc => (h.is.chains key c hc).only ho (fun k hk e => (h.is.far key c hc k hk).1 e), h.is.apart, h.is.far, h.is.sm⟩,
    h.len, fun key c hc i l x hl hx => (h.ver key c hc i l x hl hx).turn ho (fun g _ hn e => hn (.inl (.inl e))) (fun _ _ h => h), h.nov, h.has⟩

/-- values that stand, whatever the world -/
def ConstT (f : Nat → Value) (i : Nat) (v : Value) (_ : World) : Prop := v = f i

def ApplyPost (s m n : Nat) (C : ByteArray → Option Ch) (live : Int) (V : ByteArray → List Ver) (U : Nat → Prop) (key : ByteArray) (x : Ver) (w : World) (e : Ending) (w' : World) : Prop :=
  e = .returned (.int .i64 0) ∧ ∃ D' C', Sto w' s m (n + 1) D' C' (live + (wgt key (V key ++ [x]) - wgt key (V key))) (upd V key (V key ++ [x])) U ∧ Only (Ter s m C) w w' ∧ ∀ k, Ter s m C' k → Ter s m C k ∨ w.heap.size ≤ k

set_option maxRecDepth 100000 in
set_option maxHeartbeats 1000000 in
theorem apply_bad (w : World) (s : Nat) (key : ByteArray) (st : Int) (A : Option Addr) (nn cc : Nat) (dead : Bool) (hbad : mayI key.size nn st dead ≠ 0) :
    Calls Tryz.prog 34 #[.pointer (some ⟨s, 0, none⟩), .agg (verC key st (.slice A nn cc) dead)] w fun e w' => e = .returned (.int .i64 (mayI key.size nn st dead)) ∧ Only NoneOf w w' := by
  have HM := fun u => Lib.hid (may_is key st A nn cc dead u)
  have B3 := Blk.new w 47 (verC key st (.slice A nn cc) dead)
  have HO := Lib.hid ((Only.refl NoneOf w).alloc (.cells (verC key st (.slice A nn cc) dead) 47))
  generalize mayI key.size nn st dead = mi at *
  go_enter Tryz.func34, Tryz.ntmps34
  go_wp2_with (refine wpList_load_row rfl 47 (.tmp 3) rfl w.heap.size rfl 47 _ (0, 0) _ B3 Tryz.underlying47 rfl info27 ?_)
  refine (HM _).out.mono ?_; rintro e w1 ⟨rfl, ho1⟩
  have HO1 := Lib.hid (HO.out.trans ho1)
  clear ho1
  go_wp2_with fail
  go_ret
  exact ⟨rfl, HO1.out⟩

set_option maxRecDepth 100000 in
set_option maxHeartbeats 4000000 in
theorem apply_ok (w : World) (s m n : Nat) (D : MD) (C : ByteArray → Option Ch) (live : Int) (V : ByteArray → List Ver) {U : Nat → Prop} (hU : ∀ k, U k → k < w.heap.size) (key : ByteArray) (st : Int) (A : Option Addr) (nn cc : Nat) (dead : Bool) (bs : List UInt8)
    (hnn : bs.length = nn) (hby : BytesAt w A bs) (hmay : mayI key.size nn st dead = 0) (h : Sto w s m n D C live V U) (hV : ∀ x ∈ V key, x.bs.length ≤ 4096) (hnew : ∀ x ∈ V key, x.st < st) (hfew : (V key).length < 3518437208800) (hn : n < 9223372036854775000)
    (hlive : -4611686018427387904 ≤ live ∧ live ≤ 4611686018427387904) (hkey : key.size ≤ 255) (hbl : nn ≤ 4096) (hst : 0 ≤ st) :
    Calls Tryz.prog 34 #[.pointer (some ⟨s, 0, none⟩), .agg (verC key st (.slice A nn cc) dead)] w (ApplyPost s m n C live V U key ⟨st, bs, dead⟩ w) := by
  have HM := fun u => Lib.hid (may_is key st A nn cc dead u)
  have HUU := Lib.hid hU
  have HMAY := Lib.hid hmay
  have B3 := Blk.new w 47 (verC key st (.slice A nn cc) dead)
  have HO := Lib.hid ((Only.refl NoneOf w).alloc (.cells (verC key st (.slice A nn cc) dead) 47))
  have hkl : key.size ≤ maxLen := by unfold maxLen; omega
  have HS := Lib.hid h
  have HBY := Lib.hid hby
  have hb3 := B3.lt
  clear hmay
  go_enter Tryz.func34, Tryz.ntmps34
  go_wp2_with (refine wpList_load_row rfl 47 (.tmp 3) rfl w.heap.size rfl 47 _ (0, 0) _ B3 Tryz.underlying47 rfl info27 ?_)
  refine (HM _).out.mono ?_; rintro e w1 ⟨rfl, ho1⟩
  rw [HMAY.out]
  have HO1 := Lib.hid (HO.out.trans ho1)
  have E3 := B3.only ho1 (fun h => h)
  have k0 := E3.cellv 0 rfl
  clear ho1 B3 HM HMAY HO
  go_wp2_with fail
  refine (of_is w1 s m n D C live key hkl (HS.out.keep HO1.out).is).mono ?_; rintro e w1 ⟨rfl, rfl⟩
  have hbs : bs.length ≤ 35184372088832 := by omega
  have hw1 := E3.lt
  cases hc : C key
  case' none =>
    have hOp := (Only.refl NoneOf w1).alloc (.cells #[.slice none 0 0] 135)
    obtain ⟨vv, hvv⟩ : ∃ vv, vv = (Value.slice none 0 0) := ⟨_, rfl⟩
    obtain ⟨ls, hls⟩ : ∃ ls : List Lk, ls = [] := ⟨_, rfl⟩
    have hch : ChIs (w1.alloc (.cells #[.slice none 0 0] 135)) w1.heap.size vv ls := by
      rw [hvv, hls]
      exact ⟨Blk.new w1 135 _, ⟨rfl, .inl ⟨rfl, rfl⟩⟩, fun _ h => (by cases h), ⟨fun _ h => (by cases h), List.Pairwise.nil⟩, Nat.zero_le _⟩
    have HVV := Lib.hid hvv
    have HLS := Lib.hid (show linksOf (C key) = ls by rw [hc, hls]; rfl)
    have HFT := Lib.hid (show ∀ k, Foot w1.heap.size vv k → (∃ c, C key = some c ∧ Foot c.1 c.2.1 k) ∨ w.heap.size < k from fun k hk => by
      rw [hvv] at hk
      rcases hk with rfl | hk
      · exact .inr (by omega)
      · simp [Value.ownBlock] at hk)
    have HCH := Lib.hid hch
    have HOP := Lib.hid (HO1.out.trans hOp)
    have E3' := E3.only hOp (fun h => h)
    have HMU := Lib.hid (show ∀ a ∈ ls, a.stamp < st by rw [hls]; simp)
    have HLF := Lib.hid (show ls.length < 3518437208800 by rw [hls]; decide)
    clear hch hvv hls hOp hc E3
    simp only [chPtr]
    go_wp2_with fail
    refine (weight_is _ s m n D C live V key hkey (HS.out.keep HOP.out) hV).mono ?_; rintro e W ⟨rfl, ho2⟩
    have hCH := HCH.out.keep ho2
    have E3 := E3'.only ho2 (fun h => h)
    have HW := Lib.hid (HOP.out.trans ho2)
    have hpW := hCH.lt
    clear ho2 HCH HOP E3' HO1 k0
    generalize w1.heap.size = p at *
  case' some c =>
    obtain ⟨p, vv, ls⟩ := c
    have hch := (HS.out.keep HO1.out).is.chains key _ hc
    have hfar := fun k hk => HS.out.is.far key _ hc k hk
    have HLS := Lib.hid (show linksOf (C key) = ls by rw [hc]; rfl)
    have HFT := Lib.hid (show ∀ k, Foot p vv k → (∃ c, C key = some c ∧ Foot c.1 c.2.1 k) ∨ w.heap.size < k from fun k hk => .inl ⟨_, hc, hk⟩)
    have HCH := Lib.hid hch
    have HMU := Lib.hid (show ∀ a ∈ ls, a.stamp < st from fun a ha => by
      obtain ⟨i, hi, rfl⟩ := List.getElem_of_mem ha
      have hl := HS.out.len key _ hc
      have hiV : i < (V key).length := by rw [← hl]; exact hi
      have := (HS.out.ver key _ hc i ls[i] (V key)[i] (List.getElem?_eq_getElem hi) (List.getElem?_eq_getElem hiV)).1
      rw [this]
      exact hnew _ (List.getElem_mem hiV))
    have HLF := Lib.hid (show ls.length < 3518437208800 by have := HS.out.len key _ hc; simp only at this; omega)
    have HVV := Lib.hid (show True from trivial)
    clear hch hfar hc
    simp only [chPtr]
    go_wp2_with fail
    refine (weight_is _ s m n D C live V key hkey (HS.out.keep HO1.out) hV).mono ?_; rintro e W ⟨rfl, ho2⟩
    have hCH := HCH.out.keep ho2
    have E3' := E3.only ho2 (fun h => h)
    have HW := Lib.hid (HO1.out.trans ho2)
    have hpW := hCH.lt
    clear ho2 HCH HO1 k0 E3
    have E3 := E3'
    clear E3'
  all_goals
    have HE3 := Lib.hid E3
    have HCHW := Lib.hid hCH
    go_upto_region 10 with (fail)
    refine wp_region_head 9 70 (ApT p w.heap.size st A nn cc dead bs W.heap.size) (fun _ => false) rfl (by kernel_rfl) (by kernel_rfl) (ApT_keep _ _ _ _ _ _ _ _ _) (fun _ _ _ h => by cases h) ?_ ?_
    · intro i o hi ho a u hu hs ht
      have e3 : a.tmps.getD 3 undef = .pointer (some ⟨w.heap.size, 0, none⟩) := hs 3 (of_decide_eq_true (by kernel_rfl))
      have e6 : a.tmps.getD 6 undef = .pointer (some ⟨p, 0, none⟩) := hs 6 (of_decide_eq_true (by kernel_rfl))
      have F3 := HE3.out.only hu (fun h => h)
      have c1 := F3.cellv 1 rfl
      have c2 := F3.cellv 2 rfl
      have c3 := F3.cellv 3 rfl
      have : i = 0 ∨ i = 1 ∨ i = 2 ∨ i = 3 ∨ i = 4 ∨ i = 5 ∨ i = 6 ∨ i = 7 ∨ i = 8 := by omega
      rcases this with rfl | rfl | rfl | rfl | rfl | rfl | rfl | rfl | rfl
      · obtain rfl := Option.some.inj (ho : some _ = some o)
        exact left_value (.pointer (some ⟨p, 0, none⟩)) (by simp [go_sem, e6]) rfl rfl
      · obtain rfl := Option.some.inj (ho : some _ = some o)
        exact left_value (.pointer (some ⟨w.heap.size, 1, none⟩)) (by simp [go_sem, e3]) rfl rfl
      · obtain rfl := Option.some.inj (ho : some _ = some o)
        have s0 : a.tmps.getD 29 undef = .pointer (some ⟨w.heap.size, 1, none⟩) := ht 1 (by omega) (by kernel_rfl)
        exact left_value (.int .i64 st) (by simp [go_sem, s0, c1]) rfl rfl
      · obtain rfl := Option.some.inj (ho : some _ = some o)
        exact left_value (.pointer (some ⟨w.heap.size, 2, none⟩)) (by simp [go_sem, e3]) rfl rfl
      · obtain rfl := Option.some.inj (ho : some _ = some o)
        have s0 : a.tmps.getD 31 undef = .pointer (some ⟨w.heap.size, 2, none⟩) := ht 3 (by omega) (by kernel_rfl)
        exact left_value (.slice A nn cc) (by simp [go_sem, s0, c2]) rfl rfl
      · obtain rfl := Option.some.inj (ho : some _ = some o)
        have s0 : a.tmps.getD 32 undef = .slice A nn cc := ht 4 (by omega) (by kernel_rfl)
        refine left_calls 62 #[.slice A nn cc] (by simp [go_sem, s0]) ((own_is A nn cc bs u hnn (HBY.out.keep (HW.out.trans hu)) (by omega)).mono ?_) rfl
        rintro e u' ⟨v, rfl, hr, ho'⟩
        obtain ⟨A', c', rfl, _⟩ := hr.at
        exact ⟨_, rfl, ⟨A', c', rfl, hr.base hu.size⟩, ho'⟩
      · obtain rfl := Option.some.inj (ho : some _ = some o)
        exact left_value (.pointer (some ⟨w.heap.size, 3, none⟩)) (by simp [go_sem, e3]) rfl rfl
      · obtain rfl := Option.some.inj (ho : some _ = some o)
        have s0 : a.tmps.getD 34 undef = .pointer (some ⟨w.heap.size, 3, none⟩) := ht 6 (by omega) (by kernel_rfl)
        exact left_value (.bool dead) (by simp [go_sem, s0, c3]) rfl rfl
      · obtain rfl := Option.some.inj (ho : some _ = some o)
        have s0 : a.tmps.getD 30 undef = .int .i64 st := ht 2 (by omega) (by kernel_rfl)
        obtain ⟨A', c', s1, hr⟩ : ∃ A' c', a.tmps.getD 33 undef = .slice A' bs.length c' ∧ RowB u W.heap.size (a.tmps.getD 33 undef) bs := ht 5 (by omega) (by kernel_rfl)
        have s2 : a.tmps.getD 35 undef = .bool dead := ht 7 (by omega) (by kernel_rfl)
        rw [s1] at hr
        have t0 : a.tmps[30]?.getD undef = .int .i64 st := by simpa using s0
        have t1 : a.tmps[33]?.getD undef = .slice A' bs.length c' := by simpa using s1
        have t2 : a.tmps[35]?.getD undef = .bool dead := by simpa using s2
        exact left_value (.agg #[.int .i64 st, .slice A' bs.length c', .bool dead]) (by simp [go_sem, t0, t1, t2]) rfl ⟨A', c', rfl, hr⟩
    · intro V' u hu hV' _
      have v0 : V' 0 = .pointer (some ⟨p, 0, none⟩) := hV' 0 (by omega)
      have v1 : V' 1 = .pointer (some ⟨w.heap.size, 1, none⟩) := hV' 1 (by omega)
      have v2 : V' 2 = .int .i64 st := hV' 2 (by omega)
      have v3 : V' 3 = .pointer (some ⟨w.heap.size, 2, none⟩) := hV' 3 (by omega)
      have v4 : V' 4 = .slice A nn cc := hV' 4 (by omega)
      obtain ⟨A5, c5, v5, _⟩ : ∃ A' c', V' 5 = .slice A' bs.length c' ∧ RowB u W.heap.size (V' 5) bs := hV' 5 (by omega)
      have v6 : V' 6 = .pointer (some ⟨w.heap.size, 3, none⟩) := hV' 6 (by omega)
      have v7 : V' 7 = .bool dead := hV' 7 (by omega)
      obtain ⟨A', c', v8, hr⟩ : ∃ A' c', V' 8 = .agg #[.int .i64 st, .slice A' bs.length c', .bool dead] ∧ RowB u W.heap.size (.slice A' bs.length c') bs := hV' 8 (by omega)
      change wpList _ _ _ _ (Act.put (Act.put (Act.put (Act.put (Act.put (Act.put (Act.put (Act.put (Act.put _ (some 28) (V' 0)) (some 29) (V' 1)) (some 30) (V' 2)) (some 31) (V' 3)) (some 32) (V' 4)) (some 33) (V' 5)) (some 34) (V' 6)) (some 35) (V' 7)) (some 36) (V' 8)) _
      rw [v0, v1, v2, v3, v4, v5, v6, v7, v8]
      simp only [Act.put, List.setIfInBounds_toArray, List.set_cons_zero, List.set_cons_succ]
      simp only [List.drop_succ_cons, List.drop_zero]
      have HC2 := Lib.hid (HCHW.out.keep hu)
      have HSu := Lib.hid (HS.out.keep (HW.out.trans hu))
      have hFs : ∀ k, Foot p vv k → k ≠ s ∧ k ≠ m ∧ k ≠ w.heap.size := fun k hk => by
        have h1 := HS.out.is.blk.lt
        have h2 := HS.out.is.map.lt
        rcases HFT.out k hk with ⟨c, hc, hf⟩ | hgt
        · have h3 := (HS.out.is.chains key c hc).foot_lt hf
          have h4 := HS.out.is.far key c hc k hf
          exact ⟨h4.1, h4.2, by omega⟩
        · exact ⟨by omega, by omega, by omega⟩
      have HFS := Lib.hid hFs
      have F3 := Lib.hid (HE3.out.only hu (fun h => h))
      have HRP := Lib.hid hr.place
      have HU := Lib.hid hu
      clear hFs hr hu hV' v0 v1 v2 v3 v4 v5 v6 v7 v8
      go_wp2_with fail
      refine (Cb.add_ok u p vv ls st (A', nn, c') dead HC2.out hst HMU.out HLF.out).mono ?_; rintro e w4 ⟨v', rfl, hA4, ho4, hft4⟩
      have hblk4 := HSu.out.is.blk.only ho4 (fun h => (HFS.out _ h).1 rfl)
      have hown4 := map_only HSu.out.is.map ho4 (fun h => (HFS.out _ h).2.1 rfl)
      have k4 := hblk4.cellv 0 rfl
      have G3 := F3.out.only ho4 (fun h => (HFS.out _ h).2.2 rfl)
      have k0 := G3.cellv 0 rfl
      have HA4 := Lib.hid hA4
      have HO4 := Lib.hid ho4
      have HFT4 := Lib.hid hft4
      have HG3 := Lib.hid G3
      have HB4 := Lib.hid hblk4
      clear hA4 ho4 hft4 G3 hblk4
      have hmn := fun u => (run_eql_map_nil (P := Tryz.prog) u 126 9 131 (some m) Tryz.underlying126)
      go_upto_region 15 with (fail)
      refine wp_region_head 7 70 (ConstT fun i => match i with | 0 => .pointer (some ⟨s, 0, none⟩) | 1 => .pointer (some ⟨s, 0, none⟩) | 2 => .pointer (some ⟨s, 0, none⟩) | 3 => .map (some m) | 4 => .pointer (some ⟨w.heap.size, 0, none⟩) | 5 => .string key | _ => .pointer (some ⟨p, 0, none⟩)) (fun _ => false) rfl (by kernel_rfl) (by kernel_rfl) (fun _ _ _ _ h _ => h) (fun _ _ _ h => by cases h) ?_ ?_
      · intro i o hi ho a u' hu hs ht
        have e0 : a.tmps.getD 0 undef = .pointer (some ⟨s, 0, none⟩) := hs 0 (of_decide_eq_true (by kernel_rfl))
        have e3 : a.tmps.getD 3 undef = .pointer (some ⟨w.heap.size, 0, none⟩) := hs 3 (of_decide_eq_true (by kernel_rfl))
        have e6 : a.tmps.getD 6 undef = .pointer (some ⟨p, 0, none⟩) := hs 6 (of_decide_eq_true (by kernel_rfl))
        have c0 := (HG3.out.only hu (fun h => h)).cellv 0 rfl
        have d0 := (HB4.out.only hu (fun h => h)).cellv 0 rfl
        have : i = 0 ∨ i = 1 ∨ i = 2 ∨ i = 3 ∨ i = 4 ∨ i = 5 ∨ i = 6 := by omega
        rcases this with rfl | rfl | rfl | rfl | rfl | rfl | rfl
        · obtain rfl := Option.some.inj (ho : some _ = some o)
          exact left_value (.pointer (some ⟨s, 0, none⟩)) (by simp [go_sem, e0]) rfl rfl
        · obtain rfl := Option.some.inj (ho : some _ = some o)
          have s0 : a.tmps.getD 50 undef = .pointer (some ⟨s, 0, none⟩) := ht 0 (by omega) (by kernel_rfl)
          exact left_value (.pointer (some ⟨s, 0, none⟩)) (by simp [go_sem, s0]) rfl rfl
        · obtain rfl := Option.some.inj (ho : some _ = some o)
          have s0 : a.tmps.getD 51 undef = .pointer (some ⟨s, 0, none⟩) := ht 1 (by omega) (by kernel_rfl)
          exact left_value (.pointer (some ⟨s, 0, none⟩)) (by simp [go_sem, s0]) rfl rfl
        · obtain rfl := Option.some.inj (ho : some _ = some o)
          have s0 : a.tmps.getD 52 undef = .pointer (some ⟨s, 0, none⟩) := ht 2 (by omega) (by kernel_rfl)
          exact left_value (.map (some m)) (by simp [go_sem, s0, d0]) rfl rfl
        · obtain rfl := Option.some.inj (ho : some _ = some o)
          exact left_value (.pointer (some ⟨w.heap.size, 0, none⟩)) (by simp [go_sem, e3]) rfl rfl
        · obtain rfl := Option.some.inj (ho : some _ = some o)
          have s0 : a.tmps.getD 54 undef = .pointer (some ⟨w.heap.size, 0, none⟩) := ht 4 (by omega) (by kernel_rfl)
          exact left_value (.string key) (by simp [go_sem, s0, c0]) rfl rfl
        · obtain rfl := Option.some.inj (ho : some _ = some o)
          exact left_value (.pointer (some ⟨p, 0, none⟩)) (by simp [go_sem, e6]) rfl rfl
      intro V2 u2 hu2 hV2 _
      have v0 : V2 0 = .pointer (some ⟨s, 0, none⟩) := hV2 0 (by omega)
      have v1 : V2 1 = .pointer (some ⟨s, 0, none⟩) := hV2 1 (by omega)
      have v2 : V2 2 = .pointer (some ⟨s, 0, none⟩) := hV2 2 (by omega)
      have v3 : V2 3 = .map (some m) := hV2 3 (by omega)
      have v4 : V2 4 = .pointer (some ⟨w.heap.size, 0, none⟩) := hV2 4 (by omega)
      have v5 : V2 5 = .string key := hV2 5 (by omega)
      have v6 : V2 6 = .pointer (some ⟨p, 0, none⟩) := hV2 6 (by omega)
      change wpList _ _ _ _ (Act.put (Act.put (Act.put (Act.put (Act.put (Act.put (Act.put _ (some 50) (V2 0)) (some 51) (V2 1)) (some 52) (V2 2)) (some 53) (V2 3)) (some 54) (V2 4)) (some 55) (V2 5)) (some 56) (V2 6)) _
      rw [v0, v1, v2, v3, v4, v5, v6]
      simp only [Act.put, List.setIfInBounds_toArray, List.set_cons_zero, List.set_cons_succ]
      simp only [List.drop_succ_cons, List.drop_zero]
      have hown2 := map_only hown4 hu2 (fun h => h)
      refine wpList_mapUpdate_own u2 rfl (.tmp 53) (.tmp 55) (.tmp 56) 126 rfl 9 131 law9 Tryz.underlying126 RP m n D rfl hown2 (by unfold maxLen; omega) (.string key) (.pointer (some ⟨p, 0, none⟩)) (.string key.data.toList) rfl rfl (Go.WideMaps.keyOf_string_mk Tryz.underlying9 hkl) (.lit (.int .i64 p)) [] rfl ?_
      intro w5 hown5 hgrow5
      have ho5 := only_grown hgrow5
      -- the new store
      have hS : ∀ k, (k = m ∨ ∃ c, C key = some c ∧ Foot c.1 c.2.1 k) → True := fun _ _ => trivial
      have hsz := HW.out.size
      have hsu := HU.out.size
      have hs4 := HO4.out.size
      have hs2 := hu2.size
      have hmlt := HS.out.is.map.lt
      have hslt := HS.out.is.blk.lt
      have hoa : Only (fun k => k = m ∨ ∃ c, C key = some c ∧ Foot c.1 c.2.1 k) w w5 := by
        refine ((((HW.out.trans HU.out).mono (fun _ _ h => h.elim)).step HO4.out (fun k hk hf => ?_)).step hu2 (fun _ _ h => h.elim)).step ho5 (fun k hk hf => .inl ?_)
        · rcases HFT.out k hf with h | h
          · exact .inr h
          · omega
        · simpa using hf.symm
      have hA5 : ChIs w5 p v' (ls ++ [⟨st, .slice A' nn c', dead⟩]) := (HA4.out.keep hu2).only ho5 (fun k hk hm' => by
        have hm'' : m = k := by simpa using hm'
        subst hm''
        rcases HFT4.out _ hk with h | h
        · exact (HFS.out _ h).2.1 rfl
        · omega)
      have hf5 : ∀ k, Foot p v' k → (∃ c, C key = some c ∧ Foot c.1 c.2.1 k) ∨ w.heap.size ≤ k := fun k hk => by
        rcases HFT4.out k hk with h | h
        · rcases HFT.out k h with h | h
          · exact .inl h
          · exact .inr (by omega)
        · exact .inr (by omega)
      have hx5 : Holds w5 (TerU s m (upd C key (some (p, v', linksOf (C key) ++ [⟨st, .slice A' nn c', dead⟩]))) U) ⟨st, .slice A' nn c', dead⟩ ⟨st, bs, dead⟩ := by
        refine ⟨rfl, rfl, A', c', by rw [hnn], ?_, fun hne g off hA => ?_⟩
        · refine (((HRP.out.1).only HO4.out (fun g off hA hg hf => ?_)).keep hu2).only ho5 (fun g off hA hg hf => ?_)
          · have h1 := (HRP.out.2 g off hA).1
            have h2 := HCHW.out.foot_lt hf
            omega
          · have h1 := (HRP.out.2 g off hA).1
            have h2 : m = g := by simpa using hf
            omega
        · have h1 := HRP.out.2 g off hA
          rintro (ht | hu)
          · rcases ht with rfl | rfl | ⟨k2, c2, hc2, hf⟩
            · omega
            · omega
            · by_cases e : k2 = key
              · rw [e, upd_same] at hc2
                cases hc2
                rcases HFT4.out g hf with h | h
                · have := HCHW.out.foot_lt h
                  omega
                · omega
              · rw [upd_other _ _ e] at hc2
                have := (HS.out.is.chains k2 c2 hc2).foot_lt hf
                omega
          · have := HUU.out g hu
            omega
      have hsto := HS.out.add hoa (by rw [HLS.out]; exact hA5) hf5 hown5 hx5
      have HST := Lib.hid hsto
      have HOA := Lib.hid hoa
      have HF5 := Lib.hid hf5
      have hm3 : m ≠ w.heap.size := by omega
      have G5 := (HG3.out.only hu2 (fun h => h)).only ho5 (fun h => hm3 (by simpa using h))
      have HG5 := Lib.hid G5
      clear hsto hoa hf5 hx5 hA5 hown5 hgrow5 ho5 hown2 hu2 hV2 v0 v1 v2 v3 v4 v5 v6 hS G5 k0 k4 hown4 hmn
      have hwt := weight_is
      have hup : upd V key (V key ++ [⟨st, bs, dead⟩]) key = V key ++ [⟨st, bs, dead⟩] := upd_same _ _ _
      have HWT := Lib.hid (fun u3 (ho : Only NoneOf w5 u3) => weight_is u3 s m (n + 1) _ _ live _ key hkey (HST.out.keep ho) (fun x hx => by
        rw [hup] at hx
        rcases List.mem_append.1 hx with h | h
        · exact hV x h
        · rw [List.mem_singleton.1 h]; show bs.length ≤ 4096; omega))
      rw [hup] at HWT
      have HB5 := Lib.hid HST.out.is.blk
      obtain ⟨W2, hW2⟩ : ∃ x : Int, x = wgt key (V key ++ [⟨st, bs, dead⟩]) := ⟨_, rfl⟩
      obtain ⟨W1, hW1⟩ : ∃ x : Int, x = wgt key (V key) := ⟨_, rfl⟩
      have hwb : ∀ xs : List Ver, (∀ x ∈ xs, x.bs.length ≤ 4096) → 0 ≤ wgt key xs ∧ wgt key xs ≤ 5000 := fun xs hxs => by
        unfold wgt
        cases hg : xs.getLast? with
        | none => simp
        | some x =>
          have := hxs x (List.mem_of_getLast? hg)
          simp only
          split <;> omega
      have b1 := hwb (V key) hV
      have b2 := hwb (V key ++ [⟨st, bs, dead⟩]) (fun x hx => by
        rcases List.mem_append.1 hx with h | h
        · exact hV x h
        · rw [List.mem_singleton.1 h]; show bs.length ≤ 4096; omega)
      rw [← hW1] at b1 ⊢
      rw [← hW2] at b2 HWT
      have HW1 := Lib.hid hW1
      have HW2 := Lib.hid hW2
      have hq1 : IntKind.i64.wrap (W2 - W1) = W2 - W1 := by rw [IntKind.wrap_i64]; omega
      have hq2 : IntKind.i64.wrap (live + (W2 - W1)) = live + (W2 - W1) := by rw [IntKind.wrap_i64]; omega
      clear hW1 hW2 hup hwb hwt
      go_upto_region 16 with (fail)
      refine wp_region_head 11 70 (ConstT fun i => match i with | 0 => .pointer (some ⟨s, 0, none⟩) | 1 => .pointer (some ⟨s, 0, none⟩) | 2 => .pointer (some ⟨s, 1, none⟩) | 3 => .int .i64 live | 4 => .pointer (some ⟨s, 0, none⟩) | 5 => .pointer (some ⟨w.heap.size, 0, none⟩) | 6 => .string key | 7 => .int .i64 W2 | 8 => .int .i64 W1 | 9 => .int .i64 (W2 - W1) | _ => .int .i64 (live + (W2 - W1))) (fun _ => false) rfl (by kernel_rfl) (by kernel_rfl) (fun _ _ _ _ h _ => h) (fun _ _ _ h => by cases h) ?_ ?_
      · intro i o hi ho a u' hu hs ht
        have e0 : a.tmps.getD 0 undef = .pointer (some ⟨s, 0, none⟩) := hs 0 (of_decide_eq_true (by kernel_rfl))
        have e3 : a.tmps.getD 3 undef = .pointer (some ⟨w.heap.size, 0, none⟩) := hs 3 (of_decide_eq_true (by kernel_rfl))
        have e7 : a.tmps.getD 7 undef = .int .i64 W1 := hs 7 (of_decide_eq_true (by kernel_rfl))
        have c0 := (HG5.out.only hu (fun h => h)).cellv 0 rfl
        have d1 := (HB5.out.only hu (fun h => h)).cellv 1 rfl
        have : i = 0 ∨ i = 1 ∨ i = 2 ∨ i = 3 ∨ i = 4 ∨ i = 5 ∨ i = 6 ∨ i = 7 ∨ i = 8 ∨ i = 9 ∨ i = 10 := by omega
        rcases this with rfl | rfl | rfl | rfl | rfl | rfl | rfl | rfl | rfl | rfl | rfl
        · obtain rfl := Option.some.inj (ho : some _ = some o)
          exact left_value (.pointer (some ⟨s, 0, none⟩)) (by simp [go_sem, e0]) rfl rfl
        · obtain rfl := Option.some.inj (ho : some _ = some o)
          have s0 : a.tmps.getD 57 undef = .pointer (some ⟨s, 0, none⟩) := ht 0 (by omega) (by kernel_rfl)
          exact left_value (.pointer (some ⟨s, 0, none⟩)) (by simp [go_sem, s0]) rfl rfl
        · obtain rfl := Option.some.inj (ho : some _ = some o)
          have s0 : a.tmps.getD 58 undef = .pointer (some ⟨s, 0, none⟩) := ht 1 (by omega) (by kernel_rfl)
          exact left_value (.pointer (some ⟨s, 1, none⟩)) (by simp [go_sem, s0]) rfl rfl
        · obtain rfl := Option.some.inj (ho : some _ = some o)
          have s0 : a.tmps.getD 59 undef = .pointer (some ⟨s, 1, none⟩) := ht 2 (by omega) (by kernel_rfl)
          exact left_value (.int .i64 live) (by simp [go_sem, s0, d1]) rfl rfl
        · obtain rfl := Option.some.inj (ho : some _ = some o)
          exact left_value (.pointer (some ⟨s, 0, none⟩)) (by simp [go_sem, e0]) rfl rfl
        · obtain rfl := Option.some.inj (ho : some _ = some o)
          exact left_value (.pointer (some ⟨w.heap.size, 0, none⟩)) (by simp [go_sem, e3]) rfl rfl
        · obtain rfl := Option.some.inj (ho : some _ = some o)
          have s0 : a.tmps.getD 62 undef = .pointer (some ⟨w.heap.size, 0, none⟩) := ht 5 (by omega) (by kernel_rfl)
          exact left_value (.string key) (by simp [go_sem, s0, c0]) rfl rfl
        · obtain rfl := Option.some.inj (ho : some _ = some o)
          have s0 : a.tmps.getD 61 undef = .pointer (some ⟨s, 0, none⟩) := ht 4 (by omega) (by kernel_rfl)
          have s1 : a.tmps.getD 63 undef = .string key := ht 6 (by omega) (by kernel_rfl)
          refine left_calls 60 #[.pointer (some ⟨s, 0, none⟩), .string key] (by simp [go_sem, s0, s1]) ((HWT.out u' hu).mono ?_) rfl
          rintro e u3 ⟨rfl, ho'⟩
          exact ⟨_, rfl, rfl, ho'⟩
        · obtain rfl := Option.some.inj (ho : some _ = some o)
          exact left_value (.int .i64 W1) (by simp [go_sem, e7]) rfl rfl
        · obtain rfl := Option.some.inj (ho : some _ = some o)
          have s0 : a.tmps.getD 64 undef = .int .i64 W2 := ht 7 (by omega) (by kernel_rfl)
          have s1 : a.tmps.getD 65 undef = .int .i64 W1 := ht 8 (by omega) (by kernel_rfl)
          exact left_value (.int .i64 (W2 - W1)) (by simp [go_sem, s0, s1]; exact hq1) rfl rfl
        · obtain rfl := Option.some.inj (ho : some _ = some o)
          have s0 : a.tmps.getD 60 undef = .int .i64 live := ht 3 (by omega) (by kernel_rfl)
          have s1 : a.tmps.getD 66 undef = .int .i64 (W2 - W1) := ht 9 (by omega) (by kernel_rfl)
          exact left_value (.int .i64 (live + (W2 - W1))) (by simp [go_sem, s0, s1]; exact hq2) rfl rfl
      intro V3 u3 hu3 hV3 _
      have v0 : V3 0 = .pointer (some ⟨s, 0, none⟩) := hV3 0 (by omega)
      have v1 : V3 1 = .pointer (some ⟨s, 0, none⟩) := hV3 1 (by omega)
      have v2 : V3 2 = .pointer (some ⟨s, 1, none⟩) := hV3 2 (by omega)
      have v3 : V3 3 = .int .i64 live := hV3 3 (by omega)
      have v4 : V3 4 = .pointer (some ⟨s, 0, none⟩) := hV3 4 (by omega)
      have v5 : V3 5 = .pointer (some ⟨w.heap.size, 0, none⟩) := hV3 5 (by omega)
      have v6 : V3 6 = .string key := hV3 6 (by omega)
      have v7 : V3 7 = .int .i64 W2 := hV3 7 (by omega)
      have v8 : V3 8 = .int .i64 W1 := hV3 8 (by omega)
      have v9 : V3 9 = .int .i64 (W2 - W1) := hV3 9 (by omega)
      have v10 : V3 10 = .int .i64 (live + (W2 - W1)) := hV3 10 (by omega)
      change wpList _ _ _ _ (Act.put (Act.put (Act.put (Act.put (Act.put (Act.put (Act.put (Act.put (Act.put (Act.put (Act.put _ (some 57) (V3 0)) (some 58) (V3 1)) (some 59) (V3 2)) (some 60) (V3 3)) (some 61) (V3 4)) (some 62) (V3 5)) (some 63) (V3 6)) (some 64) (V3 7)) (some 65) (V3 8)) (some 66) (V3 9)) (some 67) (V3 10)) _
      rw [v0, v1, v2, v3, v4, v5, v6, v7, v8, v9, v10]
      simp only [Act.put, List.setIfInBounds_toArray, List.set_cons_zero, List.set_cons_succ]
      simp only [List.drop_succ_cons, List.drop_zero]
      have hB3 := HB5.out.only hu3 (fun h => h)
      have d1 := hB3.cellv 1 rfl
      have f1 := hB3.free 1
      have HFIN := Lib.hid ((HST.out.keep hu3).setLive (live + (W2 - W1)))
      have HSS := Lib.hid HST.out.is.blk.lt
      have HU3 := Lib.hid hu3
      clear hu3 hV3 v0 v1 v2 v3 v4 v5 v6 v7 v8 v9 v10 hB3
      go_wp2_with fail
      go_ret
      refine ⟨rfl, D.put (.string key.data.toList) (.lit (.int .i64 p)), upd C key (some (p, v', linksOf (C key) ++ [⟨st, .slice A' nn c', dead⟩])), ?_, ?_, fun k hk => ?_⟩
      · rw [← HW1.out, ← HW2.out]
        exact HFIN.out
      · refine (((HOA.out.mono (fun k _ hk => ?_)).step HU3.out (fun _ _ h => h.elim)).put (p := ⟨s, 1, none⟩) (.inl (.inl rfl)) _)
        rcases hk with rfl | ⟨c, hc, hf⟩
        · exact .inr (.inl rfl)
        · exact .inr (.inr ⟨key, c, hc, hf⟩)
      · rcases hk with rfl | rfl | ⟨k2, c2, hc2, hf⟩
        · exact .inl (.inl rfl)
        · exact .inl (.inr (.inl rfl))
        · by_cases e : k2 = key
          · rw [e, upd_same] at hc2
            cases hc2
            rcases HF5.out k hf with ⟨c, hc, hf'⟩ | h
            · exact .inl (.inr (.inr ⟨key, c, hc, hf'⟩))
            · exact .inr h
          · rw [upd_other _ _ e] at hc2
            exact .inl (.inr (.inr ⟨k2, c2, hc2, hf⟩))

end Go.Proofs.YtbhihbhjmmeibaaGreat

/-
  Layer 14: Apply, refused by the chain; Apply of a store that is not there.
-/
namespace Go.Proofs.YtbhihbhjmmeibaaGreat
open Go.RowKit
open Cb (ChIs Foot)

set_option maxRecDepth 100000 in
set_option maxHeartbeats 1000000 in
theorem apply_nil (w : World) (key : ByteArray) (st : Int) (v : Value) (dead : Bool) :
    Calls Tryz.prog 34 #[.pointer none, .agg (verC key st v dead)] w fun e w' => e = .returned (.int .i64 1) ∧ Only NoneOf w w' := by
  have HO := Lib.hid ((Only.refl NoneOf w).alloc (.cells (verC key st v dead) 47))
  go_enter Tryz.func34, Tryz.ntmps34
  go_wp2_with fail
  go_ret
  exact ⟨rfl, HO.out⟩

set_option maxRecDepth 100000 in
set_option maxHeartbeats 1000000 in
theorem apply_old (w : World) (s m n : Nat) (D : MD) (C : ByteArray → Option Ch) (live : Int) (V : ByteArray → List Ver) {U : Nat → Prop} (key : ByteArray) (st : Int) (A : Option Addr) (nn cc : Nat) (dead : Bool) (bs : List UInt8)
    (hnn : bs.length = nn) (hby : BytesAt w A bs) (hmay : mayI key.size nn st dead = 0) (h : Sto w s m n D C live V U) (hV : ∀ x ∈ V key, x.bs.length ≤ 4096) (xs : List Ver) (x : Ver) (hx : V key = xs ++ [x]) (hold : st ≤ x.st)
    (hkey : key.size ≤ 255) (hbl : nn ≤ 4096) (hst : 0 ≤ st) :
    Calls Tryz.prog 34 #[.pointer (some ⟨s, 0, none⟩), .agg (verC key st (.slice A nn cc) dead)] w fun e w' => e = .returned (.int .i64 130) ∧ Only NoneOf w w' := by
  have HM := fun u => Lib.hid (may_is key st A nn cc dead u)
  have HMAY := Lib.hid hmay
  have B3 := Blk.new w 47 (verC key st (.slice A nn cc) dead)
  have HO := Lib.hid ((Only.refl NoneOf w).alloc (.cells (verC key st (.slice A nn cc) dead) 47))
  have hkl : key.size ≤ maxLen := by unfold maxLen; omega
  have HS := Lib.hid h
  have HBY := Lib.hid hby
  have hb3 := B3.lt
  clear hmay
  go_enter Tryz.func34, Tryz.ntmps34
  go_wp2_with (refine wpList_load_row rfl 47 (.tmp 3) rfl w.heap.size rfl 47 _ (0, 0) _ B3 Tryz.underlying47 rfl info27 ?_)
  refine (HM _).out.mono ?_; rintro e w1 ⟨rfl, ho1⟩
  rw [HMAY.out]
  have HO1 := Lib.hid (HO.out.trans ho1)
  have E3 := B3.only ho1 (fun h => h)
  have k0 := E3.cellv 0 rfl
  clear ho1 B3 HM HMAY HO
  go_wp2_with fail
  refine (of_is w1 s m n D C live key hkl (HS.out.keep HO1.out).is).mono ?_; rintro e w1 ⟨rfl, rfl⟩
  obtain ⟨⟨p, vv, ls0⟩, hc⟩ : ∃ c, C key = some c := by
    cases hc : C key with
    | none => have := h.nov key hc; rw [hx] at this; simp at this
    | some c => exact ⟨c, rfl⟩
  obtain ⟨ls, l, xs', x', e1, e2, hst', _, _⟩ := h.last hc
  have hxx : x' = x := by
    have := hx.symm.trans e2
    exact ((List.append_inj' this rfl).2 |> fun h => by simpa using h.symm)
  subst hxx
  simp only at e1
  subst e1
  have hch := (HS.out.keep HO1.out).is.chains key _ hc
  have HCH := Lib.hid hch
  have HLO := Lib.hid (show st ≤ l.stamp by rw [hst']; exact hold)
  rw [hc]
  clear hch hc h hx e2 hst' hold
  simp only [chPtr]
  go_wp2_with fail
  refine (weight_is _ s m n D C live V key hkey (HS.out.keep HO1.out) hV).mono ?_; rintro e W ⟨rfl, ho2⟩
  have hCH := HCH.out.keep ho2
  have E3' := E3.only ho2 (fun h => h)
  have HW := Lib.hid (HO1.out.trans ho2)
  clear ho2 HCH HO1 k0 E3
  have E3 := E3'
  clear E3'
  have HE3 := Lib.hid E3
  have HCHW := Lib.hid hCH
  go_upto_region 10 with (fail)
  refine wp_region_head 9 70 (ApT p w.heap.size st A nn cc dead bs W.heap.size) (fun _ => false) rfl (by kernel_rfl) (by kernel_rfl) (ApT_keep _ _ _ _ _ _ _ _ _) (fun _ _ _ h => by cases h) ?_ ?_
  · intro i o hi ho a u hu hs ht
    have e3 : a.tmps.getD 3 undef = .pointer (some ⟨w.heap.size, 0, none⟩) := hs 3 (of_decide_eq_true (by kernel_rfl))
    have e6 : a.tmps.getD 6 undef = .pointer (some ⟨p, 0, none⟩) := hs 6 (of_decide_eq_true (by kernel_rfl))
    have F3 := HE3.out.only hu (fun h => h)
    have c1 := F3.cellv 1 rfl
    have c2 := F3.cellv 2 rfl
    have c3 := F3.cellv 3 rfl
    have : i = 0 ∨ i = 1 ∨ i = 2 ∨ i = 3 ∨ i = 4 ∨ i = 5 ∨ i = 6 ∨ i = 7 ∨ i = 8 := by omega
    rcases this with rfl | rfl | rfl | rfl | rfl | rfl | rfl | rfl | rfl
    · obtain rfl := Option.some.inj (ho : some _ = some o)
      exact left_value (.pointer (some ⟨p, 0, none⟩)) (by simp [go_sem, e6]) rfl rfl
    · obtain rfl := Option.some.inj (ho : some _ = some o)
      exact left_value (.pointer (some ⟨w.heap.size, 1, none⟩)) (by simp [go_sem, e3]) rfl rfl
    · obtain rfl := Option.some.inj (ho : some _ = some o)
      have s0 : a.tmps.getD 29 undef = .pointer (some ⟨w.heap.size, 1, none⟩) := ht 1 (by omega) (by kernel_rfl)
      exact left_value (.int .i64 st) (by simp [go_sem, s0, c1]) rfl rfl
    · obtain rfl := Option.some.inj (ho : some _ = some o)
      exact left_value (.pointer (some ⟨w.heap.size, 2, none⟩)) (by simp [go_sem, e3]) rfl rfl
    · obtain rfl := Option.some.inj (ho : some _ = some o)
      have s0 : a.tmps.getD 31 undef = .pointer (some ⟨w.heap.size, 2, none⟩) := ht 3 (by omega) (by kernel_rfl)
      exact left_value (.slice A nn cc) (by simp [go_sem, s0, c2]) rfl rfl
    · obtain rfl := Option.some.inj (ho : some _ = some o)
      have s0 : a.tmps.getD 32 undef = .slice A nn cc := ht 4 (by omega) (by kernel_rfl)
      refine left_calls 62 #[.slice A nn cc] (by simp [go_sem, s0]) ((own_is A nn cc bs u hnn (HBY.out.keep (HW.out.trans hu)) (by omega)).mono ?_) rfl
      rintro e u' ⟨v, rfl, hr, ho'⟩
      obtain ⟨A', c', rfl, _⟩ := hr.at
      exact ⟨_, rfl, ⟨A', c', rfl, hr.base hu.size⟩, ho'⟩
    · obtain rfl := Option.some.inj (ho : some _ = some o)
      exact left_value (.pointer (some ⟨w.heap.size, 3, none⟩)) (by simp [go_sem, e3]) rfl rfl
    · obtain rfl := Option.some.inj (ho : some _ = some o)
      have s0 : a.tmps.getD 34 undef = .pointer (some ⟨w.heap.size, 3, none⟩) := ht 6 (by omega) (by kernel_rfl)
      exact left_value (.bool dead) (by simp [go_sem, s0, c3]) rfl rfl
    · obtain rfl := Option.some.inj (ho : some _ = some o)
      have s0 : a.tmps.getD 30 undef = .int .i64 st := ht 2 (by omega) (by kernel_rfl)
      obtain ⟨A', c', s1, hr⟩ : ∃ A' c', a.tmps.getD 33 undef = .slice A' bs.length c' ∧ RowB u W.heap.size (a.tmps.getD 33 undef) bs := ht 5 (by omega) (by kernel_rfl)
      have s2 : a.tmps.getD 35 undef = .bool dead := ht 7 (by omega) (by kernel_rfl)
      rw [s1] at hr
      have t0 : a.tmps[30]?.getD undef = .int .i64 st := by simpa using s0
      have t1 : a.tmps[33]?.getD undef = .slice A' bs.length c' := by simpa using s1
      have t2 : a.tmps[35]?.getD undef = .bool dead := by simpa using s2
      exact left_value (.agg #[.int .i64 st, .slice A' bs.length c', .bool dead]) (by simp [go_sem, t0, t1, t2]) rfl ⟨A', c', rfl, hr⟩
  · intro V' u hu hV' _
    have v0 : V' 0 = .pointer (some ⟨p, 0, none⟩) := hV' 0 (by omega)
    have v1 : V' 1 = .pointer (some ⟨w.heap.size, 1, none⟩) := hV' 1 (by omega)
    have v2 : V' 2 = .int .i64 st := hV' 2 (by omega)
    have v3 : V' 3 = .pointer (some ⟨w.heap.size, 2, none⟩) := hV' 3 (by omega)
    have v4 : V' 4 = .slice A nn cc := hV' 4 (by omega)
    obtain ⟨A5, c5, v5, _⟩ : ∃ A' c', V' 5 = .slice A' bs.length c' ∧ RowB u W.heap.size (V' 5) bs := hV' 5 (by omega)
    have v6 : V' 6 = .pointer (some ⟨w.heap.size, 3, none⟩) := hV' 6 (by omega)
    have v7 : V' 7 = .bool dead := hV' 7 (by omega)
    obtain ⟨A', c', v8, hr⟩ : ∃ A' c', V' 8 = .agg #[.int .i64 st, .slice A' bs.length c', .bool dead] ∧ RowB u W.heap.size (.slice A' bs.length c') bs := hV' 8 (by omega)
    change wpList _ _ _ _ (Act.put (Act.put (Act.put (Act.put (Act.put (Act.put (Act.put (Act.put (Act.put _ (some 28) (V' 0)) (some 29) (V' 1)) (some 30) (V' 2)) (some 31) (V' 3)) (some 32) (V' 4)) (some 33) (V' 5)) (some 34) (V' 6)) (some 35) (V' 7)) (some 36) (V' 8)) _
    rw [v0, v1, v2, v3, v4, v5, v6, v7, v8]
    simp only [Act.put, List.setIfInBounds_toArray, List.set_cons_zero, List.set_cons_succ]
    simp only [List.drop_succ_cons, List.drop_zero]
    have HC2 := Lib.hid (HCHW.out.keep hu)
    have HU := Lib.hid (HW.out.trans hu)
    clear hr hu hV' v0 v1 v2 v3 v4 v5 v6 v7 v8
    go_wp2_with fail
    refine (Cb.add_old u p vv ls l st (A', nn, c') dead HC2.out hst HLO.out).mono ?_; rintro e w4 ⟨rfl, ho4⟩
    have HO4 := Lib.hid (HU.out.trans ho4)
    clear ho4
    go_wp2_with fail
    go_ret
    exact ⟨rfl, HO4.out⟩

end Go.Proofs.YtbhihbhjmmeibaaGreat

