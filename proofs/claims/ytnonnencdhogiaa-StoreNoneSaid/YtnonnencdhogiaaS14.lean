/-
  Layer 14: lists of versions in memory; how a function with many ranges over functions is left.
-/
import Derived.Test.YtnonnencdhogiaaS13
import Derived.Sort.LoopGhostIn
namespace Go.Proofs.Ytnonnencdhogiaa
open Go.RowKit Go.Shelf
open Cb (ChIs Foot linkEnc row_base IsV)

/-- a version as a list of versions holds it -/
structure VRow where
  key : ByteArray
  st : Int
  val : Value
  bs : List UInt8
  dead : Bool
def VRow.cells (r : VRow) : List Value := [.string r.key, .int .i64 r.st, r.val, .bool r.dead]
def VRow.plain (r : VRow) : ByteArray × Ver := (r.key, ⟨r.st, r.bs, r.dead⟩)
abbrev vflat (rs : List VRow) : List Value := rs.flatMap VRow.cells

theorem vflat_length (rs : List VRow) : (vflat rs).length = rs.length * 4 := by
  induction rs with
  | nil => rfl
  | cons r rs ih => simp only [vflat, List.flatMap_cons, List.length_append, List.length_cons, VRow.cells, List.length_nil] at ih ⊢; omega

/-- a list of versions that is its own, each value a row of its own -/
structure VRows (w : World) (base : Nat) (v : Value) (rs : List VRow) : Prop where
  own : w.ownsRow base 27 4 v rs.length (vflat rs)
  val : ∀ r ∈ rs, RowB w base r.val r.bs
  apart : ∀ r ∈ rs, ∀ g, v.ownBlock = some g → r.val.ownBlock ≠ some g
  dist : rs.Pairwise fun a b => ∀ g, a.val.ownBlock = some g → b.val.ownBlock ≠ some g
/-- its blocks -/
def VBlocks (v : Value) (rs : List VRow) (k : Nat) : Prop := v.ownBlock = some k ∨ ∃ r ∈ rs, r.val.ownBlock = some k

theorem ownsRow_only {w w' : World} {base n sz : Nat} {t : TypeId} {v : Value} {xs : List Value} {S : Nat → Prop} (h : w.ownsRow base t sz v n xs) (ho : Only S w w') (hS : ∀ g, v.ownBlock = some g → ¬ S g) : w'.ownsRow base t sz v n xs := by
  refine ⟨h.1, ?_⟩
  rcases h.2 with h0 | ⟨g, cap, cur, hv, hb, hh, r⟩
  · exact .inl h0
  · exact .inr ⟨g, cap, cur, hv, hb, Blk.only (t := t) (cs := cur) hh ho (hS g (by rw [hv]; rfl)), r⟩
theorem ownsRow_lt {w : World} {base n sz : Nat} {t : TypeId} {v : Value} {xs : List Value} (h : w.ownsRow base t sz v n xs) {g : Nat} (hg : v.ownBlock = some g) : base ≤ g ∧ g < w.heap.size := by
  rcases h.2 with ⟨rfl, _⟩ | ⟨g', cap, cur, rfl, hb, hh, _⟩
  · simp [Value.ownBlock] at hg
  · have : g' = g := by simpa [Value.ownBlock] using hg
    subst this
    exact ⟨hb, Blk.lt (t := t) (cs := cur) hh⟩
theorem RowB.only {w w' : World} {S : Nat → Prop} {B : Nat} {v : Value} {l : List UInt8} (h : RowB w B v l) (ho : Only S w w') (hS : ∀ g, v.ownBlock = some g → ¬ S g) : RowB w' B v l := ownsRow_only h ho hS

theorem VRows.lt {w : World} {base : Nat} {v : Value} {rs : List VRow} (h : VRows w base v rs) {k : Nat} (hk : VBlocks v rs k) : base ≤ k ∧ k < w.heap.size := by
  rcases hk with hk | ⟨r, hr, hk⟩
  · exact ownsRow_lt h.own hk
  · exact ownsRow_lt (h.val r hr) hk
theorem VRows.only {w w' : World} {S : Nat → Prop} {base : Nat} {v : Value} {rs : List VRow} (h : VRows w base v rs) (ho : Only S w w') (hS : ∀ k, VBlocks v rs k → ¬ S k) : VRows w' base v rs :=
  ⟨ownsRow_only h.own ho (fun g hg => hS g (.inl hg)), fun r hr => (h.val r hr).only ho (fun g hg => hS g (.inr ⟨r, hr, hg⟩)), h.apart, h.dist⟩
theorem VRows.nil (w : World) (base : Nat) : VRows w base (.slice none 0 0) [] := ⟨⟨rfl, .inl ⟨rfl, rfl⟩⟩, fun _ h => (by cases h), fun _ h => (by cases h), List.Pairwise.nil⟩

/-- A row more. -/
theorem VRows.snoc {w w' : World} {base : Nat} {v v' : Value} {rs : List VRow} {r : VRow} (h : VRows w base v rs) (ho : Only (fun k => v.ownBlock = some k) w w')
    (hown : w'.ownsRow base 27 4 v' (rs.length + 1) (vflat rs ++ r.cells)) (hat : v'.ownBlock = v.ownBlock ∨ ∃ g, v'.ownBlock = some g ∧ w.heap.size ≤ g) (hr : RowB w base r.val r.bs)
    (hnew : ∀ g, r.val.ownBlock = some g → ¬ VBlocks v rs g) :
    VRows w' base v' (rs ++ [r]) := by
  have hb : ∀ x ∈ rs ++ [r], RowB w base x.val x.bs ∧ ∀ g, v.ownBlock = some g → x.val.ownBlock ≠ some g := fun x hx => by
    rcases List.mem_append.1 hx with hx | hx
    · exact ⟨h.val x hx, h.apart x hx⟩
    · obtain rfl : x = r := by simpa using hx
      exact ⟨hr, fun g hg e => hnew g e (.inl hg)⟩
  refine ⟨by rw [List.length_append]; simpa using hown, fun x hx => ?_, fun x hx g hg e => ?_, ?_⟩
  · exact (hb x hx).1.only ho (fun g hg e => (hb x hx).2 g e hg)
  · rcases hat with hat | ⟨g', hg', hge⟩
    · rw [hat] at hg
      exact (hb x hx).2 g hg e
    · rw [hg'] at hg
      cases hg
      have := (ownsRow_lt (hb x hx).1 e).2
      omega
  · rw [List.pairwise_append]
    refine ⟨h.dist, List.pairwise_singleton _ _, fun a ha b hb' g hg e => ?_⟩
    obtain rfl : b = r := by simpa using hb'
    exact hnew g e (.inr ⟨a, ha, hg⟩)
theorem vblocks_snoc {v v' : Value} {rs : List VRow} {r : VRow} {k n : Nat} (hat : v'.ownBlock = v.ownBlock ∨ ∃ g, v'.ownBlock = some g ∧ n ≤ g) (h : VBlocks v' (rs ++ [r]) k) : VBlocks v rs k ∨ r.val.ownBlock = some k ∨ n ≤ k := by
  rcases h with h | ⟨x, hx, h⟩
  · rcases hat with e | ⟨g, hg, hge⟩
    · exact .inl (.inl (e ▸ h))
    · rw [hg] at h
      cases h
      exact .inr (.inr hge)
  · rcases List.mem_append.1 hx with hx | hx
    · exact .inl (.inr ⟨x, hx, h⟩)
    · obtain rfl : x = r := by simpa using hx
      exact .inr (.inl h)

/-- The marks of ranges over functions that are behind us: open, each a block of its own, from B on and below H. -/
def Marks (B H : Nat) (w : World) : List Deferred → Prop
  | [] => True
  | d :: ds => (∃ r, d.target = .collected r ∧ B ≤ r ∧ r < H ∧ w.heap[r]? = some (.deferred (some [])) ∧ ∀ d' ∈ ds, d'.target ≠ .collected r) ∧ Marks B H w ds

theorem Marks.only {S : Nat → Prop} {B H : Nat} {w w' : World} (ho : Only S w w') (hS : ∀ k, B ≤ k → k < H → w.heap[k]? = some (.deferred (some [])) → ¬ S k) : ∀ {ds : List Deferred}, Marks B H w ds → Marks B H w' ds
  | [], _ => trivial
  | _ :: _, ⟨⟨r, h1, h2, h2', h3, h4⟩, h⟩ => ⟨⟨r, h1, h2, h2', (ho.block r (Array.getElem?_eq_some_iff.1 h3).1 (hS r h2 h2' h3)).trans h3, h4⟩, h.only ho hS⟩
theorem Marks.up {B H H' : Nat} {w : World} (hH : H ≤ H') : ∀ {ds : List Deferred}, Marks B H w ds → Marks B H' w ds
  | [], _ => trivial
  | _ :: _, ⟨⟨r, h1, h2, h2', h3, h4⟩, h⟩ => ⟨⟨r, h1, h2, Nat.lt_of_lt_of_le h2' hH, h3, h4⟩, h.up hH⟩
theorem Marks.lt {B H : Nat} {w : World} : ∀ {ds : List Deferred}, Marks B H w ds → ∀ d ∈ ds, ∃ r, d.target = .collected r ∧ r < H
  | _ :: _, ⟨⟨r, h1, _, h3, _⟩, h⟩, d, hd => by
    rcases List.mem_cons.1 hd with rfl | hd
    · exact ⟨r, h1, h3⟩
    · exact h.lt d hd
/-- A mark more. -/
theorem Marks.cons {B H r : Nat} {w : World} {ds : List Deferred} (h : Marks B r w ds) (hr : w.heap[r]? = some (.deferred (some []))) (hB : B ≤ r) (hH : r < H) : Marks B H w ({ target := .collected r, args := #[] } :: ds) :=
  ⟨⟨r, rfl, hB, hH, hr, fun d hd e => by
    obtain ⟨r', h1, h2⟩ := h.lt d hd
    rw [h1] at e
    cases e
    omega⟩, h.up (by omega)⟩

/-- A function is left with its marks. -/
theorem leaves_marks {n B H : Nat} {P : Program} {fn : Func} {tmps : Array Value} {R : Ending → World → Prop} : ∀ {ds : List Deferred} {w : World}, Marks B H w ds →
    (∀ w', Only (fun k => B ≤ k ∧ ∃ o, w.heap[k]? = some (.deferred o)) w w' → LeavesIn Fence.wide n P fn tmps R [] .returning w') → LeavesInM Fence.wide n P fn tmps R ds .returning w
  | [], _, _, h => h _ (Only.refl _ _)
  | d :: ds, w, ⟨⟨r, h1, h2, _, h3, h4⟩, hm⟩, h => by
    have ho : Only (· = r) w (w.putObj r (.deferred none)) := Only.putObj (S := (· = r)) (Only.refl _ _) (.inl rfl) _
    refine ⟨by simp, .inl ⟨r, _, h1, run_takeDeferred h3, leaves_marks (B := B) (H := H) (ds := ds) ?_ fun w' ho' => h w' ?_⟩⟩
    · have key : ∀ (ds : List Deferred), (∀ d' ∈ ds, d'.target ≠ .collected r) → Marks B H w ds → Marks B H (w.putObj r (.deferred none)) ds := by
        intro ds
        induction ds with
        | nil => intro _ _; trivial
        | cons d' ds ih =>
          intro hne ⟨⟨r', a1, a2, a2', a3, a4⟩, hm'⟩
          have hrr : r' ≠ r := fun e => hne d' (by simp) (by rw [a1, e])
          exact ⟨⟨r', a1, a2, a2', (ho.block r' (Array.getElem?_eq_some_iff.1 a3).1 hrr).trans a3, a4⟩, ih (fun x hx => hne x (by simp [hx])) hm'⟩
      exact key ds h4 hm
    · refine Only.trans (ho.mono fun k _ e => ?_) (ho'.mono fun k _ hk => ?_)
      · subst e
        exact ⟨h2, _, h3⟩
      · obtain ⟨hk1, o, hko⟩ := hk
        by_cases e : k = r
        · subst e
          exact ⟨hk1, _, h3⟩
        · rw [World.putObj_heap_other e] at hko
          exact ⟨hk1, o, hko⟩

end Go.Proofs.Ytnonnencdhogiaa
