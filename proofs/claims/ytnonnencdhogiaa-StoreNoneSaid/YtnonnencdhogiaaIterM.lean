/-
  A range over a function whose elements are memory made in each round: a contract of iterators, and the caller's law. (As in Iter.)
-/
import Derived.Test.YtnonnencdhogiaaIter
namespace Go.Proofs.Ytnonnencdhogiaa
open Go.RowKit

/-- In the world W a call of the function gf with a loop's round tells elements, one behind the other, till a round says 'no more'. An element is told by arguments that hold it ('Enc', over the memory from a number on). -/
def IterM {α : Type} (P : Program) (gf : Nat) (lb : Array Value) (Enc : Nat → α → Array Value → World → Prop) (xs : List α) (Kp : Nat → Prop) (W : World) : Prop :=
  ∀ (l : Nat) (J Jx : Nat → List α → World → Prop),
    (∀ E pre A B, J E pre A → Only (Ours W.heap.size E) A B → J E pre B) →
    (∀ E pre A B, Jx E pre A → Only (Ours W.heap.size E) A B → Jx E pre B) →
    (∀ E B, W.heap.size ≤ E → E ≤ B.heap.size → Only NoneOf W B → J E [] B) →
    (∀ E pre x args A0 A, W.heap.size ≤ E → E ≤ A0.heap.size → J E pre A0 → Only NoneOf A0 A → Enc A0.heap.size x args A → pre ++ [x] <+: xs →
      YieldAt Fence.wide 1 P l args A fun e B => (e = .returned (.bool true) ∧ J E (pre ++ [x]) B ∧ Only (Theirs W.heap.size E Kp) A B) ∨ (e = .returned (.bool false) ∧ Jx E (pre ++ [x]) B ∧ Only (Theirs W.heap.size E Kp) A B)) →
    CallsIn Fence.wide 1 P gf (#[.func (.yield l) #[] #[]] ++ lb) W fun e B => (∃ v, e = .returned v) ∧ ∃ E, W.heap.size ≤ E ∧ (J E xs B ∨ ∃ pre, pre <+: xs ∧ Jx E pre B)

theorem range_ownM {n : Nat} {P : Program} {α : Type} {g : Operand} {ps : Array Tmp} {assign body : Code} {Q : Exit → Act → World → Prop} {a : Act} {w : World}
    (h1 : 1 ≤ n) {gf : Nat} {lb : Array Value} (hg : a.eval g = .func (.func gf) #[] lb) (eg : ∀ args w, (callFunc gf args).run P w = .ok (.enter gf args) w)
    {Enc : Nat → α → Array Value → World → Prop} {xs : List α} {Kp : Nat → Prop} (hit : ∀ W, Only NoneOf w W → W.heap.size = w.heap.size + 2 → IterM P gf lb Enc xs Kp W) (hps : ∀ n x args A, Enc n x args A → args.size = ps.size) (hKp : ∀ {k}, w.heap.size ≤ k → ¬ Kp k)
    (I : Nat → List α → World → Prop) (Ix : Code → Nat → List α → World → Prop)
    (hI : ∀ E pre A B, I E pre A → Only (Ours w.heap.size E) A B → I E pre B) (hIx : ∀ c E pre A B, Ix c E pre A → Only (Ours w.heap.size E) A B → Ix c E pre B)
    (h0 : ∀ E B, w.heap.size + 2 ≤ E → E ≤ B.heap.size → Only NoneOf w B → I E [] B)
    (Ax : Nat → α → Act → World → Prop) (hAx : ∀ n x a' A B, Ax n x a' A → Only (· = w.heap.size + 1) A B → Ax n x a' B)
    (hassign : ∀ (x : α) (args : Array Value) (A0 W : World) (K : Act → World → Prop), x ∈ xs → w.heap.size + 2 ≤ A0.heap.size → Only NoneOf A0 W → Enc A0.heap.size x args W → (∀ a' W', Only NoneOf W W' → Ax A0.heap.size x a' W' → K a' W') →
      assign.wpIn (Fence.wide.inRound (w.heap.size + 1)) (n - 1 - 1) P (Exit.then K (fun _ _ _ => False)) { tmps := (ps.zip args).foldl (fun t (p, v) => t.setIfInBounds p v) a.tmps, defers := [] } W)
    (hbody : ∀ (E : Nat) (pre : List α) (x : α) (a' : Act) (A0 W : World), (∃ r, W.heap[w.heap.size + 1]? = some (.loop r)) → w.heap.size + 2 ≤ E → E ≤ A0.heap.size → pre ++ [x] <+: xs → I E pre A0 → Only (Ours w.heap.size E) A0 W → Ax A0.heap.size x a' W →
      body.wpIn (Fence.wide.inRound (w.heap.size + 1)) (n - 1 - 1) P (roundEnds w.heap.size E Kp I Ix (pre ++ [x]) W) a' W)
    (hdone : ∀ (E : Nat) (W : World), w.heap.size + 2 ≤ E → I E xs W → W.heap[w.heap.size]? = some (.deferred (some [])) → Q .normal { a with defers := { target := .collected w.heap.size, args := #[] } :: a.defers } W)
    (hstop : ∀ (E : Nat) (c : Code) (pre : List α) (W : World), w.heap.size + 2 ≤ E → pre <+: xs → Ix c E pre W → W.heap[w.heap.size]? = some (.deferred (some [])) →
      c.wpIn Fence.wide n P Q { a with defers := { target := .collected w.heap.size, args := #[] } :: a.defers } W) :
    (Code.rangeFunc g ps assign body).wpIn Fence.wide n P Q a w := by
  refine wpIn_rangeFunc ?_
  intro fn hfn
  rw [show Fence.wide.round = none from rfl]
  obtain ⟨rec, hrec⟩ : ∃ rec : LoopState → Option Code → Loop, rec = fun st pe => { state := st, pending := pe, fn, tmps := a.tmps, params := ps, assign, body, defers := w.heap.size } := ⟨_, rfl⟩
  obtain ⟨W1, hW1⟩ : ∃ W1, (w.alloc (.deferred (some []))).alloc (.loop (rec .ready none)) = W1 := ⟨_, rfl⟩
  have hz : W1.heap.size = w.heap.size + 2 := by rw [← hW1]; simp
  have hO1 : Only NoneOf w W1 := by rw [← hW1]; exact ((Only.refl _ _).alloc _).alloc _
  have hL1 : W1.heap[w.heap.size + 1]? = some (.loop (rec .ready none)) := by
    rw [← hW1]; have := World.alloc_heap_new (w.alloc (.deferred (some []))) (.loop (rec .ready none)); rwa [World.size_alloc] at this
  have hK1 : W1.heap[w.heap.size]? = some (.deferred (some [])) := by
    rw [← hW1]; exact (Below.heap_alloc _ _ _ (by simp)).trans (World.alloc_heap_new w _)
  refine ⟨w.heap.size + 1, [{ target := .collected w.heap.size, args := #[] }], W1, { target := .fn (.func gf) lb, args := #[.func (.yield (w.heap.size + 1)) #[] #[]] }, W1, gf,
    #[.func (.yield (w.heap.size + 1)) #[] #[]] ++ lb, W1, ?_, ?_, ?_, ?_, fun _ => h1, ?_⟩
  · rw [← hW1, hrec]; exact run_enterLoop_outer _ _ _ _ _
  · simp only [resolve, hg]
    simp [go_sem]
  · intro f' hf'; simp [Target.leads] at hf'; subst hf'; exact trivial
  · simp [invoke, go_sem, eg]
  · have sub : ∀ {E : Nat} {A B : World}, Only (Ours W1.heap.size E) A B → Only (Ours w.heap.size E) A B := fun h => h.mono fun k _ hk => ⟨by have := hk.1; omega, hk.2⟩
    have own : ∀ {E l : Nat} {A : World} (o : Obj), w.heap.size ≤ l → l < E → Only (Ours w.heap.size E) A (A.putObj l o) := fun o h2 h3 => (Only.refl _ _).putObj (.inl ⟨h2, h3⟩) o
    have rec_keeps : ∀ {E : Nat} {A B : World} {k : Nat} {o : Obj}, k < W1.heap.size → A.heap[k]? = some o → Only (Ours W1.heap.size E) A B → B.heap[k]? = some o := fun hk ho h => by
      have hlt := (Array.getElem?_eq_some_iff.1 ho).1
      exact (h.block _ hlt (fun hh => by have := hh.1; omega)).trans ho
    refine CallsIn.deep (n - 1) ((hit W1 hO1 hz (w.heap.size + 1)
      (fun E pre W => W1.heap.size ≤ E ∧ I E pre W ∧ W.heap[w.heap.size + 1]? = some (.loop (rec .ready none)) ∧ W.heap[w.heap.size]? = some (.deferred (some [])))
      (fun E pre W => W1.heap.size ≤ E ∧ ∃ c, Ix c E pre W ∧ W.heap[w.heap.size + 1]? = some (.loop (rec .done (some c))) ∧ W.heap[w.heap.size]? = some (.deferred (some [])))
      (fun E pre A B hs h => ⟨hs.1, hI E pre A B hs.2.1 (sub h), rec_keeps (by omega) hs.2.2.1 h, rec_keeps (by omega) hs.2.2.2 h⟩)
      (fun E pre A B hs h => by
        obtain ⟨hE, c, hc, hl, hk⟩ := hs
        exact ⟨hE, c, hIx c E pre A B hc (sub h), rec_keeps (by omega) hl h, rec_keeps (by omega) hk h⟩)
      (fun E B hE hB h => ⟨hE, h0 E B (by omega) hB (hO1.trans h), (h.block _ (by omega) (fun x => x)).trans hL1, (h.block _ (by omega) (fun x => x)).trans hK1⟩)
      ?_).mono ?_)
    · rintro E pre x args A0 W hE hEW ⟨_, hi0, hl0, hk0⟩ hA0 henc hpre
      have hl := (hA0.block _ (Array.getElem?_eq_some_iff.1 hl0).1 (fun x => x)).trans hl0
      have hk := (hA0.block _ (Array.getElem?_eq_some_iff.1 hk0).1 (fun x => x)).trans hk0
      have hi := hI E pre A0 W hi0 (hA0.mono fun _ _ h => h.elim)
      have hzA := hA0.size
      have hlt : w.heap.size + 1 < W.heap.size := (Array.getElem?_eq_some_iff.1 hl).1
      have hy := run_yield (P := P) (args := args) hl (by rw [hrec]; exact hps _ x _ _ henc)
      rw [hrec] at hy
      refine YieldAt.deep (m := n - 1 - 1) 1 ⟨fn, _, assign, body, hy, roundIn_of_wpIn hfn (hassign x args A0 W _ (hpre.subset (by simp)) (by omega) hA0 henc ?_)⟩
      clear hy
      intro a' Wa hoa hax
      have hla := (hoa.block _ hlt (fun x => x)).trans hl
      have hka := (hoa.block _ (by omega) (fun x => x)).trans hk
      have hlta : w.heap.size + 1 < Wa.heap.size := (Array.getElem?_eq_some_iff.1 hla).1
      refine ⟨_, run_beginRound hla (by rw [hrec]), ?_⟩
      have hl2 : (Wa.putObj (w.heap.size + 1) (.loop { rec .ready none with state := .busy })).heap[w.heap.size + 1]? = some (.loop { rec .ready none with state := .busy }) := World.putObj_heap_same hlta
      have hk2 : (Wa.putObj (w.heap.size + 1) (.loop { rec .ready none with state := .busy })).heap[w.heap.size]? = some (.deferred (some [])) := (World.putObj_heap_other (by omega)).trans hka
      have hz2 : (Wa.putObj (w.heap.size + 1) (.loop { rec .ready none with state := .busy })).heap.size = Wa.heap.size := by simp
      have hsz := hoa.size
      refine wpIn_mono (hbody E pre x a' A0 _ ⟨_, hl2⟩ (by omega) hEW hpre hi0 (Only.putObj ((hA0.trans hoa).mono fun _ _ h => h.elim) (.inl ⟨by omega, by omega⟩) _) (hAx _ x a' _ _ hax (Only.putObj (S := (· = w.heap.size + 1)) (Only.refl _ _) (.inl rfl) _))) ?_
      have fin : ∀ (jump : Option Code) (W3 : World), Only (Theirs w.heap.size E Kp) (Wa.putObj (w.heap.size + 1) (.loop { rec .ready none with state := .busy })) W3 →
          (Instr.endRound (w.heap.size + 1) jump).run P W3 = .ok (.bool jump.isNone) (W3.putObj (w.heap.size + 1) (.loop (rec (if jump.isNone then .ready else .done) jump))) ∧
          (W3.putObj (w.heap.size + 1) (.loop (rec (if jump.isNone then .ready else .done) jump))).heap[w.heap.size + 1]? = some (.loop (rec (if jump.isNone then .ready else .done) jump)) ∧
          (W3.putObj (w.heap.size + 1) (.loop (rec (if jump.isNone then .ready else .done) jump))).heap[w.heap.size]? = some (.deferred (some [])) ∧
          Only (Theirs W1.heap.size E Kp) W (W3.putObj (w.heap.size + 1) (.loop (rec (if jump.isNone then .ready else .done) jump))) := fun jump W3 hk3 => by
        have hl3 := (hk3.block (w.heap.size + 1) (by rw [World.putObj_size]; omega) (fun h => by rcases h with h | h <;> omega)).trans hl2
        have hd3 := (hk3.block w.heap.size (by rw [World.putObj_size]; omega) (fun h => by rcases h with h | h <;> omega)).trans hk2
        have hr := run_endRound (P := P) jump hl3
        refine ⟨by rw [hrec] at hr ⊢; exact hr, World.putObj_heap_same (Array.getElem?_eq_some_iff.1 hl3).1, (World.putObj_heap_other (by omega)).trans hd3, ?_⟩
        refine Only.putObj ?_ (.inl (.inl ⟨by omega, hKp (by omega)⟩)) _
        refine Only.step (S' := Theirs w.heap.size E Kp) (Only.putObj (hoa.mono fun _ _ h => h.elim) (.inl (.inl ⟨by omega, hKp (by omega)⟩)) _) hk3 (fun k _ h => ?_)
        rcases h with h | h
        · exact .inl ⟨by omega, h.2⟩
        · exact .inr h
      rintro e a3 W3 hp
      cases e with
      | normal =>
        obtain ⟨hk3, hi3⟩ := hp
        obtain ⟨hr, hl4, hk4, ho4⟩ := fin none W3 hk3
        exact ⟨_, _, hr, .inl ⟨rfl, ⟨hE, hI E _ _ _ hi3 (own _ (by omega) (by omega)), hl4, hk4⟩, ho4⟩⟩
      | ret =>
        obtain ⟨hk3, hi3⟩ := hp
        obtain ⟨hr, hl4, hk4, ho4⟩ := fin (some .ret) W3 hk3
        exact ⟨_, _, hr, .inr ⟨rfl, ⟨hE, .ret, hIx _ E _ _ _ hi3 (own _ (by omega) (by omega)), hl4, hk4⟩, ho4⟩⟩
      | exit id =>
        obtain ⟨hk3, hi3⟩ := hp
        obtain ⟨hr, hl4, hk4, ho4⟩ := fin (some (.exit id)) W3 hk3
        exact ⟨_, _, hr, .inr ⟨rfl, ⟨hE, .exit id, hIx _ E _ _ _ hi3 (own _ (by omega) (by omega)), hl4, hk4⟩, ho4⟩⟩
      | goto t =>
        obtain ⟨hk3, hi3⟩ := hp
        obtain ⟨hr, hl4, hk4, ho4⟩ := fin (some (.goto t)) W3 hk3
        exact ⟨_, _, hr, .inr ⟨rfl, ⟨hE, .goto t, hIx _ E _ _ _ hi3 (own _ (by omega) (by omega)), hl4, hk4⟩, ho4⟩⟩
      | panic ch => exact hp.elim
      | outgrown => exact hp.elim
    · rintro e W2 ⟨⟨v, rfl⟩, E, hE, (⟨_, hi, hl, hk⟩ | ⟨pre, hpre, _, c, hi, hl, hk⟩)⟩
      · exact ⟨none, _, by have := run_endLoop (P := P) hl (by rw [hrec]; simp); rw [hrec] at this; exact this, hdone E _ (by omega) (hI E _ _ _ hi (own _ (by omega) (by omega))) ((World.putObj_heap_other (by omega)).trans hk)⟩
      · exact ⟨some c, _, by have := run_endLoop (P := P) hl (by rw [hrec]; simp); rw [hrec] at this; exact this, hstop E c pre _ (by omega) hpre (hIx c E _ _ _ hi (own _ (by omega) (by omega))) ((World.putObj_heap_other (by omega)).trans hk)⟩

end Go.Proofs.Ytnonnencdhogiaa
