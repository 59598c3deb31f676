/-
  Layer 14: a store with one chain's older versions gone.
-/
import Derived.Test.YtnonnencdhogiaaS9
namespace Go.Proofs.Ytnonnencdhogiaa
open Go.RowKit
open Cb (ChIs Foot pruned)

/-- what stays of a key's versions at a horizon -/
def keptV (xs : List Ver) (hz : Int) : List Ver := xs.drop ((xs.takeWhile fun x => decide (x.st ≤ hz)).length - 1)

theorem Sto.prune {W w : World} {s m n : Nat} {D : MD} {C : ByteArray → Option Ch} {live : Int} {V : ByteArray → List Ver} {U : Nat → Prop} {key : ByteArray} {c : Ch} {v' : Value} {hz : Int}
    (h : Sto W s m n D C live V U) (hc : C key = some c) (ho : Only (Foot c.1 c.2.1) W w) (hA : ChIs w c.1 v' (pruned c.2.2 hz)) (hfoot : ∀ k, Foot c.1 v' k → Foot c.1 c.2.1 k ∨ W.heap.size ≤ k) :
    Sto w s m n D (upd C key (some (c.1, v', pruned c.2.2 hz))) live (upd V key (keptV (V key) hz)) U := by
  have hsF := h.is.far key c hc
  have hslt := h.is.blk.lt
  have hmlt := h.is.map.lt
  have hlen := h.len key c hc
  have hcnt := cnt_ver c.2.2 (V key) hz hlen (fun i l x h1 h2 => (h.ver key c hc i l x h1 h2).1)
  have hle := cnt_le c.2.2 hz
  have hpos : 0 < (V key).length := List.length_pos_iff.2 (h.has key c hc)
  have hfar : ∀ k, Foot c.1 v' k → k ≠ s ∧ k ≠ m := fun k hk => by
    rcases hfoot k hk with hf | hk
    · exact hsF k hf
    · exact ⟨by omega, by omega⟩
  have hoth : ∀ k2 c2, k2 ≠ key → C k2 = some c2 → ∀ k, Foot c2.1 c2.2.1 k → ¬ Foot c.1 c.2.1 k := fun k2 c2 hne hc2 k hk hf => h.is.apart key k2 c c2 hc hc2 (Ne.symm hne) k hf hk
  have happ : ∀ k2 c2, k2 ≠ key → C k2 = some c2 → ∀ k, Foot c.1 v' k → ¬ Foot c2.1 c2.2.1 k := fun k2 c2 hne hc2 k hk h2 => by
    rcases hfoot k hk with hf | hge
    · exact h.is.apart key k2 c c2 hc hc2 (Ne.symm hne) k hf h2
    · have := (h.is.chains k2 c2 hc2).foot_lt h2
      omega
  have hT : ∀ g, g < W.heap.size → ¬ TerU s m C U g → ¬ TerU s m (upd C key (some (c.1, v', pruned c.2.2 hz))) U g := fun g hg hn' ht => by
    have hn : ¬ Ter s m C g := fun h => hn' (.inl h)
    rcases ht with (rfl | rfl | ⟨k2, c2, hc2, hf⟩) | hu
    case inr => exact hn' (.inr hu)
    · exact hn (.inl rfl)
    · exact hn (.inr (.inl rfl))
    · by_cases e : k2 = key
      · rw [e, upd_same] at hc2
        cases hc2
        rcases hfoot g hf with hf' | hge
        · exact hn (.inr (.inr ⟨key, c, hc, hf'⟩))
        · omega
      · rw [upd_other _ _ e] at hc2
        exact hn (.inr (.inr ⟨k2, c2, hc2, hf⟩))
  have hS : ∀ g, g < W.heap.size → ¬ TerU s m C U g → ¬ Foot c.1 c.2.1 g := fun g _ hn hf => hn (.inl (.inr (.inr ⟨key, c, hc, hf⟩)))
  refine ⟨⟨h.is.blk.only ho (fun hf => (hsF _ hf).1 rfl), map_only h.is.map ho (fun hf => (hsF _ hf).2 rfl), fun k zd hk => ?_, fun k c2 hc2 => ?_, fun k k2 c1 c2 hc1 hc2 hne f hf hf2 => ?_, fun k c2 hc2 f hf => ?_, h.is.sm⟩, fun k c2 hc2 => ?_, fun k c2 hc2 i l2 x2 hl2 hx2 => ?_, fun k hc2 => ?_, fun k c2 hc2 => ?_⟩
  · have := h.is.keys k zd hk
    by_cases e : k = key
    · rw [e] at this ⊢
      rw [this, hc, upd_same]
    · rw [upd_other _ _ e]
      exact this
  · by_cases e : k = key
    · rw [e, upd_same] at hc2
      cases hc2
      exact hA
    · rw [upd_other _ _ e] at hc2
      exact (h.is.chains k c2 hc2).only ho (hoth k c2 e hc2)
  · by_cases e : k = key
    · by_cases e2 : k2 = key
      · exact hne (e.trans e2.symm)
      · rw [e, upd_same] at hc1
        rw [upd_other _ _ e2] at hc2
        cases hc1
        exact happ k2 c2 e2 hc2 f hf hf2
    · rw [upd_other _ _ e] at hc1
      by_cases e2 : k2 = key
      · rw [e2, upd_same] at hc2
        cases hc2
        exact happ k c1 e hc1 f hf2 hf
      · rw [upd_other _ _ e2] at hc2
        exact h.is.apart k k2 c1 c2 hc1 hc2 hne f hf hf2
  · by_cases e : k = key
    · rw [e, upd_same] at hc2
      cases hc2
      exact hfar f hf
    · rw [upd_other _ _ e] at hc2
      exact h.is.far k c2 hc2 f hf
  · by_cases e : k = key
    · rw [e, upd_same] at hc2
      cases hc2
      rw [e, upd_same]
      show (pruned c.2.2 hz).length = (keptV (V key) hz).length
      unfold pruned keptV
      rw [List.length_drop, List.length_drop, hlen, hcnt]
    · rw [upd_other _ _ e] at hc2 ⊢
      exact h.len k c2 hc2
  · by_cases e : k = key
    · rw [e, upd_same] at hc2
      cases hc2
      rw [e, upd_same] at hx2
      have hl2' : (pruned c.2.2 hz)[i]? = some l2 := hl2
      unfold pruned at hl2'
      unfold keptV at hx2
      rw [List.getElem?_drop, hcnt] at hl2'
      rw [List.getElem?_drop] at hx2
      exact (h.ver key c hc _ l2 x2 hl2' hx2).turn ho hS hT
    · rw [upd_other _ _ e] at hc2 hx2
      exact (h.ver k c2 hc2 i l2 x2 hl2 hx2).turn ho hS hT
  · by_cases e : k = key
    · rw [e, upd_same] at hc2
      cases hc2
    · rw [upd_other _ _ e] at hc2 ⊢
      exact h.nov k hc2
  · by_cases e : k = key
    · rw [e, upd_same]
      unfold keptV
      intro he
      have := congrArg List.length he
      rw [List.length_drop] at this
      rw [hcnt, hlen] at hle
      simp at this
      omega
    · rw [upd_other _ _ e] at hc2 ⊢
      exact h.has k c2 hc2

/-- Prune of a chain that is there -/
theorem prune_is (w : World) (p : Nat) (v : Value) (ls : List Lk) (hz : Int) (h : ChIs w p v ls) : Calls Try.prog 42 #[.pointer (some ⟨p, 0, none⟩), .int .i64 hz] w (Cb.PrunePost p v ls hz w) := by
  by_cases hc : cnt ls hz ≤ 1
  · exact Cb.prune_few w p v ls hz h hc
  · exact Cb.prune_many w p v ls hz (cnt ls hz - 2) h (by omega)

end Go.Proofs.Ytnonnencdhogiaa
