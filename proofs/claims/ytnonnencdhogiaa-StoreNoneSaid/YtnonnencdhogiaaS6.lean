/-
  Layer 14: what stays of a store, and a store with a version more.
-/
import Derived.Test.YtnonnencdhogiaaS5
namespace Go.Proofs.Ytnonnencdhogiaa
open Go.RowKit
open Cb (ChIs Foot)

theorem map_only {w w' : World} {S : Nat → Prop} {m n : Nat} {D : MD} (h : w.ownsMap Try.prog 9 RP m n D) (ho : Only S w w') (hS : ¬ S m) : w'.ownsMap Try.prog 9 RP m n D := by
  have hlt := h.lt
  obtain ⟨es, clock, hb, r⟩ := h
  exact ⟨es, clock, (ho.block m hlt hS).trans hb, r⟩

theorem Holds.turn {w w' : World} {S T T' : Nat → Prop} {l : Lk} {x : Ver} (h : Holds w T l x) (ho : Only S w w') (hS : ∀ g, g < w.heap.size → ¬ T g → ¬ S g) (hT : ∀ g, g < w.heap.size → ¬ T g → ¬ T' g) : Holds w' T' l x := by
  obtain ⟨h1, h2, A, c, hval, hby, hap⟩ := h
  refine ⟨h1, h2, A, c, hval, ?_, fun hne g off hA => ?_⟩
  · intro i b hb
    obtain ⟨g, off, hA, hg, hc⟩ := hby i b hb
    have hne : x.bs ≠ [] := fun e => by rw [e] at hb; simp at hb
    exact ⟨g, off, hA, Nat.lt_of_lt_of_le hg ho.size, (ho.cell (p := ⟨g, off + i, none⟩) hg (hS g hg (hap hne g off hA))).trans hc⟩
  · have h0 : x.bs[0]? = some (x.bs[0]'(List.length_pos_iff.2 hne)) := List.getElem?_eq_getElem _
    obtain ⟨g', off', hA', hg', _⟩ := hby 0 _ h0
    rw [hA] at hA'
    simp only [Option.some.injEq, Addr.mk.injEq, and_true] at hA'
    obtain ⟨rfl, rfl⟩ := hA'
    exact hT g hg' (hap hne g off hA)

theorem StIs.ter_lt {w : World} {s m n : Nat} {D : MD} {C : ByteArray → Option Ch} {live : Int} (h : StIs w s m n D C live) {k : Nat} (hk : Ter s m C k) : k < w.heap.size := by
  rcases hk with rfl | rfl | ⟨key, c, hc, hf⟩
  · exact h.blk.lt
  · exact h.map.lt
  · exact (h.chains key c hc).foot_lt hf

theorem Sto.keep {w w' : World} {s m n : Nat} {D : MD} {C : ByteArray → Option Ch} {live : Int} {V : ByteArray → List Ver} {U : Nat → Prop} (h : Sto w s m n D C live V U) (ho : Only NoneOf w w') : Sto w' s m n D C live V U :=
  ⟨⟨h.is.blk.only ho (fun h => h), map_only h.is.map ho (fun h => h), h.is.keys, fun key c hc => (h.is.chains key c hc).keep ho, h.is.apart, h.is.far, h.is.sm⟩,
    h.len, fun key c hc i l x hl hx => (h.ver key c hc i l x hl hx).turn ho (fun _ _ _ h => h) (fun _ _ h => h), h.nov, h.has⟩

/-- one key's entry anew -/
def upd {α : Type} (C : ByteArray → α) (key : ByteArray) (c : α) : ByteArray → α := fun k => if k = key then c else C k
theorem upd_same {α : Type} (C : ByteArray → α) (key : ByteArray) (c : α) : upd C key c key = c := if_pos rfl
theorem upd_other {α : Type} (C : ByteArray → α) {key k : ByteArray} (c : α) (h : k ≠ key) : upd C key c k = C k := if_neg h

/-- a key's links -/
def linksOf : Option Ch → List Lk
  | none => []
  | some c => c.2.2

theorem string_ne {a b : ByteArray} (h : a ≠ b) : (Lit.string a.data.toList) ≠ .string b.data.toList := fun e => by
  simp only [Lit.string.injEq] at e
  apply h
  apply ByteArray.ext
  exact Array.ext' e

theorem Sto.add {W w : World} {s m n : Nat} {D : MD} {C : ByteArray → Option Ch} {live : Int} {V : ByteArray → List Ver} {U : Nat → Prop} {key : ByteArray} {p : Nat} {v' : Value} {l : Lk} {x : Ver}
    (h : Sto W s m n D C live V U) (ho : Only (fun k => k = m ∨ ∃ c, C key = some c ∧ Foot c.1 c.2.1 k) W w) (hA : ChIs w p v' (linksOf (C key) ++ [l])) (hfoot : ∀ k, Foot p v' k → (∃ c, C key = some c ∧ Foot c.1 c.2.1 k) ∨ W.heap.size ≤ k)
    (hown : w.ownsMap Try.prog 9 RP m (n + 1) (D.put (.string key.data.toList) (.lit (.int .i64 p)))) (hx : Holds w (TerU s m (upd C key (some (p, v', linksOf (C key) ++ [l]))) U) l x) :
    Sto w s m (n + 1) (D.put (.string key.data.toList) (.lit (.int .i64 p))) (upd C key (some (p, v', linksOf (C key) ++ [l]))) live (upd V key (V key ++ [x])) U := by
  obtain ⟨c', hc'⟩ : ∃ c', c' = ((p, v', linksOf (C key) ++ [l]) : Ch) := ⟨_, rfl⟩
  have hsF : ∀ c, C key = some c → ∀ k, Foot c.1 c.2.1 k → k ≠ s ∧ k ≠ m := fun c hc k hk => h.is.far key c hc k hk
  have hslt := h.is.blk.lt
  have hmlt := h.is.map.lt
  have hfar : ∀ k, Foot p v' k → k ≠ s ∧ k ≠ m := fun k hk => by
    rcases hfoot k hk with ⟨c, hc, hf⟩ | hk
    · exact hsF c hc k hf
    · exact ⟨by omega, by omega⟩
  have hoth : ∀ k2 c2, k2 ≠ key → C k2 = some c2 → ∀ k, Foot c2.1 c2.2.1 k → ¬ (k = m ∨ ∃ c, C key = some c ∧ Foot c.1 c.2.1 k) := fun k2 c2 hne hc2 k hk h' => by
    rcases h' with rfl | ⟨c, hc, hf⟩
    · exact (h.is.far k2 c2 hc2 _ hk).2 rfl
    · exact h.is.apart key k2 c c2 hc hc2 (Ne.symm hne) k hf hk
  have happ : ∀ k2 c2, k2 ≠ key → C k2 = some c2 → ∀ k, Foot p v' k → ¬ Foot c2.1 c2.2.1 k := fun k2 c2 hne hc2 k hk h2 => by
    rcases hfoot k hk with ⟨c, hc, hf⟩ | hge
    · exact h.is.apart key k2 c c2 hc hc2 (Ne.symm hne) k hf h2
    · have := (h.is.chains k2 c2 hc2).foot_lt h2
      omega
  have hT : ∀ g, g < W.heap.size → ¬ TerU s m C U g → ¬ TerU s m (upd C key (some (p, v', linksOf (C key) ++ [l]))) U g := fun g hg hn' ht => by
    have hn : ¬ Ter s m C g := fun h => hn' (.inl h)
    rcases ht with (rfl | rfl | ⟨k2, c2, hc2, hf⟩) | hu
    case inr => exact hn' (.inr hu)
    · exact hn (.inl rfl)
    · exact hn (.inr (.inl rfl))
    · by_cases e : k2 = key
      · rw [e, upd_same] at hc2
        cases hc2
        rcases hfoot g hf with ⟨c, hc, hf'⟩ | hge
        · exact hn (.inr (.inr ⟨key, c, hc, hf'⟩))
        · omega
      · rw [upd_other _ _ e] at hc2
        exact hn (.inr (.inr ⟨k2, c2, hc2, hf⟩))
  have hS : ∀ g, g < W.heap.size → ¬ TerU s m C U g → ¬ (g = m ∨ ∃ c, C key = some c ∧ Foot c.1 c.2.1 g) := fun g _ hn' h' => by
    have hn : ¬ Ter s m C g := fun h => hn' (.inl h)
    rcases h' with rfl | ⟨c, hc, hf⟩
    · exact hn (.inr (.inl rfl))
    · exact hn (.inr (.inr ⟨key, c, hc, hf⟩))
  refine ⟨⟨h.is.blk.only ho ?_, hown, fun k zd hk => ?_, fun k c hc => ?_, fun k k2 c c2 hc hc2 hne f hf hf2 => ?_, fun k c hc f hf => ?_, h.is.sm⟩, fun k c hc => ?_, fun k c hc i l2 x2 hl2 hx2 => ?_, fun k hc => ?_, fun k c hc => ?_⟩
  · rintro (e | ⟨c, hc, hf⟩)
    · exact h.is.sm e
    · exact (hsF c hc s hf).1 rfl
  · by_cases e : k = key
    · subst e
      rw [upd_same, Go.Maps.atKey_put_same (k := .string k.data.toList) (by obtain ⟨es, clock, _, _, _, hD⟩ := h.is.map; exact ⟨_, hD⟩) trivial]
    · rw [upd_other _ _ e, Go.Maps.atKey_put_other (string_ne e)]
      exact h.is.keys k zd hk
  · by_cases e : k = key
    · rw [e, upd_same] at hc
      cases hc
      exact hA
    · rw [upd_other _ _ e] at hc
      exact (h.is.chains k c hc).only ho (hoth k c e hc)
  · by_cases e : k = key
    · by_cases e2 : k2 = key
      · exact hne (e.trans e2.symm)
      · rw [e, upd_same] at hc
        rw [upd_other _ _ e2] at hc2
        cases hc
        exact happ k2 c2 e2 hc2 f hf hf2
    · rw [upd_other _ _ e] at hc
      by_cases e2 : k2 = key
      · rw [e2, upd_same] at hc2
        cases hc2
        exact happ k c e hc f hf2 hf
      · rw [upd_other _ _ e2] at hc2
        exact h.is.apart k k2 c c2 hc hc2 hne f hf hf2
  · by_cases e : k = key
    · rw [e, upd_same] at hc
      cases hc
      exact hfar f hf
    · rw [upd_other _ _ e] at hc
      exact h.is.far k c hc f hf
  · by_cases e : k = key
    · rw [e, upd_same] at hc
      cases hc
      rw [e, upd_same]
      have : (linksOf (C key)).length = (V key).length := by
        cases hk : C key with
        | none => rw [h.nov key hk]; rfl
        | some c => exact h.len key c hk
      simp [this]
    · rw [upd_other _ _ e] at hc ⊢
      exact h.len k c hc
  · by_cases e : k = key
    · rw [e, upd_same] at hc
      cases hc
      rw [e, upd_same] at hx2
      have hll : (linksOf (C key)).length = (V key).length := by
        cases hk : C key with
        | none => rw [h.nov key hk]; rfl
        | some c => exact h.len key c hk
      by_cases hi : i < (V key).length
      · have hl2' : (linksOf (C key) ++ [l])[i]? = some l2 := hl2
        rw [List.getElem?_append_left (by omega)] at hl2' hx2
        cases hk : C key with
        | none => rw [hk] at hl2'; simp [linksOf] at hl2'
        | some c =>
          rw [hk] at hl2'
          have := (h.ver key c hk i l2 x2 hl2' hx2).turn ho hS hT
          rw [hk] at this
          exact this
      · have hl2' : (linksOf (C key) ++ [l])[i]? = some l2 := hl2
        have hil : i = (V key).length := by
          have := (List.getElem?_eq_some_iff.1 hx2).1
          simp at this
          omega
        rw [hil, List.getElem?_append_right (Nat.le_refl _), Nat.sub_self] at hx2
        rw [hil, ← hll, List.getElem?_append_right (Nat.le_refl _), Nat.sub_self] at hl2'
        simp at hx2 hl2'
        rw [← hx2, ← hl2']
        exact hx
    · rw [upd_other _ _ e] at hc hx2
      exact (h.ver k c hc i l2 x2 hl2 hx2).turn ho hS hT
  · by_cases e : k = key
    · rw [e, upd_same] at hc
      cases hc
    · rw [upd_other _ _ e] at hc ⊢
      exact h.nov k hc
  · by_cases e : k = key
    · rw [e, upd_same]
      simp
    · rw [upd_other _ _ e] at hc ⊢
      exact h.has k c hc

end Go.Proofs.Ytnonnencdhogiaa
