/-
  A region that draws its order: its head makes memory or only reads, its tail may hand elements to a round. With a fence.
-/
import Derived.Test.YtnonnencdhogiaaInRound
namespace Go.Proofs.Ytnonnencdhogiaa
open Go.RowKit

section
variable {F : Fence} {n : Nat} {P : Program} {ops : Array Oper} {md : Region.Mode}
theorem wpAnyIn_of_seq {Q' : Exit → Act → World → Prop} : ∀ (l : List Oper) (k : Nat) (listed : Array Bool) (a : Act) (w : World), (∀ j, l[j]? = ops[k + j]?) →
    Region.seqB md ops l.length k listed = true → wpListIn F n P ops Q' l a w → wpAnyIn F n P md ops Q' l.length listed a w
  | [], _, _, _, _, _, hB, h => ⟨by simpa [Region.seqB] using hB, h⟩
  | o :: l, k, listed, a, w, hl, hB, h => by
    have h0 : ops[k]? = some o := by simpa using (hl 0).symm
    simp only [List.length_cons, Region.seqB, Bool.and_eq_true, decide_eq_true_eq] at hB
    refine ⟨fun h1 => (by rw [hB.1] at h1; cases h1), fun i hi => ?_⟩
    rw [hB.1] at hi
    have hik : i = k := by simpa using hi
    subst hik
    have hw : wpOpIn F n P ops Q' i (wpListIn F n P ops Q' l) a w := by unfold wpOpIn; simp only [h0]; exact h
    exact wpOpIn_mono (fun a' w' h' => wpAnyIn_of_seq l (i + 1) _ a' w' (fun j => by have := hl (j + 1); simpa [Nat.add_assoc, Nat.add_comm 1 j] using this) hB.2 h') hw
end

section
variable {F : Fence} {n' : Nat} {P : Program} {ops : Array Oper} {W : World} {n : Nat} {a0 : Act} {T : Nat → Value → World → Prop} {al : Nat → Bool}
theorem head_anyIn {Q : Exit → Act → World → Prop} {l : List Oper} {a0 : Act} {W : World} (n m : Nat) (T : Nat → Value → World → Prop) (al : Nat → Bool) (hsz : a0.tmps.size = m) (hB : regionB l.toArray n m = true)
    (hT : ∀ i v w w', T i v w → Only NoneOf w w' → T i v w') (hal : ∀ i v w, al i = true → T i v w → ∃ b, v = .pointer (some ⟨b, 0, none⟩) ∧ b < w.heap.size)
    (hstep : ∀ i o, i < n → l[i]? = some o → ∀ a w, Aft W w → (∀ s, (∀ j, j < n → dstOf l.toArray j ≠ s) → a.tmps.getD s undef = a0.tmps.getD s undef) →
      (∀ j, j < n → Region.waitsFor .any l.toArray i j = true → T j (a.tmps.getD (dstOf l.toArray j) undef) w) → o.wp P a w (Left T al i o a w) Q)
    (hop : ∀ (o : Oper) (a : Act) (w : World) (K : Act → World → Prop), o ∈ l.take n → o.wp P a w K Q → o.wpIn F n' P a w K Q)
    (hend : ∀ (V : Nat → Value) w, Aft W w → (∀ i, i < n → T i (V i) w) → (∀ i j, i < n → j < n → i ≠ j → al i = true → al j = true → V i ≠ V j) → wpListIn F n' P l.toArray Q (l.drop n) (endFrame l.toArray n a0 V) w) :
    wpAnyIn F n' P .any l.toArray Q l.toArray.size (Array.replicate l.toArray.size false) a0 { W with drawn := W.drawn + 1 } := by
  simp only [regionB, Bool.and_eq_true, decide_eq_true_eq] at hB
  obtain ⟨⟨⟨⟨⟨hn, hs⟩, hc⟩, hb⟩, hd'⟩, hseq⟩ := hB
  have hd : ∀ i, i < n → dstOf l.toArray i < a0.tmps.size := fun i hi => by
    have := List.all_eq_true.1 hd' i (List.mem_range.2 hi)
    rw [hsz]
    simpa using this
  have hdl : (l.drop n).length = l.toArray.size - n := by simp
  have key : ∀ (f : Nat) (listed : Array Bool) (a : Act) (w : World), (List.range n).countP (fun i => !listed.getD i false) = f → HeadInv .any l.toArray n listed → HInv l.toArray n a0 W T al listed a w →
      wpAnyIn F n' P .any l.toArray Q (f + (l.toArray.size - n)) listed a w := by
    intro f
    induction f with
    | zero =>
      intro listed a w hcount hinv inv
      have hl : ∀ i, i < n → listed.getD i false = true := fun i hi => by
        have := List.countP_eq_zero.1 hcount i (List.mem_range.2 hi)
        simpa using this
      have he : listed = Array.ofFn fun i : Fin l.toArray.size => decide (i.1 < n) := by
        refine Array.ext (by simp [hinv.size]) fun i h1 h2 => ?_
        rw [Array.getElem_ofFn]
        by_cases hi : i < n
        · have := hl i hi
          simpa [h1, hi] using this
        · have := hinv.tail i (by omega) (by rw [← hinv.size]; exact h1)
          simpa [h1, hi] using this
      have hend' := hend (fun i => a.tmps.getD (dstOf l.toArray i) undef) w inv.aft (fun i hi => inv.held i hi (hl i hi)) (fun i j hi hj hij ha hb => inv.apart i j hi hj hij (hl i hi) (hl j hj) ha hb)
      rw [← inv.end hd] at hend'
      have := wpAnyIn_of_seq (md := .any) (Q' := Q) (l.drop n) n listed a w (fun j => by simp [List.getElem?_drop]) (by rw [hdl, he]; exact hseq) hend'
      rw [hdl] at this
      rw [Nat.zero_add]
      exact this
    | succ f ih =>
      intro listed a w hcount hinv inv
      rw [show f + 1 + (l.toArray.size - n) = (f + (l.toArray.size - n)) + 1 by omega]
      -- one that has not come up
      obtain ⟨i0, hi0, hu0⟩ : ∃ i, i < n ∧ listed.getD i false = false := by
        have : 0 < (List.range n).countP (fun i => !listed.getD i false) := by omega
        obtain ⟨i, hi, hu⟩ := List.countP_pos_iff.1 this
        exact ⟨i, List.mem_range.1 hi, by simpa using hu⟩
      have hus : ∀ i, i < n → listed.getD i false = false → listed.getD i true = false := fun i hi hu => getD_in (by rw [hinv.size]; omega) hu
      have htail := tail_waits hs hc hn hinv _ i0 rfl hi0 (hus i0 hi0 hu0)
      refine ⟨fun hr => ?_, fun i hi => ?_⟩
      · exfalso
        -- the least is ready
        have : ∀ k i, i < k → i < n → listed.getD i false = false → ∃ j, j ∈ Region.ready .any l.toArray listed := by
          intro k
          induction k with
          | zero => intro i hi; omega
          | succ k ihk =>
            intro i hik hi hu
            by_cases hlow : ∃ j, j < i ∧ listed.getD j false = false
            · obtain ⟨j, hj, huj⟩ := hlow
              exact ihk j (by omega) (by omega) huj
            · obtain ⟨o, ho, _, _, hback, _⟩ := headB_spec hb hi
              refine ⟨i, mem_ready.2 ⟨hus i hi hu, o, ho, fun e he hbe => ?_⟩⟩
              have hlt := hback e he hbe
              cases hle : listed.getD e.on false with
              | true => rfl
              | false => exact absurd ⟨e.on, hlt, hle⟩ hlow
        obtain ⟨j, hj⟩ := this (i0 + 1) i0 (by omega) hi0 hu0
        rw [hr] at hj
        cases hj
      · have hin : i < n := by
          rcases Nat.lt_or_ge i n with h | h
          · exact h
          · exact absurd hi (htail i h)
        obtain ⟨hun, o, ho, hall⟩ := mem_ready.1 hi
        obtain ⟨o', ho', hgd, _, _, _⟩ := headB_spec hb hin
        obtain rfl : o' = o := Option.some.inj (ho'.symm.trans ho)
        have hw := hstep i o' hin (by simpa using ho) a w inv.aft (fun s hs => inv.other s fun j hj _ => hs j hj) (fun j hj hwt => by
          obtain ⟨oj, hoj, e, he, hbe, hon⟩ := Region.waitsFor_spec hwt
          obtain rfl : oj = o' := Option.some.inj (hoj.symm.trans ho)
          have := hall e he hbe
          rw [hon] at this
          exact inv.held j hj this)
        have hwp : wpOpIn F n' P l.toArray Q i (Left T al i o' a w) a w := by
          unfold wpOpIn
          simp only [ho]
          rw [if_pos (by unfold Region.wanted; rw [hgd])]
          exact hop o' a w _ (by
            have hlo : l[i]? = some o' := by simpa using ho
            exact List.mem_of_getElem? (i := i) (by rw [List.getElem?_take_of_lt hin]; exact hlo)) hw
        refine wpOpIn_mono (fun a' w' h' => ih _ a' w' ?_ (hinv.set hi hin) (inv.put hb hd hT hal hin ho hun h')) hwp
        have hself : (listed.setIfInBounds i true).getD i false = true := by
          have : i < listed.size := by rw [hinv.size]; omega
          simp [this]
        have := countP_less (fun i => !listed.getD i false) (fun j => !(listed.setIfInBounds i true).getD j false) i (List.range n) List.nodup_range (List.mem_range.2 hin) (by rw [getD_both hun]; rfl) (by rw [hself]; rfl) (fun j hj => by rw [getD_set_ne false (Ne.symm hj)])
        omega
  have h0 := key n (Array.replicate l.toArray.size false) a0 { W with drawn := W.drawn + 1 } (by
      rw [List.countP_eq_length.2 (fun i _ => by rw [getD_replicate_false]; rfl)]
      simp)
    ⟨by simp, fun j oj _ hl => (by rw [getD_replicate_false] at hl; cases hl), fun t _ ht => getD_in (by simpa using ht) (getD_replicate_false _ _)⟩
    ⟨(Only.refl _ _).drew, rfl, rfl, fun _ _ => rfl, fun i _ hl => (by rw [getD_replicate_false] at hl; cases hl), fun i j _ _ _ hl => (by rw [getD_replicate_false] at hl; cases hl)⟩
  rw [show n + (l.toArray.size - n) = l.toArray.size by omega] at h0
  exact h0


theorem wpIn_of_wp_wide {m : Nat} {Q : Exit → Act → World → Prop} {o : Oper} {a : Act} {w : World} {K : Act → World → Prop} (h : o.wp P a w K Q) : o.wpIn Fence.wide m P a w K Q := by
  unfold Oper.wp at h
  unfold Oper.wpIn
  refine ⟨fun _ _ => trivial, ?_⟩
  rw [show Oper.semAt Fence.wide.round a.eval o = execOp a.eval o from rfl]
  generalize (execOp a.eval o).run P w = res at *
  cases res with
  | ok x w' =>
    cases x <;> simp only [Oper.upon] at h <;> simp only [Oper.uponIn]
    case value u => exact h
    case skip => exact h
    case defer d => exact h
    case enter f args => exact ⟨fun hd => (by cases hd), callsIn_wide.2 h⟩
    case row f args => exact ⟨fun hd => (by cases hd), fun c cs _ => let ⟨v, w', hr, s⟩ := h c cs; ⟨v, w', hr, stepsIn_wide.2 s⟩⟩
  | halt x w' => cases x <;> simp only [Oper.upon] at h <;> simp only [Oper.uponIn]; exact h

/-- The head of a region that draws its order; the tail with the fence's walk. -/
theorem wpIn_region_headT {id : Nat} {Q : Exit → Act → World → Prop} {l : List Oper} {a0 : Act} {W : World} (n m : Nat) (T : Nat → Value → World → Prop) (al : Nat → Bool) (hsz : a0.tmps.size = m) (hm : P.follows .mixedOrders = true) (hB : regionB l.toArray n m = true)
    (hT : ∀ i v w w', T i v w → Only NoneOf w w' → T i v w') (hal : ∀ i v w, al i = true → T i v w → ∃ b, v = .pointer (some ⟨b, 0, none⟩) ∧ b < w.heap.size)
    (hstep : ∀ i o, i < n → l[i]? = some o → ∀ a w, Aft W w → (∀ s, (∀ j, j < n → dstOf l.toArray j ≠ s) → a.tmps.getD s undef = a0.tmps.getD s undef) →
      (∀ j, j < n → Region.waitsFor .any l.toArray i j = true → T j (a.tmps.getD (dstOf l.toArray j) undef) w) → o.wp P a w (Left T al i o a w) Q)
    (hend : ∀ (V : Nat → Value) w, Aft W w → (∀ i, i < n → T i (V i) w) → (∀ i j, i < n → j < n → i ≠ j → al i = true → al j = true → V i ≠ V j) → wpListIn Fence.wide n' P l.toArray Q (l.drop n) (endFrame l.toArray n a0 V) w) :
    (Code.region id l.toArray true).wpIn Fence.wide n' P Q a0 W :=
  wpIn_region_any hm (head_anyIn n m T al hsz hB hT hal hstep (fun _ _ _ _ _ h => wpIn_of_wp_wide h) hend)

/-- The same in a round. -/
theorem wpIn_region_headR {id r : Nat} {Q : Exit → Act → World → Prop} {l : List Oper} {a0 : Act} {W : World} (n m : Nat) (T : Nat → Value → World → Prop) (al : Nat → Bool) (hsz : a0.tmps.size = m) (hm : P.follows .mixedOrders = true) (hB : regionB l.toArray n m = true)
    (hnd : noDefers (l.take n) = true)
    (hT : ∀ i v w w', T i v w → Only NoneOf w w' → T i v w') (hal : ∀ i v w, al i = true → T i v w → ∃ b, v = .pointer (some ⟨b, 0, none⟩) ∧ b < w.heap.size)
    (hstep : ∀ i o, i < n → l[i]? = some o → ∀ a w, Aft W w → (∀ s, (∀ j, j < n → dstOf l.toArray j ≠ s) → a.tmps.getD s undef = a0.tmps.getD s undef) →
      (∀ j, j < n → Region.waitsFor .any l.toArray i j = true → T j (a.tmps.getD (dstOf l.toArray j) undef) w) → o.wp P a w (Left T al i o a w) Q)
    (hend : ∀ (V : Nat → Value) w, Aft W w → (∀ i, i < n → T i (V i) w) → (∀ i j, i < n → j < n → i ≠ j → al i = true → al j = true → V i ≠ V j) → wpListIn (Fence.wide.inRound r) n' P l.toArray Q (l.drop n) (endFrame l.toArray n a0 V) w) :
    (Code.region id l.toArray true).wpIn (Fence.wide.inRound r) n' P Q a0 W :=
  wpIn_region_any hm (head_anyIn n m T al hsz hB hT hal hstep (fun _ _ _ _ ho h => wpIn_of_wp_round (noDefers_spec hnd ho) h) hend)
end
end Go.Proofs.Ytnonnencdhogiaa
