/-
  A region in a round of a range over a function: what holds of it outside a round holds of it there, where no operation defers.
-/
import Derived.Test.YtnonnencdhogiaaHead1
import Derived.RangeFuncCalls
import Derived.TacticsInMore
import Derived.OrdersIn
namespace Go.Proofs.Ytnonnencdhogiaa
open Go.RowKit

def noDefers (l : List Oper) : Bool := l.all fun o => match o.op with | .defer _ => false | _ => true

section
variable {P : Program} {ops : Array Oper} {n r : Nat} {Q : Exit → Act → World → Prop} {md : Region.Mode}

theorem noDefers_spec {l : List Oper} (h : noDefers l = true) {o : Oper} (ho : o ∈ l) : ∀ c, o.op ≠ .defer c := by
  intro c hc
  have := List.all_eq_true.1 h o ho
  rw [hc] at this
  cases this

theorem rowsIn_round {row : String} {args : Array Value} {w : World} {R : Value → World → Prop} (h : Rows P row args w R) : RowsIn (Fence.wide.inRound r) n P row args w R :=
  fun c cs _ => let ⟨v, w', hr, s⟩ := h c cs; ⟨v, w', hr, by rw [fenced_inRound]; exact stepsIn_wide.2 s⟩

theorem wpIn_of_wp_round {o : Oper} {a : Act} {w : World} {K : Act → World → Prop} (hnd : ∀ c, o.op ≠ .defer c) (h : o.wp P a w K Q) : o.wpIn (Fence.wide.inRound r) n P a w K Q := by
  unfold Oper.wp at h
  unfold Oper.wpIn
  refine ⟨fun _ _ => trivial, ?_⟩
  rw [Oper.semAt_eq _ _ _ hnd]
  generalize (execOp a.eval o).run P w = res at *
  cases res with
  | ok x w' =>
    cases x <;> simp only [Oper.upon] at h <;> simp only [Oper.uponIn]
    case value u => exact h
    case skip => exact h
    case defer d => exact h
    case enter f args => exact ⟨fun hd => (by cases hd), (callsIn_wide.2 h).inRound r⟩
    case row f args => exact ⟨fun hd => (by cases hd), rowsIn_round h⟩
  | halt x w' => cases x <;> simp only [Oper.upon] at h <;> simp only [Oper.uponIn]; exact h

theorem wpListIn_of_wpList : ∀ {l : List Oper} {a : Act} {w : World} (_ : noDefers l = true) (_ : ¬ LetsOut Q) (_ : wpList P ops Q l a w), wpListIn (Fence.wide.inRound r) n P ops Q l a w
  | [], _, _, _, _, h => h
  | o :: l, a, w, hnd, hlo, h => by
    have hl : noDefers l = true := by
      unfold noDefers at hnd ⊢
      rw [List.all_cons, Bool.and_eq_true] at hnd
      exact hnd.2
    unfold wpListIn
    unfold wpList at h
    split
    · rename_i hw
      rw [if_pos hw] at h
      rcases h with h | h
      · exact wpIn_of_wp_round (noDefers_spec hnd (by simp)) (Oper.wp_mono (fun a w h => wpListIn_of_wpList hl hlo h) h)
      · exact absurd h.2 hlo
    · rename_i hw
      rw [if_neg hw] at h
      exact ⟨fun _ _ => trivial, wpListIn_of_wpList hl hlo h⟩

theorem wpIn_region_of_list {id : Nat} {l : List Oper} {a : Act} {w : World} (hnd : noDefers l = true) (hlo : ¬ LetsOut Q) (h : wpList P l.toArray Q l a w) : (Code.region id l.toArray false).wpIn (Fence.wide.inRound r) n P Q a w :=
  wpIn_region_lit (wpListIn_of_wpList hnd hlo h)

theorem wpOpIn_of_wpOp {i : Nat} {a : Act} {w : World} {K : Act → World → Prop} (hnd : noDefers ops.toList = true) (hlo : ¬ LetsOut Q) (h : wpOp P ops Q i K a w) : wpOpIn (Fence.wide.inRound r) n P ops Q i K a w := by
  unfold wpOp at h
  unfold wpOpIn
  split
  · rename_i ho; simp only [ho] at h; exact h
  · rename_i o ho
    simp only [ho] at h
    split
    · rename_i hw
      rw [if_pos hw] at h
      rcases h with h | h
      · exact wpIn_of_wp_round (noDefers_spec hnd (by rw [Array.mem_toList_iff]; exact Array.mem_of_getElem? ho)) h
      · exact absurd h.2 hlo
    · rename_i hw
      rw [if_neg hw] at h
      exact ⟨fun _ _ => trivial, h⟩

theorem wpAnyIn_of_wpAny (hnd : noDefers ops.toList = true) (hlo : ¬ LetsOut Q) : ∀ (fuel : Nat) (listed : Array Bool) (a : Act) (w : World), wpAny P md ops Q fuel listed a w → wpAnyIn (Fence.wide.inRound r) n P md ops Q fuel listed a w
  | 0, _, _, _, h => h
  | fuel + 1, _, _, _, h => ⟨h.1, fun i hi => wpOpIn_of_wpOp hnd hlo (wpOp_mono (fun a w h => wpAnyIn_of_wpAny hnd hlo fuel _ a w h) (h.2 i hi))⟩

/-- A region that draws its order, in a round. -/
theorem wpIn_region_head {id : Nat} {l : List Oper} {a0 : Act} {W : World} (k m : Nat) (T : Nat → Value → World → Prop) (al : Nat → Bool) (hsz : a0.tmps.size = m) (hm : P.follows .mixedOrders = true) (hB : regionB l.toArray k m = true)
    (hnd : noDefers l = true) (hlo : ¬ LetsOut Q)
    (hT : ∀ i v w w', T i v w → Only NoneOf w w' → T i v w') (hal : ∀ i v w, al i = true → T i v w → ∃ b, v = .pointer (some ⟨b, 0, none⟩) ∧ b < w.heap.size)
    (hstep : ∀ i o, i < k → l[i]? = some o → ∀ a w, Aft W w → (∀ s, (∀ j, j < k → dstOf l.toArray j ≠ s) → a.tmps.getD s undef = a0.tmps.getD s undef) →
      (∀ j, j < k → Region.waitsFor .any l.toArray i j = true → T j (a.tmps.getD (dstOf l.toArray j) undef) w) → o.wp P a w (Left T al i o a w) Q)
    (hend : ∀ (V : Nat → Value) w, Aft W w → (∀ i, i < k → T i (V i) w) → (∀ i j, i < k → j < k → i ≠ j → al i = true → al j = true → V i ≠ V j) → wpList P l.toArray Q (l.drop k) (endFrame l.toArray k a0 V) w) :
    (Code.region id l.toArray true).wpIn (Fence.wide.inRound r) n P Q a0 W :=
  wpIn_region_any hm (wpAnyIn_of_wpAny hnd hlo _ _ _ _ (head_any k m T al hsz hB hT hal hstep hend))
end
end Go.Proofs.Ytnonnencdhogiaa
