/-
  Layer 4: Decode.
-/
import Derived.Test.YtimoenpfnaaehaaOC
namespace Go.Proofs.Ytimoenpfnaaehaa
open Go.RowKit

/-- All items that a text says, clean; none: it is none of theirs. -/
def unall : Nat → List UInt8 → Option (List It)
  | _, [] => some []
  | 0, _ :: _ => none
  | n + 1, c :: l => match unitem c l with
    | none => none
    | some (x, r) => (unall n r).map (x.clean :: ·)

theorem untextL_len {l : List UInt8} : ∀ {t r : List UInt8}, untextL l = some (t, r) → t.length + r.length + 2 ≤ l.length := by
  induction h : l.length using Nat.strongRecOn generalizing l with
  | _ n ih =>
    intro t r ht
    cases l with
    | nil => cases ht
    | cons c l =>
      by_cases hc : c = 0
      · subst hc
        cases l with
        | nil => cases ht
        | cons d l' =>
          by_cases h1 : d = 1
          · subst h1
            simp [untextL] at ht
            obtain ⟨rfl, rfl⟩ := ht
            simp at h ⊢
            omega
          · by_cases h2 : d = 255
            · subst h2
              simp [untextL] at ht
              obtain ⟨t', hu, rfl⟩ := ht
              have := ih l'.length (by simp at h; omega) rfl hu
              simp at h ⊢
              omega
            · simp [untextL, h1, h2] at ht
      · rw [untextL_cons hc] at ht
        cases hu : untextL l with
        | none => rw [hu] at ht; cases ht
        | some x =>
          obtain ⟨t', r'⟩ := x
          rw [hu] at ht
          simp at ht
          obtain ⟨rfl, rfl⟩ := ht
          have := ih l.length (by simp at h; omega) rfl hu
          simp at h ⊢
          omega

theorem unturn_lt {u : Nat} (h : u < 18446744073709551616) : unturn u < 18446744073709551616 := by unfold unturn; split <;> omega
theorem wfE {k n : Int} {b : Bool} {f re im : Nat} (hk : 0 ≤ k ∧ k ≤ 6) (hn : -9223372036854775808 ≤ n ∧ n ≤ 9223372036854775807) (hf : f < 18446744073709551616) (hre : re < 18446744073709551616) (him : im < 18446744073709551616) : It.Wf ⟨k, b, n, f, re, im, E0⟩ :=
  ⟨by show _ ≤ k; omega, by show k ≤ _; omega, hn.1, hn.2, hf, hre, him, Nat.zero_le _⟩
theorem unitem_ok {c : UInt8} {l : List UInt8} {x : It} {r : List UInt8} (h : unitem c l = some (x, r)) : r.length ≤ l.length ∧ (l.length ≤ 1073741824 → x.Wf) := by
  unfold unitem at h
  split at h
  · simp at h; obtain ⟨rfl, rfl⟩ := h; exact ⟨Nat.le_refl _, fun _ => wfE (by omega) (by omega) (by omega) (by omega) (by omega)⟩
  split at h
  · cases l with
    | nil => cases h
    | cons d l' =>
      simp at h
      obtain ⟨_, rfl, rfl⟩ := h
      exact ⟨by simp, fun _ => wfE (by omega) (by omega) (by omega) (by omega) (by omega)⟩
  split at h
  · split at h
    · cases h
    · simp at h
      obtain ⟨rfl, rfl⟩ := h
      have := num8_lt l
      exact ⟨by simp, fun _ => wfE (by omega) (by omega) (by omega) (by omega) (by omega)⟩
  split at h
  · split at h
    · cases h
    · simp at h
      obtain ⟨rfl, rfl⟩ := h
      have := unturn_lt (num8_lt l)
      exact ⟨by simp, fun _ => wfE (by omega) (by omega) (by omega) (by omega) (by omega)⟩
  split at h
  · split at h
    · cases h
    · split at h
      · cases h
      · simp at h
        obtain ⟨rfl, rfl⟩ := h
        have h1 := unturn_lt (num8_lt l)
        have h2 := unturn_lt (num8_lt (l.drop 8))
        exact ⟨by simp, fun _ => wfE (by omega) (by omega) (by omega) (by omega) (by omega)⟩
  split at h
  · cases hu : untextL l with
    | none => rw [hu] at h; cases h
    | some y =>
      obtain ⟨t, r'⟩ := y
      rw [hu] at h
      simp at h
      obtain ⟨rfl, rfl⟩ := h
      have := untextL_len hu
      refine ⟨by omega, fun hl => ?_⟩
      constructor <;> simp
      show t.toArray.size ≤ _
      simp
      omega
  · cases h

/-- A slice of items that is its own. -/
def RowI (w : World) (B : Nat) (v : Value) (xs : List It) : Prop := w.ownsRow B 29 6 v xs.length (xs.flatMap fun x => x.c.toList)
theorem cells_len (xs : List It) : (xs.flatMap fun x => x.c.toList).length = xs.length * 6 := by
  induction xs with
  | nil => rfl
  | cons x xs ih => simp only [List.flatMap_cons, List.length_append, List.length_cons, ih]; simp; omega
theorem cells_get (xs : List It) (i j : Nat) (x : It) (h : xs[i]? = some x) (hj : j < 6) : (xs.flatMap fun x => x.c.toList)[i * 6 + j]? = x.c.toList[j]? := by
  induction xs generalizing i with
  | nil => simp at h
  | cons y xs ih =>
    simp only [List.flatMap_cons]
    cases i with
    | zero =>
      simp at h
      subst h
      rw [List.getElem?_append_left (by simp; omega)]
      simp
    | succ i =>
      rw [List.getElem?_append_right (by simp; omega)]
      have e : (i + 1) * 6 + j - y.c.toList.length = i * 6 + j := by simp; omega
      rw [e]
      exact ih i (by simpa using h)
theorem info29' : (Try.prog.info? 29).map (fun i => (i.zero, i.size, i.bytes)) = some (some (.agg itZ), 6, 64) := by kernel_rfl
section
variable {w w' : World} {B : Nat} {v : Value} {xs : List It} {S : Nat → Prop}
theorem RowI.only (h : RowI w B v xs) (ho : Only S w w') (hg : ∀ g, v.ownBlock = some g → ¬ S g) : RowI w' B v xs := by
  refine ⟨h.1, ?_⟩
  rcases h.2 with h0 | ⟨g, cap, cur, hv, hb, hh, r⟩
  · exact .inl h0
  · refine .inr ⟨g, cap, cur, hv, hb, ?_, r⟩
    exact Blk.only (t := 29) (cs := cur) hh ho (hg g (by rw [hv]; rfl))
theorem RowI.keep (h : RowI w B v xs) (ho : Only NoneOf w w') : RowI w' B v xs := h.only ho (fun _ _ h => h)
theorem rowI_nil (w : World) (B : Nat) : RowI w B (.slice none 0 0) [] := ⟨by simp, .inl ⟨rfl, rfl⟩⟩
/-- A row of items as a slice in memory. -/
theorem RowI.at (h : RowI w B v xs) : ∃ A cap, v = .slice A xs.length cap ∧ ItemsAt w A xs := by
  rcases h.2 with ⟨rfl, h0⟩ | ⟨g, cap, cur, rfl, _, hb, hle, _, hsz, hcur⟩
  · obtain rfl : xs = [] := List.eq_nil_of_length_eq_zero h0
    exact ⟨none, 0, rfl, fun i x hx => by simp at hx⟩
  · refine ⟨_, cap, rfl, fun i x hx => ⟨g, 0, rfl, Blk.lt (t := 29) (cs := cur) hb, ?_⟩⟩
    have hi : i < xs.length := (List.getElem?_eq_some_iff.1 hx).1
    have hc : ∀ j, j < 6 → w.cell? ⟨g, 0 + i * 6 + j, none⟩ = x.c.toList[j]? := by
      intro j hj
      rw [Nat.zero_add, Blk.cell (t := 29) (cs := cur) hb, ← cells_get xs i j x hx hj, ← hcur, List.getElem?_take_of_lt (by omega), Array.getElem?_toList]
    exact ⟨hc 0 (by omega), hc 1 (by omega), hc 2 (by omega), hc 3 (by omega), hc 4 (by omega), hc 5 (by omega)⟩
end

theorem app_item {ops : Array Oper} {rest : List Oper} {o : Oper} {a : Act} {Q : Exit → Act → World → Prop} {w : World} (hgd : o.guard = none) (s x : Operand) (ho : o.op = .call { callee := .builtin .append, args := #[s, x], argTypes := #[47, 47] })
    (B : Nat) (v : Value) (xs : List It) (hs : a.eval s = v) (hr : RowI w B v xs) (g c : Nat) (y : It) (hx : a.eval x = .slice (some ⟨g, 0, none⟩) 1 c) (hc : Blk w g 29 y.c)
    (hl : xs.length + 1 ≤ 2199023255552) (hB : B ≤ w.heap.size)
    (h : ∀ v' w', RowI w' B v' (xs ++ [y]) → Only (fun k => v.ownBlock = some k) w w' → (∀ k, v'.ownBlock = some k → v.ownBlock = some k ∨ w.heap.size ≤ k) → wpList Try.prog ops Q rest (a.put o.dst v') w') : wpList Try.prog ops Q (o :: rest) a w := by
  obtain ⟨i0, hi, hz0, hz1, hz2⟩ := info_parts info29'
  refine wpList_append_lies w hgd s x 47 ho B 29 i0 _ 6 64 Try.underlying47 hi hz0 hz1 hz2 rfl (by decide) v xs.length (xs.flatMap fun z : It => z.c.toList) hs hr ⟨g, 0, none⟩ 1 c y.c.toList hx rfl ?_ ?_ (by decide) (by unfold maxLen; omega) (by omega) hB w.heap.size rfl ?_
  · intro j u hj
    have hadd : (⟨g, 0, none⟩ : Addr).add j = ⟨g, j, none⟩ := by unfold Addr.add; split <;> simp_all
    rw [hadd, hc.cell, ← hj]
    simp
  · intro u hu
    have := one_itC y.k y.b y.n y.f y.re y.im y.t
    rw [Array.all_eq_true_iff_forall_mem] at this
    exact this u (by simpa using hu)
  · intro g' cap w' h1 h2 h3 _
    refine h _ w' ?_ (only_grown h2) ?_
    · show w'.ownsRow B 29 6 _ (xs ++ [y]).length ((xs ++ [y]).flatMap fun z : It => z.c.toList)
      rw [List.length_append, List.flatMap_append]
      simpa using h1
    · intro k hk
      have : g' = k := by simpa [Value.ownBlock] using hk
      subst this
      rcases h3 with h3 | h3
      · exact .inl h3
      · exact .inr (by omega)

/-- What Decode answers; none: ErrItems. -/
def decL (s : ByteArray) : Option (List It) := match unall s.size s.data.toList with
  | none => none
  | some xs => if (encL xs).2 = 0 ∧ (encL xs).1 = s then some xs else none

/-- How Decode ends. -/
def DecPost (r : Option (List It)) (w : World) (e : Ending) (w' : World) : Prop :=
  (match r with
    | none => e = .returned (.tuple #[.slice none 0 0, .int .i64 41])
    | some xs => ∃ v, e = .returned (.tuple #[v, .int .i64 0]) ∧ RowI w' w.heap.size v xs ∧ ∀ x ∈ xs, x.Wf) ∧ Only NoneOf w w'

def DecRel (s : ByteArray) (w : World) (v0 r : Value) (wr : World) : Prop :=
  ∃ (q : ByteArray) (done : List It) (n : Nat), r = .string q ∧ q.size ≤ n ∧ done.length + q.size ≤ s.size ∧ RowI wr w.heap.size v0 done ∧ Only NoneOf w wr ∧ (∀ x ∈ done, x.Wf) ∧ unall s.size s.data.toList = (unall n q.data.toList).map (done ++ ·)

def sizeV : Value → Nat
  | .string q => q.size
  | _ => 0

end Go.Proofs.Ytimoenpfnaaehaa
