/-
  Layer 4: what begins with a text, and the least text behind those: plain lists.
-/
import Derived.Test.YtimoenpfnaaehaaOE
import Derived.Test.YtimoenpfnaaehaaOG
import Derived.Test.YtimoenpfnaaehaaONames
namespace Go.Proofs.Ytimoenpfnaaehaa
open Go.RowKit

theorem getD_at {l : List UInt8} {j : Nat} (h : j < l.length) : l.getD j 0 = l[j] := by
  rw [List.getD_eq_getElem?_getD, List.getElem?_eq_getElem h]
  rfl

theorem less_max : ∀ (p x : List UInt8), (∀ c ∈ p, c = 255) → Op.bytesLess x p = !(p.isPrefixOf x)
  | [], x, _ => by cases x <;> rfl
  | c :: p, [], _ => rfl
  | c :: p, a :: x, h => by
    have hc : c = 255 := h c (by simp)
    subst hc
    have ih := less_max p x (fun d hd => h d (by simp [hd]))
    show (decide (a < 255) || (a == 255 && Op.bytesLess x p)) = !(255 == a && p.isPrefixOf x)
    rw [ih]
    by_cases e : a = 255
    · subst e; simp
    · have h1 : a < 255 := by
        rw [UInt8.lt_iff_toNat_lt]
        have := a.toNat_lt
        have h2 : a.toNat ≠ 255 := fun h => e (UInt8.toNat_inj.1 h)
        show a.toNat < 255
        omega
      simp [h1, Ne.symm e]

theorem less_raised : ∀ (u : List UInt8) (c : UInt8) (F x : List UInt8), c ≠ 255 → (∀ d ∈ F, d = 255) → (u ++ c :: F).isPrefixOf x = (!Op.bytesLess x (u ++ c :: F) && Op.bytesLess x (u ++ [UInt8.ofNat (c.toNat + 1)]))
  | [], c, F, [], _, _ => rfl
  | [], c, F, a :: x, hc, hF => by
    show (c == a && F.isPrefixOf x) = (!(decide (a < c) || (a == c && Op.bytesLess x F)) && (decide (a < UInt8.ofNat (c.toNat + 1)) || (a == UInt8.ofNat (c.toNat + 1) && Op.bytesLess x [])))
    have hlt := c.toNat_lt
    have hne : c.toNat ≠ 255 := fun h => hc (UInt8.toNat_inj.1 h)
    have hv : (UInt8.ofNat (c.toNat + 1)).toNat = c.toNat + 1 := by simp; omega
    have h0 : Op.bytesLess x [] = false := by cases x <;> rfl
    rw [h0, less_max F x hF]
    have d1 : decide (a < c) = decide (a.toNat < c.toNat) := by simp [UInt8.lt_iff_toNat_lt]
    have d2 : decide (a < UInt8.ofNat (c.toNat + 1)) = decide (a.toNat < c.toNat + 1) := decide_eq_decide.2 (by rw [UInt8.lt_iff_toNat_lt, hv])
    rw [d1, d2]
    by_cases e : a = c
    · subst e; simp
    · have h2 : a.toNat ≠ c.toNat := fun h => e (UInt8.toNat_inj.1 h)
      have : (c == a) = false := by simpa using Ne.symm e
      rw [this]
      by_cases h3 : a.toNat < c.toNat
      · simp [h3]
      · have : ¬ a.toNat < c.toNat + 1 := by omega
        simp [this]
  | d :: u, c, F, [], _, _ => rfl
  | d :: u, c, F, a :: x, hc, hF => by
    show (d == a && (u ++ c :: F).isPrefixOf x) = (!(decide (a < d) || (a == d && Op.bytesLess x (u ++ c :: F))) && (decide (a < d) || (a == d && Op.bytesLess x (u ++ [UInt8.ofNat (c.toNat + 1)]))))
    rw [less_raised u c F x hc hF]
    by_cases e : a = d
    · subst e; simp
    · have : (d == a) = false := by simpa using Ne.symm e
      have h' : (a == d) = false := by simpa using e
      rw [this, h']
      cases decide (a < d) <;> rfl

/-- Whether the text p begins the text x. -/
def begB (x p : ByteArray) : Bool := p.data.toList.isPrefixOf x.data.toList

theorem begin_law (x p : ByteArray) : begB x p = (!Op.bytesLess x.toList p.toList && (!(nextS p).2 || Op.bytesLess x.toList (nextS p).1.toList)) := by
  unfold begB nextS
  rw [ByteArray.toList_eq, ByteArray.toList_eq]
  have hl : p.data.toList.length = p.size := by simp
  cases h : upAt p p.size with
  | none =>
    have h1 := upAt_none h
    rw [less_max p.data.toList x.data.toList (fun c hc => by
      obtain ⟨j, hj, rfl⟩ := List.mem_iff_getElem.1 hc
      have := h1 j (by omega)
      rw [getD_at hj] at this
      exact this)]
    simp
  | some k =>
    obtain ⟨h1, h2, h3⟩ := upAt_some h
    have hk : k < p.data.toList.length := by omega
    have hs : p.data.toList = p.data.toList.take k ++ p.data.toList[k] :: p.data.toList.drop (k + 1) := by
      rw [← List.drop_eq_getElem_cons hk, List.take_append_drop]
    have hg : p.data.toList.getD k 0 = p.data.toList[k] := getD_at hk
    have hc : p.data.toList[k] ≠ 255 := by rw [← hg]; exact h2
    have hF : ∀ d ∈ p.data.toList.drop (k + 1), d = 255 := fun d hd => by
      obtain ⟨j, hj, rfl⟩ := List.mem_iff_getElem.1 hd
      rw [List.getElem_drop]
      have hj' : k + 1 + j < p.data.toList.length := by simp only [List.length_drop] at hj; omega
      have := h3 (k + 1 + j) (by omega) (by omega)
      rw [getD_at hj'] at this
      exact this
    have hr : (raised p k).toList = p.data.toList.take k ++ [UInt8.ofNat (p.data.toList[k].toNat + 1)] := by
      unfold raised
      rw [ByteArray.toList_eq, hg]
      simp
    have key := less_raised (p.data.toList.take k) _ _ x.data.toList hc hF
    rw [← hs] at key
    simp only [hr, Bool.not_true, Bool.false_or]
    exact key

set_option maxHeartbeats 400000 in
theorem begins_is (x p : ByteArray) (w : World) : Calls Try.prog 37 #[.string x, .string p] w (Same (.bool (begB x p)) w) := by
  by_cases h : p.size ≤ x.size
  · have hd : decide ((p.size : Int) ≤ x.size) = true := by simpa using h
    go_enter Try.func37, Try.ntmps37
    go_wp2_with fail
    go_ret
    refine same_ret ?_
    have : begB x p = ((x.extract 0 p.size).toList == p.toList) := by
      unfold begB
      rw [ByteArray.toList_eq, ByteArray.toList_eq, Bool.eq_iff_iff, List.isPrefixOf_iff_prefix, beq_iff_eq, List.prefix_iff_eq_take]
      have e : (x.extract 0 p.size).data.toList = x.data.toList.take p.size := by simp
      have e2 : p.data.toList.length = p.size := by simp
      rw [e, e2]
      exact eq_comm
    rw [this]
    rfl
  · have hd : decide ((p.size : Int) ≤ x.size) = false := by simpa using h
    go_enter Try.func37, Try.ntmps37
    go_wp2_with fail
    go_ret
    refine same_ret ?_
    have : begB x p = false := by
      cases hb : begB x p with
      | false => rfl
      | true =>
        have h1 := (List.isPrefixOf_iff_prefix.1 hb).length_le
        simp at h1
        omega
    rw [this]
    rfl

theorem begins_add (p x : ByteArray) : begB (p ++ x) p = true := by
  unfold begB
  rw [List.isPrefixOf_iff_prefix]
  exact ⟨x.data.toList, by simp⟩

end Go.Proofs.Ytimoenpfnaaehaa
