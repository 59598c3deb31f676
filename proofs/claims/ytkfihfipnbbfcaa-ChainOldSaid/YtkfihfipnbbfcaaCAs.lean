/-
  Layer 13's law: awake, ChainNames, ChainNone.
-/
import Derived.Test.YtkfihfipnbbfcaaC9s
namespace Go.Proofs.Ytkfihfipnbbfcaa
open Go.RowKit
namespace Cs

/-- What a chain's walk collects. -/
theorem walk_has (w : World) (p : Nat) (v : Value) (ls : List Lk) (most : Int) (h : ChIs w p v ls) :
    Calls Try.prog 40 #[.pointer (some ⟨p, 0, none⟩), .int .i64 most] w (WalkPost (walked ls.reverse most) w) := by
  by_cases hm : most = 0
  · subst hm
    exact walk_zero w _
  · exact walk_some w _ ls.reverse most hm (fun l hl => h.vals l (by simpa using hl)) (by have := h.few; simpa using this)
      (fun W bc ho hb => all_iter W bc p v ls (h.keep ho) hb)

theorem walk_none (w : World) (most : Int) : Calls Try.prog 40 #[.pointer none, .int .i64 most] w (WalkPost [] w) := by
  by_cases hm : most = 0
  · subst hm
    exact walk_zero w _
  · have h := walk_some w none [] most hm (fun l hl => by cases hl) (by simp) (fun W bc ho hb => all_iter_nil W bc hb)
    have e : walked [] most = [] := by unfold walked; split <;> simp
    rw [e] at h
    exact h

/-- The slice that walk answers has so many elements. -/
theorem walk_form {w : World} {v : Value} {xs : List Lk} (h : w.ownsRow 0 65 3 v xs.length (flat xs)) : ∃ A c, v = .slice A xs.length c := by
  rcases h.2 with ⟨hv, h0⟩ | ⟨g, cap, cur, hv, _⟩
  · exact ⟨none, 0, by rw [hv, h0]⟩
  · exact ⟨_, _, hv⟩

theorem new_chain (w : World) : ChIs (w.alloc (.cells #[.slice none 0 0] 55)) w.heap.size (.slice none 0 0) [] :=
  ⟨Blk.new _ _ _, ⟨rfl, .inl ⟨rfl, rfl⟩⟩, (fun l hl => by cases hl), ⟨(fun l hl => by cases hl), List.Pairwise.nil⟩, by simp⟩

theorem only_foot {w w1 w2 : World} {p : Nat} {v : Value} (h : Only NoneOf w w1) (k : Only (Foot p v) w1 w2) (hf : ∀ k, Foot p v k → w.heap.size ≤ k) : Only NoneOf w w2 :=
  h.step k fun i hi hs => by have := hf i hs; omega

set_option maxRecDepth 100000 in
set_option maxHeartbeats 4000000 in
theorem awake_any (w : World) : Calls Try.prog 32 #[] w fun e w' => e = .returned (.bool true) ∧ Only NoneOf w w' := by
  have hn := new_chain w
  have hO := Lib.hid ((Only.refl NoneOf w).alloc (.cells #[.slice none 0 0] 55))
  go_enter Try.func32, Try.ntmps32
  go_wp2_with fail
  refine (add_ok _ w.heap.size _ [] 3 ⟨#[97]⟩ false hn (by decide) (fun a ha => by cases ha) (by simp)).mono ?_
  rintro e w1 ⟨v1, rfl, h1, ho1, hf1⟩
  have hO1 := Lib.hid (only_foot hO.out ho1 (fun k hk => by rcases hk with rfl | hk; exact Nat.le_refl _; simp [Value.ownBlock] at hk))
  have hF1 := Lib.hid (show ∀ k, Foot w.heap.size v1 k → w.heap.size ≤ k from fun k hk => by
    rcases hf1 k hk with hk | hk
    · rcases hk with rfl | hk; exact Nat.le_refl _; simp [Value.ownBlock] at hk
    · simp at hk; omega)
  clear hf1
  go_wp2_with fail
  refine (add_old _ w.heap.size v1 [] ⟨3, Value.string ⟨#[97]⟩, false⟩ 3 ⟨#[]⟩ false h1 (by decide) (by decide)).mono ?_
  rintro e w2 ⟨rfl, ho2⟩
  have h2 := h1.keep ho2
  have hO2 := Lib.hid (hO1.out.trans ho2)
  go_wp2_with fail
  refine (add_ok _ w.heap.size v1 _ 5 ⟨#[]⟩ true h2 (by decide) (fun a ha => by simp at ha; subst ha; decide) (by simp)).mono ?_
  rintro e w3 ⟨v3, rfl, h3, ho3, hf3⟩
  have hO3 := Lib.hid (only_foot hO2.out ho3 hF1.out)
  have hF3 := Lib.hid (show ∀ k, Foot w.heap.size v3 k → w.heap.size ≤ k from fun k hk => by
    rcases hf3 k hk with hk | hk
    · exact hF1.out k hk
    · have := hO2.out.size; omega)
  clear hf3 h1 h2 hn
  simp only [List.nil_append, List.cons_append] at h3
  go_wp2_with fail
  refine (at_has _ w.heap.size v3 _ 4 0 ⟨3, Value.string ⟨#[97]⟩, false⟩ h3 (by decide) rfl).mono ?_
  rintro e w4 ⟨rfl, ho4⟩
  simp only [Lk.cells]
  have h4 := (h3.keep ho4).alloc (.cells #[.int .i64 3, Value.string ⟨#[97]⟩, .bool false] 65)
  have hO4 := Lib.hid ((hO3.out.trans ho4).alloc (.cells #[.int .i64 3, Value.string ⟨#[97]⟩, .bool false] 65))
  go_wp2_with fail
  refine (prune_many _ w.heap.size v3 _ 9 0 h4 (by decide)).mono ?_
  rintro e w5 ⟨v5, rfl, h5, ho5, hf5⟩
  have e5 : pruned [(⟨3, Value.string ⟨#[97]⟩, false⟩ : Lk), ⟨5, Value.string ⟨#[]⟩, true⟩] 9 = [⟨5, Value.string ⟨#[]⟩, true⟩] := rfl
  have e6 : cnt [(⟨3, Value.string ⟨#[97]⟩, false⟩ : Lk), ⟨5, Value.string ⟨#[]⟩, true⟩] 9 - 1 = 1 := by decide
  have hO5 := Lib.hid (only_foot hO4.out ho5 hF3.out)
  rw [e5] at h5
  rw [e6]
  clear e5 e6 hf5 h3 h4
  go_wp2_with fail
  refine (len_has _ w.heap.size v5 _ 1 h5 rfl).mono ?_
  rintro e w6 ⟨rfl, rfl⟩
  go_wp2_with fail
  refine (walk_has _ w.heap.size v5 _ (-1) h5).mono ?_
  rintro e w6 ⟨v6, rfl, hr6, ho6, _⟩
  have e7 : walked [(⟨5, Value.string ⟨#[]⟩, true⟩ : Lk)].reverse (-1) = [⟨5, Value.string ⟨#[]⟩, true⟩] := rfl
  rw [e7] at hr6
  obtain ⟨A, c, rfl⟩ := walk_form hr6
  clear e7 hr6
  go_wp2_with fail
  go_ret
  exact ⟨rfl, hO5.out.trans ho6⟩

/-- alike of a link and the document's, the same. -/
theorem alike_same (a : Int) (x : ByteArray) (d : Bool) (w : World) :
    Calls Try.prog 37 #[.agg #[.int .i64 a, .string x, .bool d], .agg #[.int .i64 a, .string x, .bool d]] w fun e w' => e = .returned (.bool true) ∧ Only NoneOf w w' := by
  go_enter Try.func37, Try.ntmps37
  go_wp2_with fail
  go_ret
  exact ⟨by cases d <;> simp, ((Only.refl _ _).alloc _).alloc _⟩

set_option maxRecDepth 100000 in
set_option maxHeartbeats 1000000 in
/-- A chain that is not there. -/
theorem chainNone_any (n : Int) (x : ByteArray) (w : World) : Calls Try.prog 10 #[.int .i64 n, .string x] w fun e w' => e = .returned (.bool true) ∧ Only NoneOf w w' := by
  go_enter Try.func10, Try.ntmps10
  go_wp2_with fail
  refine (at_nil _ n).mono ?_; rintro e w1 ⟨rfl, ho1⟩
  have hB := Blk.new w1 65 #[.int .i64 0, (Value.string ⟨#[]⟩), .bool false]
  have hO1 := Lib.hid (ho1.alloc (.cells #[.int .i64 0, (Value.string ⟨#[]⟩), .bool false] 65))
  go_wp2_with fail
  refine (last_nil _).mono ?_; rintro e w2 ⟨rfl, ho2⟩
  have hB2 := (hB.only ho2 (fun h => h)).alloc (.cells #[.int .i64 0, (Value.string ⟨#[]⟩), .bool false] 65)
  have hC2 := Blk.new w2 65 #[.int .i64 0, (Value.string ⟨#[]⟩), .bool false]
  have hO2 := Lib.hid ((hO1.out.trans ho2).alloc (.cells #[.int .i64 0, (Value.string ⟨#[]⟩), .bool false] 65))
  clear hB ho1 ho2
  go_wp2_with fail
  refine (add_nil _ n x false).mono ?_; rintro e w3 ⟨rfl, ho3⟩
  have hB3 := hB2.only ho3 (fun h => h)
  have hC3 := hC2.only ho3 (fun h => h)
  have hO3 := Lib.hid (hO2.out.trans ho3)
  have b0 := hB3.cellv 0 rfl
  have b1 := hB3.cellv 1 rfl
  have b2 := hB3.cellv 2 rfl
  clear ho3 hB2 hC2
  go_wp2_with fail
  refine (alike_same _ _ _ _).mono ?_; rintro e w4 ⟨rfl, ho4⟩
  have hC4 := hC3.only ho4 (fun h => h)
  have hO4 := Lib.hid (hO3.out.trans ho4)
  clear b0 b1 b2 ho4 hC3 hB3
  have b0 := hC4.cellv 0 rfl
  have b1 := hC4.cellv 1 rfl
  have b2 := hC4.cellv 2 rfl
  go_wp2_with fail
  refine (alike_same _ _ _ _).mono ?_; rintro e w5 ⟨rfl, ho5⟩
  have hO5 := Lib.hid (hO4.out.trans ho5)
  clear b0 b1 b2 ho5 hC4
  go_wp2_with fail
  refine (prune_nil _ n).mono ?_; rintro e w6 ⟨rfl, ho6⟩
  have hO6 := Lib.hid (hO5.out.trans ho6)
  clear ho6
  go_wp2_with fail
  refine (len_nil _).mono ?_; rintro e w7 ⟨rfl, rfl⟩
  go_wp2_with fail
  refine (walk_none _ (-1)).mono ?_; rintro e w7 ⟨v7, rfl, hr7, ho7, _⟩
  obtain ⟨A, c, rfl⟩ := walk_form hr7
  have hO7 := Lib.hid (hO6.out.trans ho7)
  clear ho7 hr7
  simp only [List.length_nil]
  go_wp2_with fail
  refine (awake_any _).mono ?_; rintro e w8 ⟨rfl, ho8⟩
  go_wp2_with fail
  go_ret
  exact ⟨rfl, hO7.out.trans ho8⟩

set_option maxHeartbeats 400000 in
theorem chainNames_any (w : World) : Calls Try.prog 7 #[] w fun e w' => e = .returned (.bool true) ∧ Only NoneOf w w' := by
  have A := fun u => Lib.hid (awake_any u)
  go_enter Try.func7, Try.ntmps7
  go_wp2_with fail
  refine (A _).out.mono ?_; rintro e w1 ⟨rfl, ho⟩
  go_wp2_with fail
  go_ret
  exact ⟨rfl, ho⟩

end Cs
end Go.Proofs.Ytkfihfipnbbfcaa
