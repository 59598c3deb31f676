/-
  Layer 13: a chain in memory; Clone of its links, Prune.
-/
import Derived.Test.YtnonnencdhogiaaC5b
import Derived.Test.YtnonnencdhogiaaC4b
namespace Go.Proofs.Ytnonnencdhogiaa
open Go.RowKit
namespace Cb

/-- How Clone ends: a row of its own, no part of what was there. -/
def ClonePost (ls : List Lk) (w : World) (e : Ending) (w' : World) : Prop :=
  ∃ v', e = .returned v' ∧ w'.ownsRow 0 92 3 v' ls.length (flat ls) ∧ Only NoneOf w w' ∧ ∀ g, v'.ownBlock = some g → w.heap.size ≤ g

theorem row_base {w : World} {base : Nat} {v : Value} {n : Nat} {xs : List Value} (h : w.ownsRow base 92 3 v n xs) : w.ownsRow 0 92 3 v n xs ∧ ∀ g, v.ownBlock = some g → base ≤ g := by
  refine ⟨⟨h.1, ?_⟩, fun g hg => ?_⟩
  · rcases h.2 with h0 | ⟨g, cap, cur, hv, _, r⟩
    · exact .inl h0
    · exact .inr ⟨g, cap, cur, hv, Nat.zero_le _, r⟩
  · rcases h.2 with ⟨rfl, _⟩ | ⟨g', cap, cur, rfl, hb, _⟩
    · simp [Value.ownBlock] at hg
    · have : g' = g := by simpa [Value.ownBlock] using hg
      omega

set_option maxHeartbeats 400000 in
theorem clone_nil (w : World) : Calls Try.prog 65 #[.slice none 0 0] w (ClonePost [] w) := by
  have hnil := fun (u : World) a n c => Lib.run_eql_slice_nil (P := Try.prog) u 86 92 a n c 0 0 Try.underlying86
  go_enter Try.func65, Try.ntmps65
  go_wp2_with fail
  go_ret
  exact ⟨_, rfl, ⟨rfl, .inl ⟨rfl, rfl⟩⟩, Only.refl _ _, fun g hg => by simp [Value.ownBlock] at hg⟩

theorem vals_one {ls : List Lk} (h : ∀ l ∈ ls, IsV l.val) : ∀ u ∈ flat ls, u.oneCell' = true := by
  intro u hu
  simp only [flat, List.mem_flatMap] at hu
  obtain ⟨l, hl, hu⟩ := hu
  obtain ⟨x, hx⟩ := h l hl
  simp only [Lk.cells, List.mem_cons, List.not_mem_nil, or_false] at hu
  rcases hu with rfl | rfl | rfl
  · rfl
  · rw [hx]; rfl
  · rfl

set_option maxRecDepth 100000 in
set_option maxHeartbeats 400000 in
theorem clone_has (w : World) (g off c m : Nat) (ls : List Lk) (hm : ls.length = m) (hv : ∀ l ∈ ls, IsV l.val) (hfew : ls.length ≤ 3518437208800)
    (hc : ∀ j u, (flat ls)[j]? = some u → w.cell? ((⟨g, off, none⟩ : Addr).add j) = some u) :
    Calls Try.prog 65 #[.slice (some ⟨g, off, none⟩) m c] w (ClonePost ls w) := by
  subst hm
  obtain ⟨i0, hi, hz0, hz1, hz2⟩ := info_parts infoL
  have hC := Lib.hid hc
  clear hc
  have hv1 := Lib.hid (vals_one hv)
  have hnil := fun (u : World) a n c => Lib.run_eql_slice_nil (P := Try.prog) u 86 92 a n c 0 0 Try.underlying86
  have hown : (w.alloc (.cells #[] 92)).ownsRow w.heap.size 92 3 (.slice (some ⟨w.heap.size, 0, none⟩) 0 0) 0 [] :=
    ⟨rfl, .inr ⟨w.heap.size, 0, #[], rfl, Nat.le_refl _, Blk.new w 92 #[], Nat.le_refl _, Nat.zero_le _, rfl, rfl⟩⟩
  go_enter Try.func65, Try.ntmps65
  go_wp2_with (at_builtin; refine wpList_append_own _ rfl (.tmp 5) (.tmp 6) 86 rfl w.heap.size 92 i0 _ 3 40 Try.underlying86 hi hz0 hz1 hz2 rfl (by decide) (.slice (some ⟨w.heap.size, 0, none⟩) 0 0) 0 [] rfl hown ⟨g, off, none⟩ ls.length c (flat ls) rfl (flat_length ls) ?c1 hv1.out ?c2 ?c3 ?c4 ?_)
  case c1 => intro j u hj; have := hC.out j u hj; rw [World.cell?_alloc_lt _ _ _ (World.block_lt_of_cell? _ _ this)]; exact this
  case c2 => unfold maxLen; omega
  case c3 => omega
  case c4 => simp
  intro v' w1 hown' hgr hnil'
  go_wp2_with fail
  go_ret
  obtain ⟨r1, r2⟩ := row_base (by simpa using hown')
  refine ⟨v', rfl, r1, ((Only.refl NoneOf w).alloc _).step (only_grown hgr) (fun k hk e => ?_), r2⟩
  simp only [Value.ownBlock] at e
  injection e with e
  omega

/-- The links that Prune leaves. -/
def pruned (ls : List Lk) (s : Int) : List Lk := ls.drop (cnt ls s - 1)

theorem rising_drop {ls : List Lk} (h : Rising ls) (n : Nat) : Rising (ls.drop n) :=
  ⟨fun l hl => h.1 l (List.mem_of_mem_drop hl), h.2.sublist (List.drop_sublist n ls)⟩

/-- How Prune ends. -/
def PrunePost (p : Nat) (v : Value) (ls : List Lk) (s : Int) (w : World) (e : Ending) (w' : World) : Prop :=
  ∃ v', e = .returned (.int .i64 (cnt ls s - 1 : Nat)) ∧ ChIs w' p v' (pruned ls s) ∧ Only (Foot p v) w w' ∧ ∀ k, Foot p v' k → Foot p v k ∨ w.heap.size ≤ k

set_option maxHeartbeats 400000 in
theorem prune_nil (w : World) (s : Int) : Calls Try.prog 42 #[.pointer none, .int .i64 s] w (NoPost 0 w) := by
  have L := fun u => Lib.hid (count_nil u s)
  go_enter Try.func42, Try.ntmps42
  go_wp2_with fail
  refine (L _).out.mono ?_; rintro e w1 ⟨rfl, ho⟩
  go_wp2_with fail
  go_ret
  exact ⟨rfl, ho⟩

set_option maxHeartbeats 400000 in
theorem prune_few (w : World) (p : Nat) (v : Value) (ls : List Lk) (s : Int) (h : ChIs w p v ls) (hc : cnt ls s ≤ 1) :
    Calls Try.prog 42 #[.pointer (some ⟨p, 0, none⟩), .int .i64 s] w (PrunePost p v ls s w) := by
  have L := fun u hu => Lib.hid (count_has u p v ls s hu)
  have e1 : cnt ls s - 1 = 0 := by omega
  have e2 : pruned ls s = ls := by unfold pruned; rw [e1, List.drop_zero]
  have fin : ∀ w1, Only NoneOf w w1 → PrunePost p v ls s w (.returned (.int .i64 0)) w1 := fun w1 ho =>
    ⟨v, by rw [e1]; rfl, by rw [e2]; exact h.keep ho, ho.mono (fun _ _ h => h.elim), fun k hk => .inl hk⟩
  have FIN := Lib.hid fin
  clear fin e1 e2
  generalize cnt ls s = n at *
  go_enter Try.func42, Try.ntmps42
  go_wp2_with fail
  refine (L _ h).out.mono ?_; rintro e w1 ⟨rfl, ho⟩
  go_wp2_with fail
  go_ret
  exact FIN.out _ ho

set_option maxRecDepth 100000 in
set_option maxHeartbeats 400000 in
theorem prune_many (w : World) (p : Nat) (v : Value) (ls : List Lk) (s : Int) (n : Nat) (h : ChIs w p v ls) (hc : cnt ls s = n + 2) :
    Calls Try.prog 42 #[.pointer (some ⟨p, 0, none⟩), .int .i64 s] w (PrunePost p v ls s w) := by
  have L := fun u hu => Lib.hid (count_has u p v ls s hu)
  have hle := cnt_le ls s
  have e1 : cnt ls s - 1 = n + 1 := by omega
  have e2 : pruned ls s = ls.drop (n + 1) := by unfold pruned; rw [e1]
  have fin : ∀ (w1 w2 : World) (v' : Value), Only NoneOf w w1 → Only NoneOf w1 w2 → w2.ownsRow 0 92 3 v' (ls.drop (n + 1)).length (flat (ls.drop (n + 1))) → (∀ g, v'.ownBlock = some g → w1.heap.size ≤ g) →
      PrunePost p v ls s w (.returned (.int .i64 ((n : Int) + 2 - 1))) (w2.setCell ⟨p, 0, none⟩ v') := fun w1 w2 v' ho1 ho2 hr hf => by
    have hs1 := ho1.size
    have hne : ∀ g, v'.ownBlock = some g → g ≠ p := fun g hg => by have := hf g hg; have := h.lt; omega
    refine ⟨v', by rw [e1, show (n : Int) + 2 - 1 = ((n + 1 : Nat) : Int) by omega], ⟨((h.keep ho1).keep ho2).blk.put 0 v', ?_, ?_, ?_, ?_⟩, ?_, ?_⟩
    · rw [e2]; exact row_only (S := (· = p)) hr ((Only.refl (· = p) w2).put (.inl rfl) _) (fun g hg e => hne g hg e)
    · rw [e2]; exact fun l hl => h.vals l (List.mem_of_mem_drop hl)
    · rw [e2]; exact rising_drop h.rise _
    · rw [e2]; have := h.few; simp; omega
    · exact Only.put (S := Foot p v) ((ho1.trans ho2).mono (fun _ _ h => h.elim)) (.inl (.inl rfl)) _
    · rintro k (rfl | hk)
      · exact .inl (.inl rfl)
      · exact .inr (by have := hf k hk; omega)
  have FIN := Lib.hid fin
  have hfew := h.few
  rw [hc] at hle
  simp only [hc] at L
  clear fin e1 e2 hc
  go_enter Try.func42, Try.ntmps42
  go_wp2_with fail
  refine (L _ h).out.mono ?_; rintro e w1 ⟨rfl, ho⟩
  have h1 := h.keep ho
  have c0 := h1.blk.cellv 0 rfl
  have f0 := h1.blk.free 0
  rcases h1.form with ⟨_, rfl⟩ | ⟨g, cap, rfl, hcap, hg, hcs⟩
  · simp at hle
  · have hcl : ∀ j u, (flat (ls.drop (n + 1)))[j]? = some u → w1.cell? ((⟨g, (n + 1) * 3, none⟩ : Addr).add j) = some u := by
      intro j u hj
      have e : (⟨g, (n + 1) * 3, none⟩ : Addr).add j = ⟨g, (n + 1) * 3 + j, none⟩ := by unfold Addr.add; split <;> simp_all
      rw [e]
      rw [← flat_drop, List.getElem?_drop] at hj
      rcases h1.row.2 with ⟨h0, _⟩ | ⟨g', cap', cur, hv, _, hb, _, _, _, hcur⟩
      · cases h0
      · injection hv with hv1 _ _
        injection hv1 with hv1
        injection hv1 with hv1 _ _
        subst hv1
        rw [Blk.cell (t := 92) (cs := cur) hb]
        have hlt : (n + 1) * 3 + j < ls.length * 3 := by
          have := (List.getElem?_eq_some_iff.1 hj).1
          rw [flat_length] at this
          exact this
        rw [← hcur, List.getElem?_take_of_lt hlt, Array.getElem?_toList] at hj
        exact hj
    have C := Lib.hid (clone_has w1 g ((n + 1) * 3) (cap - (n + 1)) (ls.length - (n + 1)) (ls.drop (n + 1)) (by simp) (fun l hl => h.vals l (List.mem_of_mem_drop hl)) (by simp; omega) hcl)
    clear hcl hcs
    go_wp2_with fail
    refine C.out.mono ?_; rintro e w2 ⟨v', rfl, hr2, ho2, hf2⟩
    have h2 := h1.keep ho2
    have c2 := h2.blk.cellv 0 rfl
    have f2 := h2.blk.free 0
    obtain ⟨g2, cap2, rfl, _, _⟩ := hr2.form (by simp; omega)
    clear c0 f0
    go_wp2_with fail
    go_ret
    rw [List.length_drop] at hr2
    exact FIN.out w1 w2 _ ho ho2 (by rw [List.length_drop]; exact hr2) hf2

end Cb
end Go.Proofs.Ytnonnencdhogiaa
