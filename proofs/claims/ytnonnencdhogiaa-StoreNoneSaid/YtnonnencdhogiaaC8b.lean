/-
  Layer 13: the walk over a chain's links: All.
-/
import Derived.Test.YtnonnencdhogiaaC7b
namespace Go.Proofs.Ytnonnencdhogiaa
open Go.RowKit Go.Shelf
namespace Cb
attribute [local go_sem] Oper.semAt_some

set_option maxHeartbeats 400000 in
theorem back_any (w : World) (A : Option Addr) (n c : Nat) : Calls Try.prog 52 #[.slice A n c] w fun e w' => e = .returned (.func (.func 70) #[] #[.pointer (some ⟨w.heap.size, 0, none⟩)]) ∧ w.alloc (.cells #[.slice A n c] 86) = w' := by
  go_enter Try.func52, Try.ntmps52
  go_wp2_with fail
  go_ret
  exact ⟨rfl, rfl⟩

set_option maxHeartbeats 400000 in
theorem all_any (w : World) (p : Option Addr) : Calls Try.prog 51 #[.pointer p] w fun e w' => e = .returned (.func (.func 69) #[] #[.pointer (some ⟨w.heap.size, 0, none⟩)]) ∧ w.alloc (.cells #[.pointer p] 84) = w' := by
  go_enter Try.func51, Try.ntmps51
  go_wp2_with fail
  go_ret
  exact ⟨rfl, rfl⟩

def linkEnc (l : Lk) : Array Value := #[.agg l.cells.toArray]

set_option maxHeartbeats 1000000 in
/-- All's closure over no chain. -/
theorem all_iter_nil (W : World) (bc : Nat) (hbc : W.cell? ⟨bc, 0, none⟩ = some (.pointer none)) : Iter Try.prog 69 #[.pointer (some ⟨bc, 0, none⟩)] linkEnc [] NoneOf W := by
  intro l J Jx hJ hJx h0 hY
  have HJ0 := Lib.hid (h0 W.heap.size (W.alloc (.cells #[.func (.yield l) #[] #[]] 119)) (Nat.le_refl _) (by simp) ((Only.refl _ _).alloc _))
  have hbl : bc < W.heap.size := World.block_lt_of_cell? _ _ hbc
  clear hY hJ hJx h0
  refine callsIn_of_wp_marks Try.func69 rfl trivial ?_ rfl
  simp only [Try.ntmps69, List.size_toArray, List.length_cons, List.length_nil, Nat.reduceAdd, Nat.reduceSub, Array.replicate_succ, Array.replicate_zero, List.push_toArray, List.append_toArray, List.nil_append, List.cons_append]
  gi_wp2
  exact ⟨_, results_none rfl _ _ _, ⟨_, rfl⟩, _, Nat.le_refl _, .inl HJ0.out⟩

/-- Clone of a chain's own slice. -/
theorem clone_own (w : World) (p : Nat) (v : Value) (ls : List Lk) (h : ChIs w p v ls) : Calls Try.prog 65 #[v] w (ClonePost ls w) := by
  rcases h.row.2 with ⟨rfl, h0⟩ | ⟨g, cap, cur, rfl, _, hb, _, _, _, hcur⟩
  · obtain rfl : ls = [] := List.eq_nil_of_length_eq_zero h0
    exact clone_nil w
  · refine clone_has w g 0 cap _ ls rfl h.vals h.few (fun j u hj => ?_)
    have e : (⟨g, 0, none⟩ : Addr).add j = ⟨g, j, none⟩ := by unfold Addr.add; split <;> simp_all
    rw [e, Blk.cell (t := 92) (cs := cur) hb]
    have hlt : j < ls.length * 3 := by
      have := (List.getElem?_eq_some_iff.1 hj).1
      rw [flat_length] at this
      exact this
    rw [← hcur, List.getElem?_take_of_lt hlt, Array.getElem?_toList] at hj
    exact hj

set_option maxRecDepth 100000 in
set_option maxHeartbeats 2000000 in
/-- All's closure over a chain. -/
theorem all_iter (W : World) (bc p : Nat) (v : Value) (ls : List Lk) (h : ChIs W p v ls) (hbc : W.cell? ⟨bc, 0, none⟩ = some (.pointer (some ⟨p, 0, none⟩))) :
    Iter Try.prog 69 #[.pointer (some ⟨bc, 0, none⟩)] linkEnc ls.reverse NoneOf W := by
  intro l J Jx hJ hJx h0 hY
  have hbl : bc < W.heap.size := World.block_lt_of_cell? _ _ hbc
  have h1 := h.alloc (.cells #[.func (.yield l) #[] #[]] 119)
  have CL := Lib.hid (clone_own _ p v ls h1)
  have hyb := Blk.new W 119 #[.func (.yield l) #[] #[]]
  have c0 := h1.blk.cellv 0 rfl
  have HJ := Lib.hid hJ
  have HJx := Lib.hid hJx
  have H0 := Lib.hid h0
  have HY := Lib.hid hY
  clear hY hJ hJx h0
  refine callsIn_of_wp_marks Try.func69 rfl trivial ?_ rfl
  simp only [Try.ntmps69, List.size_toArray, List.length_cons, List.length_nil, Nat.reduceAdd, Nat.reduceSub, Array.replicate_succ, Array.replicate_zero, List.push_toArray, List.append_toArray, List.nil_append, List.cons_append]
  gi_wp2_with fail
  refine ⟨trivial, (callsIn_wide.2 CL.out).mono ?_⟩
  rintro e w1 ⟨v', rfl, hr1, ho1, hf1⟩
  have hv' : ∃ A n c, v' = .slice A n c := by
    rcases hr1.2 with ⟨hv, _⟩ | ⟨g, cap, cur, hv, _⟩
    · exact ⟨_, _, _, hv⟩
    · exact ⟨_, _, _, hv⟩
  obtain ⟨A, n, c, rfl⟩ := hv'
  clear c0
  gi_wp2_with fail
  refine ⟨trivial, (callsIn_wide.2 (back_any _ _ _ _)).mono ?_⟩
  rintro e w2 ⟨rfl, rfl⟩
  gi_wp2_with fail
  have hg1 : ∀ k, (Value.slice A n c).ownBlock = some k → W.heap.size + 1 ≤ k ∧ k < w1.heap.size := fun k hk => by
    refine ⟨by have := hf1 k hk; simp at this; omega, ?_⟩
    rcases hr1.2 with ⟨hv, _⟩ | ⟨g, cap, cur, hv, _, hb, _⟩
    · rw [hv] at hk; simp [Value.ownBlock] at hk
    · rw [hv] at hk
      have : g = k := by simpa [Value.ownBlock] using hk
      subst this
      exact Blk.lt (t := 92) (cs := cur) hb
  have hs1 : W.heap.size + 1 ≤ w1.heap.size := by have := ho1.size; simp at this; omega
  have hW2 : Only NoneOf W (w1.alloc (.cells #[.slice A n c] 86)) := (((Only.refl _ _).alloc _).trans ho1).alloc _
  have hyb2 := (hyb.only ho1 (fun h => h)).alloc (.cells #[.slice A n c] 86)
  have hr2 : (w1.alloc (.cells #[.slice A n c] 86)).ownsRow 0 92 3 (.slice A n c) ls.length (flat ls) := row_only (S := NoneOf) hr1 ((Only.refl _ _).alloc _) (fun _ _ h => h)
  have hbs2 := (Blk.new w1 86 #[.slice A n c]).cellv 0 rfl
  have hz2 : (w1.alloc (.cells #[.slice A n c] 86)).heap.size = w1.heap.size + 1 := by simp
  generalize hw2 : w1.alloc (.cells #[.slice A n c] 86) = w2 at *
  clear hw2
  refine range_own (α := Nat × Lk) (xs := backs ls) (encs := backEnc) (Kp := fun k => k = w1.heap.size ∨ (Value.slice A n c).ownBlock = some k) (Nat.le_refl 1) rfl (fun _ _ => by kernel_rfl)
    (fun Wn hn _ => back_iter Wn w1.heap.size (.slice A n c) ls _ (row_only (S := NoneOf) hr2 hn (fun _ _ h => h)) h.vals h.few ((hn.cell (p := ⟨w1.heap.size, 0, none⟩) (by show w1.heap.size < _; omega) (fun h => h)).trans hbs2) (.inl rfl) (fun g hg => .inr hg))
    (fun _ => rfl) (fun {k} hk hh => by
      rcases hh with hh | hh
      · omega
      · have := (hg1 k hh).2; omega)
    (fun E pre B => J E (pre.map Prod.snd) B ∧ W.heap.size + 1 ≤ E ∧ Blk B W.heap.size 119 #[.func (.yield l) #[] #[]])
    (fun cd E pre B => cd = .ret ∧ W.heap.size + 1 ≤ E ∧ Jx E (pre.map Prod.snd) B)
    (fun E pre A B hs ho => ⟨HJ.out E _ A B hs.1 (ho.mono fun k _ hk => ⟨by have := hk.1; omega, hk.2⟩), hs.2.1, hs.2.2.only ho (fun hk => by have := hk.1; omega)⟩)
    (fun cd E pre A B hs ho => ⟨hs.1, hs.2.1, HJx.out E _ A B hs.2.2 (ho.mono fun k _ hk => ⟨by have := hk.1; omega, hk.2⟩)⟩)
    (fun E B hE hB ho => ⟨H0.out E B (by omega) hB (hW2.trans ho), by omega, hyb2.only ho (fun h => h)⟩)
    (fun x a' B => ∃ b, w2.heap.size + 2 ≤ b ∧ Blk B b 92 x.2.cells.toArray ∧ a' = { tmps := #[.func (.yield l) #[] #[], .pointer (some ⟨bc, 0, none⟩), .pointer (some ⟨W.heap.size, 0, none⟩), undef, .pointer (some ⟨b, 0, none⟩), .pointer (some ⟨p, 0, none⟩), .bool false, .pointer (some ⟨p, 0, none⟩), .pointer (some ⟨p, 0, none⟩), .pointer (some ⟨p, 0, none⟩), v, .slice A n c, .func (.func 70) #[] #[.pointer (some ⟨w1.heap.size, 0, none⟩)], .int .i64 x.1, .agg x.2.cells.toArray, undef, undef, undef, undef], defers := [] })
    (fun x a' A B hs ho => by obtain ⟨b, hb, hB, ha⟩ := hs; exact ⟨b, hb, hB.only ho (by omega), ha⟩)
    ?assign ?body ?done ?stop
  case assign =>
    rintro ⟨i, l0⟩ Wa K hx hsz hK
    have hl0 : l0 ∈ ls := by
      have : (i, l0).2 ∈ (backs ls).map (·.2) := List.mem_map_of_mem hx
      rw [backs_snd] at this
      simpa using this
    obtain ⟨y, hy⟩ := h.vals l0 hl0
    obtain ⟨st, val, dead⟩ := l0
    simp only at hy
    subst hy
    simp only [backEnc, Lk.cells] at hK ⊢
    gi_wp2
    exact hK _ _ ((Only.refl _ _).alloc _) ⟨_, hsz, Blk.new _ _ _, rfl⟩
  case body =>
    rintro E pre ⟨i, l0⟩ a' Wb _ hE hEW hpre ⟨hJb, hE1, hYb⟩ ⟨b, hb, hB, rfl⟩
    have hl0 : l0 ∈ ls := by
      have : (i, l0).2 ∈ (backs ls).map (·.2) := List.mem_map_of_mem (hpre.subset (by simp))
      rw [backs_snd] at this
      simpa using this
    have hpre2 : pre.map Prod.snd ++ [l0] <+: ls.reverse := by
      have := hpre.map Prod.snd
      rw [show (backs ls).map Prod.snd = ls.reverse from backs_snd ls] at this
      simpa using this
    have hYld := HY.out E (pre.map Prod.snd) l0 Wb (by omega) hEW hJb hpre2
    obtain ⟨y, hy0⟩ := h.vals l0 hl0
    obtain ⟨st, val, dead⟩ := l0
    simp only at hy0
    subst hy0
    obtain ⟨fn, tmps, assign, body, hy, hR⟩ := YieldAt.deep 0 hYld
    simp only [linkEnc, Lk.cells] at hy
    have HRR := Lib.hid hR
    have y0 := hYb.cellv 0 rfl
    have b0 : Wb.cell? ⟨b, 0, none⟩ = some (.int .i64 st) := hB.cellv 0 rfl
    have b1 : Wb.cell? ⟨b, 1, none⟩ = some (Value.slice y.1 y.2.1 y.2.2) := hB.cellv 1 rfl
    have b2 : Wb.cell? ⟨b, 2, none⟩ = some (.bool dead) := hB.cellv 2 rfl
    have hE' : W.heap.size < E := by omega
    clear hR hYld hpre2 hl0 hJb
    gi_wp2
    refine ⟨rfl, RoundIn.mono (F := Fence.wide.inRound _) HRR.out ?_⟩
    rintro e W3 (⟨rfl, hJ3, ho3⟩ | ⟨rfl, hJx3, ho3⟩)
    · have hfin : Only (Theirs w2.heap.size E fun k => k = w1.heap.size ∨ (Value.slice A n c).ownBlock = some k) Wb W3 := ho3.mono fun k _ hk => by
        rcases hk with hk | hk
        · refine .inl ⟨by omega, fun hh => ?_⟩
          rcases hh with hh | hh
          · omega
          · have := (hg1 k hh).1; omega
        · exact .inr hk
      have hY3 : Blk W3 W.heap.size 119 #[.func (.yield l) #[] #[]] := hYb.only ho3 (fun hk => by rcases hk with hk | hk <;> omega)
      have HJ3 := Lib.hid hJ3
      have HF := Lib.hid hfin
      clear hJ3 hfin hy y0 b0 b1 b2
      gi_wp2
      exact ⟨HF.out, by simpa using HJ3.out, hE1, hY3⟩
    · skip
      have hfin : Only (Theirs w2.heap.size E fun k => k = w1.heap.size ∨ (Value.slice A n c).ownBlock = some k) Wb W3 := ho3.mono fun k _ hk => by
        rcases hk with hk | hk
        · refine .inl ⟨by omega, fun hh => ?_⟩
          rcases hh with hh | hh
          · omega
          · have := (hg1 k hh).1; omega
        · exact .inr hk
      have HF := Lib.hid hfin
      have HJ3 := Lib.hid hJx3
      clear hJx3 hfin hy y0 b0 b1 b2
      gi_wp2
      exact ⟨HF.out, rfl, hE1, by simpa using HJ3.out⟩
  case done =>
    rintro E Wd hE ⟨hJd, _, _⟩ hD
    have hRev : (backs ls).map Prod.snd = ls.reverse := backs_snd ls
    rw [hRev] at hJd
    have HJd := Lib.hid hJd
    clear hJd hRev
    gi_wp2
    refine ⟨by simp, .inl ⟨_, _, rfl, run_takeDeferred hD, ?_⟩⟩
    exact ⟨_, results_none rfl _ _ _, ⟨_, rfl⟩, E, by omega, .inl (HJ.out E _ _ _ HJd.out ((Only.refl _ _).putObj (.inl ⟨by omega, by omega⟩) _))⟩
  case stop =>
    rintro E cd pre Wd hE hpre ⟨rfl, _, hJd⟩ hD
    have hpre2 : pre.map Prod.snd <+: ls.reverse := by
      have := hpre.map Prod.snd
      rw [show (backs ls).map Prod.snd = ls.reverse from backs_snd ls] at this
      exact this
    have HJd := Lib.hid hJd
    clear hJd
    gi_wp2
    refine ⟨by simp, .inl ⟨_, _, rfl, run_takeDeferred hD, ?_⟩⟩
    exact ⟨_, results_none rfl _ _ _, ⟨_, rfl⟩, E, by omega, .inr ⟨_, hpre2, HJx.out E _ _ _ HJd.out ((Only.refl _ _).putObj (.inl ⟨by omega, by omega⟩) _)⟩⟩

end Cb
end Go.Proofs.Ytnonnencdhogiaa
