/-
  Layer 13: the walk over a chain's links: slices.Backward's closure, All's closure.
-/
import Derived.Test.YtnonnencdhogiaaC6b
import Derived.Test.YtnonnencdhogiaaIter
import Derived.Shelf.Abstract
import Derived.OwnWalkIn
import Derived.TacticsInMore
import Derived.LoopNIn
import Derived.LoopIn
namespace Go.Proofs.Ytnonnencdhogiaa
open Go.RowKit Go.Shelf
namespace Cb
attribute [local go_sem] Oper.semAt_some

/-- The links as Backward tells them: with their places, the last one first. -/
def backs (ls : List Lk) : List (Nat × Lk) := ((List.range ls.length).zip ls).reverse
def backEnc (x : Nat × Lk) : Array Value := #[.int .i64 x.1, .agg x.2.cells.toArray]

theorem backs_take (ls : List Lk) (k : Nat) (l : Lk) (hk : k < ls.length) (hl : ls[ls.length - 1 - k]? = some l) : (backs ls).take (k + 1) = (backs ls).take k ++ [(ls.length - 1 - k, l)] := by
  have hlen : (backs ls).length = ls.length := by simp [backs]
  have h : (backs ls)[k]? = some (ls.length - 1 - k, l) := by
    have h2 : ls[ls.length - 1 - k]? = some l := hl
    unfold backs
    rw [List.getElem?_reverse (by simp; omega)]
    simp only [List.length_zip, List.length_range, Nat.min_self]
    rw [List.getElem?_zip_eq_some]
    exact ⟨by rw [List.getElem?_range (by omega)], h2⟩
  rw [List.take_add_one, h]
  rfl
theorem backs_all (ls : List Lk) : (backs ls).take ls.length = backs ls := List.take_of_length_le (by simp [backs])
theorem backs_snd (ls : List Lk) : (backs ls).map (·.2) = ls.reverse := by
  unfold backs
  rw [List.map_reverse]
  congr 1
  rw [← List.unzip_snd, List.unzip_zip (by simp)]

set_option maxRecDepth 100000 in
set_option maxHeartbeats 2000000 in
/-- slices.Backward's closure over a row of links. -/
theorem back_iter (W : World) (bs : Nat) (v : Value) (ls : List Lk) (Kp : Nat → Prop) (hrow : W.ownsRow 0 92 3 v ls.length (flat ls)) (hv : ∀ l ∈ ls, IsV l.val) (hfew : ls.length ≤ 3518437208800)
    (hbs : W.cell? ⟨bs, 0, none⟩ = some v) (hk1 : Kp bs) (hk2 : ∀ g, v.ownBlock = some g → Kp g) :
    Iter Try.prog 70 #[.pointer (some ⟨bs, 0, none⟩)] backEnc (backs ls) Kp W := by
  intro l J Jx hJ hJx h0 hY
  have hbl : bs < W.heap.size := World.block_lt_of_cell? _ _ hbs
  have hgl : ∀ g, v.ownBlock = some g → g < W.heap.size := fun g hg => by
    rcases hrow.2 with ⟨rfl, _⟩ | ⟨g', cap, cur, rfl, _, hb, _⟩
    · simp [Value.ownBlock] at hg
    · have : g' = g := by simpa [Value.ownBlock] using hg
      subst this
      exact Blk.lt (t := 92) (cs := cur) hb
  have keep : ∀ E A B, W.heap.size ≤ E → W.heap.size ≤ A.heap.size → Only (Theirs W.heap.size E Kp) A B → (A.ownsRow 0 92 3 v ls.length (flat ls) → B.ownsRow 0 92 3 v ls.length (flat ls)) ∧ (A.cell? ⟨bs, 0, none⟩ = some v → B.cell? ⟨bs, 0, none⟩ = some v) := by
    intro E A B hE hA ho
    refine ⟨fun h => row_only h ho (fun g hg hh => ?_), fun h => (ho.cell (p := ⟨bs, 0, none⟩) (by show bs < _; omega) (fun hh => ?_)).trans h⟩
    · rcases hh with hh | hh
      · exact hh.2 (hk2 g hg)
      · have := hgl g hg; omega
    · rcases hh with hh | hh
      · exact hh.2 hk1
      · simp at hh; omega
  have KEEP := Lib.hid keep
  have HY := Lib.hid hY
  have HV := Lib.hid hv
  have HJ0 := Lib.hid (h0 W.heap.size W (Nat.le_refl _) (Nat.le_refl _) (Only.refl _ _))
  clear keep hY hv hJ hJx h0 hk1 hk2 hgl
  refine callsIn_of_wp Try.func70 rfl trivial ?_ rfl
  simp only [Try.ntmps70, List.size_toArray, List.length_cons, List.length_nil, Nat.reduceAdd, Nat.reduceSub, Array.replicate_succ, Array.replicate_zero, List.push_toArray, List.append_toArray, List.nil_append, List.cons_append]
  rcases hrow.2 with ⟨rfl, hlen⟩ | ⟨g, cap, cur, rfl, _, hb, hle, _, hsz, hcur⟩
  · obtain rfl : ls = [] := List.eq_nil_of_length_eq_zero hlen
    gi_wp2
    gi_loopw [3] (fun i wr => i = .int .i64 (-1) ∧ wr = W) (fun _ _ => 0)
    case atStart => exact ⟨rfl, rfl⟩
    case round =>
      obtain ⟨rfl, rfl⟩ := hrel
      gi_wp2
      go_end0
      exact ⟨⟨_, rfl⟩, _, Nat.le_refl _, .inl HJ0.out⟩
  · gi_wp2
    gi_loopw [3] (fun i wr => ∃ k : Nat, k ≤ ls.length ∧ i = .int .i64 ((ls.length : Int) - 1 - k) ∧ J W.heap.size ((backs ls).take k) wr ∧ wr.ownsRow 0 92 3 (.slice (some ⟨g, 0, none⟩) ls.length cap) ls.length (flat ls) ∧ wr.cell? ⟨bs, 0, none⟩ = some (.slice (some ⟨g, 0, none⟩) ls.length cap) ∧ W.heap.size ≤ wr.heap.size)
      (fun i _ => ((intOf i) + 1).toNat)
    case atStart => exact ⟨0, Nat.zero_le _, by simp, HJ0.out, hrow, hbs, Nat.le_refl _⟩
    case round =>
      obtain ⟨k, hk, rfl, hJs, hr, hbs', hsz'⟩ := hrel
      have HR := Lib.hid hr
      have HJ := Lib.hid hJs
      clear hr hJs
      by_cases hlt : k < ls.length
      · have hl : ls[ls.length - 1 - k]? = some (ls[ls.length - 1 - k]'(by omega)) := List.getElem?_eq_getElem _
        generalize ls[ls.length - 1 - k]'(by omega) = l0 at hl
        obtain ⟨x, hx⟩ := HV.out l0 (List.mem_of_getElem? hl)
        have hcell : ∀ j, j < 3 → wr.cell? ⟨g, (ls.length - 1 - k) * 3 + j, none⟩ = l0.cells[j]? := by
          intro j hj
          rcases HR.out.2 with ⟨h0, _⟩ | ⟨g', cap', cur', hv', _, hb', _, _, _, hcur'⟩
          · cases h0
          · injection hv' with hv1 _ _
            injection hv1 with hv1
            injection hv1 with hv1 _ _
            subst hv1
            rw [Blk.cell (t := 92) (cs := cur') hb', ← flat_get ls _ j l0 hl hj, ← hcur', List.getElem?_take_of_lt (by omega), Array.getElem?_toList]
        obtain ⟨st, val, dead⟩ := l0
        simp only at hx
        subst hx
        have c0 := hcell 0 (by omega)
        have c1 := hcell 1 (by omega)
        have c2 := hcell 2 (by omega)
        simp only [Lk.cells, Nat.add_zero, List.getElem?_cons_zero, List.getElem?_cons_succ] at c0 c1 c2
        have HT := Lib.hid (backs_take ls k _ hlt hl)
        have HP : (backs ls).take k ++ [(ls.length - 1 - k, (⟨st, Value.slice x.1 x.2.1 x.2.2, dead⟩ : Lk))] <+: backs ls := by rw [← HT.out]; exact List.take_prefix _ _
        clear hcell hl
        obtain ⟨fn, tmps, assign, body, hy, hR⟩ := YieldAt.deep (1 - 1) (HY.out W.heap.size _ _ wr (Nat.le_refl _) hsz' HJ.out HP)
        have HRR := Lib.hid hR
        clear hR HP
        have e1 : ((ls.length : Int) - 1 - (k : Int)).toNat = ls.length - 1 - k := by omega
        simp only [backEnc, Lk.cells] at hy
        rw [show ((ls.length - 1 - k : Nat) : Int) = (ls.length : Int) - 1 - k by omega] at hy
        gi_wp2
        refine HRR.out.mono ?_
        rintro e W3 (⟨rfl, hJ3, ho3⟩ | ⟨rfl, hJx3, _⟩)
        · obtain ⟨k1, k2⟩ := KEEP.out _ _ _ (Nat.le_refl _) hsz' ho3
          have hr3 := Lib.hid (k1 HR.out)
          have hb3 := Lib.hid (k2 hbs')
          have hs3 := ho3.size
          have hJ3' := Lib.hid hJ3
          clear k1 k2 hJ3 hbs' c0 c1 c2 hy e1
          gi_wp2
          go_roundw
          case rel => exact ⟨k + 1, by omega, by simp; omega, by rw [HT.out]; exact hJ3'.out, hr3.out, hb3.out, by omega⟩
          case measure => simp [intOf]; omega
        · have HX := Lib.hid hJx3
          clear hJx3 hbs' c0 c1 c2 hy e1
          gi_wp2
          refine bodyPost_ret (results_none rfl _ _ _) rfl ?_
          exact ⟨⟨_, rfl⟩, _, Nat.le_refl _, .inr ⟨_, by rw [← HT.out]; exact List.take_prefix _ _, HX.out⟩⟩
      · obtain rfl : k = ls.length := by omega
        have HA := Lib.hid (backs_all ls)
        gi_wp2
        go_end0
        exact ⟨⟨_, rfl⟩, _, Nat.le_refl _, .inl (by rw [← HA.out]; exact HJ.out)⟩

end Cb
end Go.Proofs.Ytnonnencdhogiaa
