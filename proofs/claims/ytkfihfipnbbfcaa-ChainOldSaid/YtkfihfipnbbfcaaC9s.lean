/-
  Layer 13's law: walk collects what All tells.
-/
import Derived.Test.YtkfihfipnbbfcaaC8s
namespace Go.Proofs.Ytkfihfipnbbfcaa
open Go.RowKit Go.Shelf
namespace Cs
attribute [local go_sem] Oper.semAt_some

/-- What walk collects. -/
def walked (xs : List Lk) (most : Int) : List Lk := if most < 0 then xs else xs.take most.toNat

theorem row_zone {B E : Nat} {A A' : World} {v : Value} {n : Nat} {xs : List Value} (h : A.ownsRow E 65 3 v n xs) (ho : Only (Ours B E) A A') : A'.ownsRow E 65 3 v n xs := by
  refine ⟨h.1, ?_⟩
  rcases h.2 with h0 | ⟨g, cap, cur, hv, hb, hh, r⟩
  · exact .inl h0
  · exact .inr ⟨g, cap, cur, hv, hb, Blk.only (t := 65) (cs := cur) hh ho (fun hk => by have := hk.2; omega), r⟩

/-- How walk ends. -/
def WalkPost (xs : List Lk) (w : World) (e : Ending) (w' : World) : Prop :=
  ∃ v', e = .returned v' ∧ w'.ownsRow 0 65 3 v' xs.length (flat xs) ∧ Only NoneOf w w' ∧ ∀ g, v'.ownBlock = some g → w.heap.size ≤ g

set_option maxHeartbeats 1000000 in
theorem walk_zero (w : World) (pv : Option Addr) : Calls Try.prog 40 #[.pointer pv, .int .i64 0] w (WalkPost [] w) := by
  have A := fun u => Lib.hid (all_any u pv)
  go_enter Try.func40, Try.ntmps40
  go_wp2_with fail
  refine (A _).out.mono ?_; rintro e w1 ⟨rfl, rfl⟩
  go_wp2_with fail
  go_ret
  exact ⟨_, rfl, ⟨rfl, .inl ⟨rfl, rfl⟩⟩, by repeat (first | exact Only.refl _ _ | refine Only.alloc ?_ _), fun g hg => by simp [Value.ownBlock] at hg⟩

theorem func_nil (u : World) (f : Nat) (c : Array Value) : (binOp .eql 80 (.func (.func f) #[] c) .nilFunc).run Try.prog u = .ok (.bool false) u := by kernel_rfl

set_option maxRecDepth 100000 in
set_option maxHeartbeats 2000000 in
theorem walk_some (w : World) (pv : Option Addr) (xs : List Lk) (most : Int) (hm : most ≠ 0) (hv : ∀ l ∈ xs, IsV l.val) (hfew : xs.length ≤ 3518437208800)
    (hit : ∀ W bc, Only NoneOf w W → W.cell? ⟨bc, 0, none⟩ = some (.pointer pv) → Iter Try.prog 58 #[.pointer (some ⟨bc, 0, none⟩)] linkEnc xs NoneOf W) :
    Calls Try.prog 40 #[.pointer pv, .int .i64 most] w (WalkPost (walked xs most) w) := by
  have A := fun u => Lib.hid (all_any u pv)
  have HIT := Lib.hid hit
  have hm0 : (most == 0) = false := beq_eq_false_iff_ne.2 hm
  have hfn := func_nil
  clear hit hm
  refine callsIn_wide (n := 1).1 (callsIn_of_wp_marks Try.func40 rfl trivial ?_ rfl)
  simp only [Try.ntmps40, List.size_toArray, List.length_cons, List.length_nil, Nat.reduceAdd, Nat.reduceSub, Array.replicate_succ, Array.replicate_zero, List.push_toArray, List.append_toArray, List.nil_append, List.cons_append]
  gi_wp2_with fail
  refine ⟨trivial, (callsIn_wide.2 (A _).out).mono ?_⟩
  rintro e w2 ⟨rfl, rfl⟩
  gi_wp2_with fail
  have hW2 : Only NoneOf w (((w.alloc (.cells #[.int .i64 most] 3)).alloc (.cells #[.slice none 0 0] 53)).alloc (.cells #[.pointer pv] 52)) := (((Only.refl _ _).alloc _).alloc _).alloc _
  have hmb := ((Blk.new w 3 #[.int .i64 most]).alloc (.cells #[.slice none 0 0] 53)).alloc (.cells #[.pointer pv] 52)
  have hob := (Blk.new' (w.alloc (.cells #[.int .i64 most] 3)) 53 #[.slice none 0 0] (n := w.heap.size + 1) (by simp)).alloc (.cells #[.pointer pv] 52)
  have hcb := (Blk.new' ((w.alloc (.cells #[.int .i64 most] 3)).alloc (.cells #[.slice none 0 0] 53)) 52 #[.pointer pv] (n := w.heap.size + 1 + 1) (by simp))
  have hz2 : (((w.alloc (.cells #[.int .i64 most] 3)).alloc (.cells #[.slice none 0 0] 53)).alloc (.cells #[.pointer pv] 52)).heap.size = w.heap.size + 3 := by simp
  obtain ⟨i0, hi, hz0, hz1, hz3⟩ := info_parts infoL
  generalize hw2 : ((w.alloc (.cells #[.int .i64 most] 3)).alloc (.cells #[.slice none 0 0] 53)).alloc (.cells #[.pointer pv] 52) = w2 at *
  clear hw2
  refine range_own (α := Lk) (xs := xs) (encs := linkEnc) (Kp := NoneOf) (Nat.le_refl 1) rfl (fun _ _ => by kernel_rfl)
    (fun Wn hn _ => HIT.out Wn (w.heap.size + 1 + 1) (hW2.trans hn) ((hcb.only hn (fun h => h)).cellv 0 rfl)) (fun _ => rfl) (fun {k} _ hh => hh)
    (fun E pre B => w2.heap.size + 2 ≤ E ∧ (most < 0 ∨ (pre.length : Int) < most) ∧ Only NoneOf w B ∧ Blk B w.heap.size 3 #[.int .i64 most] ∧ ∃ v, Blk B (w.heap.size + 1) 53 #[v] ∧ B.ownsRow E 65 3 v pre.length (flat pre))
    (fun cd E pre B => w2.heap.size + 2 ≤ E ∧ cd = .exit 0 ∧ (pre.length : Int) = most ∧ Only NoneOf w B ∧ ∃ v, Blk B (w.heap.size + 1) 53 #[v] ∧ B.ownsRow E 65 3 v pre.length (flat pre))
    (fun E pre A B hs ho => by
      obtain ⟨h1, h2, h3, h4, v, h5, h6⟩ := hs
      refine ⟨h1, h2, h3.step ho (fun k hk hh => by have := hh.1; omega), h4.only ho (fun hh => by have := hh.1; omega), v, h5.only ho (fun hh => by have := hh.1; omega), row_zone h6 ho⟩)
    (fun cd E pre A B hs ho => by
      obtain ⟨h1, h2, h2', h3, v, h5, h6⟩ := hs
      refine ⟨h1, h2, h2', h3.step ho (fun k hk hh => by have := hh.1; omega), v, h5.only ho (fun hh => by have := hh.1; omega), row_zone h6 ho⟩)
    (fun E B hE hB ho => ⟨hE, by by_cases h : most < 0; exact .inl h; exact .inr (by have : most ≠ 0 := beq_eq_false_iff_ne.1 hm0; simp; omega), hW2.trans ho, hmb.only ho (fun h => h), _, hob.only ho (fun h => h), rfl, .inl ⟨rfl, rfl⟩⟩)
    (fun x a' B => ∃ b, w2.heap.size + 2 ≤ b ∧ Blk B b 65 x.cells.toArray ∧ a' = { tmps := #[.pointer pv, .int .i64 most, undef, .pointer (some ⟨w.heap.size, 0, none⟩), .slice none 0 0, .pointer (some ⟨w.heap.size + 1, 0, none⟩), .func (.func 58) #[] #[.pointer (some ⟨w.heap.size + 1 + 1, 0, none⟩)], .pointer (some ⟨b, 0, none⟩),
      .pointer pv, .func (.func 58) #[] #[.pointer (some ⟨w.heap.size + 1 + 1, 0, none⟩)], .int .i64 most, .bool false, .bool false, .func (.func 58) #[] #[.pointer (some ⟨w.heap.size + 1 + 1, 0, none⟩)], .bool false, .bool false, .func (.func 58) #[] #[.pointer (some ⟨w.heap.size + 1 + 1, 0, none⟩)],
      .agg x.cells.toArray, undef, undef, undef, undef, undef, undef, undef, undef, undef], defers := [] })
    (fun x a' A B hs ho => by obtain ⟨b, hb, hB, ha⟩ := hs; exact ⟨b, hb, hB.only ho (by omega), ha⟩)
    ?assign ?body ?done ?stop
  case assign =>
    rintro l0 Wa K hx hsz hK
    obtain ⟨y, hy⟩ := hv l0 hx
    obtain ⟨st, val, dead⟩ := l0
    simp only at hy
    subst hy
    simp only [linkEnc, Lk.cells] at hK ⊢
    gi_wp2
    exact hK _ _ ((Only.refl _ _).alloc _) ⟨_, hsz, Blk.new _ _ _, rfl⟩
  case body =>
    rintro E pre l0 a' Wb _ hE hEW hpre ⟨_, hmo, hO, hM, v, hV, hR⟩ ⟨b, hb, hB, rfl⟩
    have hl0 : l0 ∈ xs := hpre.subset (by simp)
    have hpl : pre.length + 1 ≤ xs.length := by have := hpre.length_le; simpa using this
    obtain ⟨y, hy0⟩ := hv l0 hl0
    obtain ⟨st, val, dead⟩ := l0
    simp only at hy0
    subst hy0
    have V0 := hV.cellv 0 rfl
    have V1 := hV.free 0
    have M0 := hM.cellv 0 rfl
    have b0 : Wb.cell? ⟨b, 0, none⟩ = some (.int .i64 st) := hB.cellv 0 rfl
    have b1 : Wb.cell? ⟨b, 1, none⟩ = some (Value.string y) := hB.cellv 1 rfl
    have b2 : Wb.cell? ⟨b, 2, none⟩ = some (.bool dead) := hB.cellv 2 rfl
    have hVlt := hV.lt
    have hN := Blk.new Wb 65 #[.int .i64 st, Value.string y, .bool dead]
    have hRb := row_base hR
    have hOA := Lib.hid (hO.alloc (.cells #[.int .i64 st, Value.string y, .bool dead] 65))
    have hVA := hV.alloc (.cells #[.int .i64 st, Value.string y, .bool dead] 65)
    have hMA := hM.alloc (.cells #[.int .i64 st, Value.string y, .bool dead] 65)
    by_cases hq : ((pre.length : Int) + 1) = most
    all_goals
      have hq' := Lib.hid hq
      first | (have hqb : ((pre.length : Int) + 1 == most) = true := beq_iff_eq.2 hq) | (have hqb : ((pre.length : Int) + 1 == most) = false := beq_eq_false_iff_ne.2 hq)
      clear hq hl0 hpre
      gi_wp2_with (gi_at_builtin; refine wpListIn_append_own _ rfl (.tmp 18) (.tmp 20) 53 rfl E 65 i0 _ 3 32 Try.underlying53 hi hz0 hz1 hz3 rfl (by decide) v pre.length (flat pre) rfl (hR.alloc _) ⟨Wb.heap.size, 0, none⟩ 1 1 [.int .i64 st, Value.string y, .bool dead] rfl rfl (World.news_of_block hN) (by simp [Value.oneCell']) (by unfold maxLen; omega) (by omega) (by simp; omega) ?_; intro v' w3 hown' hgr _; obtain ⟨g', cap', rfl⟩ := ownsRow_succ hown'; have hV3 := hVA.only (only_grown hgr) (fun e => by have := hRb.2 _ e; omega); have hM3 := hMA.only (only_grown hgr) (fun e => by have := hRb.2 _ e; omega); have x0 := hV3.cellv 0 rfl; have x1 := hV3.free 0; have x2 := hM3.cellv 0 rfl)
    · skip
      have fin : Only (Theirs w2.heap.size E NoneOf) Wb (w3.setCell ⟨w.heap.size + 1, 0, none⟩ (.slice (some ⟨g', 0, none⟩) (pre.length + 1) cap')) := Only.put (Only.step ((Only.refl _ _).alloc _) (only_grown hgr) (fun k _ e => .inr (hRb.2 _ e))) (.inl (.inl ⟨by simp; omega, fun h => h⟩)) _
      have fin2 : Only NoneOf w (w3.setCell ⟨w.heap.size + 1, 0, none⟩ (.slice (some ⟨g', 0, none⟩) (pre.length + 1) cap')) := Only.put (hOA.out.step (only_grown hgr) (fun k hk e => by have := hRb.2 _ e; omega)) (.inr (by simp)) _
      have fin3 : (w3.setCell ⟨w.heap.size + 1, 0, none⟩ (.slice (some ⟨g', 0, none⟩) (pre.length + 1) cap')).ownsRow E 65 3 (.slice (some ⟨g', 0, none⟩) (pre.length + 1) cap') (pre ++ [(⟨st, Value.string y, dead⟩ : Lk)]).length (flat (pre ++ [⟨st, Value.string y, dead⟩])) := by
        rw [flat_append, flat_one, List.length_append]
        exact row_only (S := (· = w.heap.size + 1)) hown' (Only.put (S := (· = w.heap.size + 1)) (Only.refl _ w3) (.inl rfl) _) (fun g hg e => by have := (row_base hown').2 g hg; omega)
      exact ⟨fin, by omega, rfl, by simp; exact hq'.out, fin2, _, hV3.put 0 _, fin3⟩
    · skip
      have fin : Only (Theirs w2.heap.size E NoneOf) Wb (w3.setCell ⟨w.heap.size + 1, 0, none⟩ (.slice (some ⟨g', 0, none⟩) (pre.length + 1) cap')) := Only.put (Only.step ((Only.refl _ _).alloc _) (only_grown hgr) (fun k _ e => .inr (hRb.2 _ e))) (.inl (.inl ⟨by simp; omega, fun h => h⟩)) _
      have fin2 : Only NoneOf w (w3.setCell ⟨w.heap.size + 1, 0, none⟩ (.slice (some ⟨g', 0, none⟩) (pre.length + 1) cap')) := Only.put (hOA.out.step (only_grown hgr) (fun k hk e => by have := hRb.2 _ e; omega)) (.inr (by simp)) _
      have fin3 : (w3.setCell ⟨w.heap.size + 1, 0, none⟩ (.slice (some ⟨g', 0, none⟩) (pre.length + 1) cap')).ownsRow E 65 3 (.slice (some ⟨g', 0, none⟩) (pre.length + 1) cap') (pre ++ [(⟨st, Value.string y, dead⟩ : Lk)]).length (flat (pre ++ [⟨st, Value.string y, dead⟩])) := by
        rw [flat_append, flat_one, List.length_append]
        exact row_only (S := (· = w.heap.size + 1)) hown' (Only.put (S := (· = w.heap.size + 1)) (Only.refl _ w3) (.inl rfl) _) (fun g hg e => by have := (row_base hown').2 g hg; omega)
      exact ⟨fin, by omega, by have := hq'.out; simp; omega, fin2, hM3.far (by simp) _, _, hV3.put 0 _, fin3⟩
  case done =>
    rintro E Wd hE ⟨_, hmo, hO, hM, v, hV, hR⟩ hD
    have V0 := hV.cellv 0 rfl
    have hRb := row_base hR
    gi_wp2
    refine ⟨by simp, .inl ⟨_, _, rfl, run_takeDeferred hD, ?_⟩⟩
    have hP : Only (· = w2.heap.size) Wd (Wd.putObj w2.heap.size (.deferred none)) := Only.putObj (S := (· = w2.heap.size)) (Only.refl _ _) (.inl rfl) _
    have hx : walked xs most = xs := by
      unfold walked
      rcases hmo with h | h
      · rw [if_pos h]
      · rw [if_neg (by omega)]; exact List.take_of_length_le (by omega)
    refine ⟨_, results_tmp rfl _ _ _, v, rfl, ?_, hO.step hP (fun k hk e => by omega), fun g hg => by have := hRb.2 g hg; omega⟩
    rw [hx]
    exact row_only hRb.1 hP (fun g hg e => by have := hRb.2 g hg; omega)
  case stop =>
    rintro E cd pre Wd hE hpre ⟨_, rfl, hmo, hO, v, hV, hR⟩ hD
    have V0 := hV.cellv 0 rfl
    have hRb := row_base hR
    gi_wp2
    refine ⟨by simp, .inl ⟨_, _, rfl, run_takeDeferred hD, ?_⟩⟩
    have hP : Only (· = w2.heap.size) Wd (Wd.putObj w2.heap.size (.deferred none)) := Only.putObj (S := (· = w2.heap.size)) (Only.refl _ _) (.inl rfl) _
    have hx : walked xs most = pre := by
      unfold walked
      rw [if_neg (by omega)]
      obtain ⟨r, rfl⟩ := hpre
      rw [show most.toNat = pre.length by omega, List.take_left]
    refine ⟨_, results_tmp rfl _ _ _, v, rfl, ?_, hO.step hP (fun k hk e => by omega), fun g hg => by have := hRb.2 g hg; omega⟩
    rw [hx]
    exact row_only hRb.1 hP (fun g hg e => by have := hRb.2 g hg; omega)

end Cs
end Go.Proofs.Ytkfihfipnbbfcaa
