/-
  Layer 14: slices.Collect over a chain's walk.
-/
import Derived.Test.YtnonnencdhogiaaS12
import Derived.Test.YtnonnencdhogiaaC8b
import Derived.Test.YtnonnencdhogiaaInRound
namespace Go.Proofs.Ytnonnencdhogiaa
open Go.RowKit Go.Shelf
open Cb (ChIs Foot linkEnc row_only row_base IsV)
attribute [local go_sem] Oper.semAt_some

theorem row_zone {B E : Nat} {A A' : World} {v : Value} {n : Nat} {xs : List Value} (h : A.ownsRow E 92 3 v n xs) (ho : Only (Ours B E) A A') : A'.ownsRow E 92 3 v n xs := by
  refine ⟨h.1, ?_⟩
  rcases h.2 with h0 | ⟨g, cap, cur, hv, hb, hh, r⟩
  · exact .inl h0
  · exact .inr ⟨g, cap, cur, hv, hb, Blk.only (t := 92) (cs := cur) hh ho (fun hk => by have := hk.2; omega), r⟩

/-- What Collect answers. -/
def CollPost (xs : List Lk) (w : World) (e : Ending) (w' : World) : Prop :=
  ∃ v', e = .returned v' ∧ w'.ownsRow 0 92 3 v' xs.length (flat xs) ∧ Only NoneOf w w' ∧ ∀ g, v'.ownBlock = some g → w.heap.size ≤ g

set_option maxRecDepth 100000 in
set_option maxHeartbeats 2000000 in
theorem append_links (w : World) (bc : Nat) (xs : List Lk) (hv : ∀ l ∈ xs, IsV l.val) (hfew : xs.length ≤ 3518437208800)
    (hit : ∀ W, Only NoneOf w W → Iter Try.prog 69 #[.pointer (some ⟨bc, 0, none⟩)] linkEnc xs NoneOf W) :
    Calls Try.prog 68 #[.slice none 0 0, .func (.func 69) #[] #[.pointer (some ⟨bc, 0, none⟩)]] w (CollPost xs w) := by
  have HIT := Lib.hid hit
  clear hit
  refine callsIn_wide (n := 1).1 (callsIn_of_wp_marks Try.func68 rfl trivial ?_ rfl)
  simp only [Try.ntmps68, List.size_toArray, List.length_cons, List.length_nil, Nat.reduceAdd, Nat.reduceSub, Array.replicate_succ, Array.replicate_zero, List.push_toArray, List.append_toArray, List.nil_append, List.cons_append]
  gi_wp2_with fail
  have hW2 : Only NoneOf w (w.alloc (.cells #[.slice none 0 0] 86)) := (Only.refl _ _).alloc _
  have hob := Blk.new w 86 #[.slice none 0 0]
  obtain ⟨i0, hi, hz0, hz1, hz3⟩ := info_parts Cb.infoL
  have hz2 : (w.alloc (.cells #[.slice none 0 0] 86)).heap.size = w.heap.size + 1 := by simp
  generalize hw2 : w.alloc (.cells #[.slice none 0 0] 86) = w2 at *
  clear hw2
  refine range_own (α := Lk) (xs := xs) (encs := linkEnc) (Kp := NoneOf) (Nat.le_refl 1) rfl (fun _ _ => by kernel_rfl)
    (fun Wn hn _ => HIT.out Wn (hW2.trans hn)) (fun _ => rfl) (fun {k} _ hh => hh)
    (fun E pre B => w2.heap.size + 2 ≤ E ∧ Only NoneOf w B ∧ ∃ v, Blk B w.heap.size 86 #[v] ∧ B.ownsRow E 92 3 v pre.length (flat pre))
    (fun cd E pre B => False)
    (fun E pre A B hs ho => by
      obtain ⟨h1, h3, v, h5, h6⟩ := hs
      exact ⟨h1, h3.step ho (fun k hk hh => by have := hh.1; omega), v, h5.only ho (fun hh => by have := hh.1; omega), row_zone h6 ho⟩)
    (fun cd E pre A B hs ho => hs)
    (fun E B hE hB ho => ⟨hE, hW2.trans ho, _, hob.only ho (fun h => h), rfl, .inl ⟨rfl, rfl⟩⟩)
    (fun x a' B => ∃ b, w2.heap.size + 2 ≤ b ∧ Blk B b 92 x.cells.toArray ∧ a' = { tmps := #[.slice none 0 0, .func (.func 69) #[] #[.pointer (some ⟨bc, 0, none⟩)], .pointer (some ⟨w.heap.size, 0, none⟩), undef, .slice none 0 0, .pointer (some ⟨b, 0, none⟩), .func (.func 69) #[] #[.pointer (some ⟨bc, 0, none⟩)], .agg x.cells.toArray, undef, undef, undef, undef, undef], defers := [] })
    (fun x a' A B hs ho => by obtain ⟨b, hb, hB, ha⟩ := hs; exact ⟨b, hb, hB.only ho (by omega), ha⟩)
    ?assign ?body ?done ?stop
  case assign =>
    rintro l0 Wa K hx hsz hK
    obtain ⟨y, hy⟩ := hv l0 hx
    obtain ⟨st, val, dead⟩ := l0
    simp only at hy
    subst hy
    simp only [linkEnc, Lk.cells] at hK ⊢
    gi_wp2
    exact hK _ _ ((Only.refl _ _).alloc _) ⟨_, hsz, Blk.new _ _ _, rfl⟩
  case body =>
    rintro E pre l0 a' Wb _ hE hEW hpre ⟨_, hO, v, hV, hR⟩ ⟨b, hb, hB, rfl⟩
    have hl0 : l0 ∈ xs := hpre.subset (by simp)
    have hpl : pre.length + 1 ≤ xs.length := by have := hpre.length_le; simpa using this
    obtain ⟨y, hy0⟩ := hv l0 hl0
    obtain ⟨st, val, dead⟩ := l0
    simp only at hy0
    subst hy0
    have V0 := hV.cellv 0 rfl
    have V1 := hV.free 0
    have b0 : Wb.cell? ⟨b, 0, none⟩ = some (.int .i64 st) := hB.cellv 0 rfl
    have b1 : Wb.cell? ⟨b, 1, none⟩ = some (.slice y.1 y.2.1 y.2.2) := hB.cellv 1 rfl
    have b2 : Wb.cell? ⟨b, 2, none⟩ = some (.bool dead) := hB.cellv 2 rfl
    have hVlt := hV.lt
    have hN := Blk.new Wb 92 #[.int .i64 st, .slice y.1 y.2.1 y.2.2, .bool dead]
    have hRb := row_base hR
    have hOA := Lib.hid (hO.alloc (.cells #[.int .i64 st, .slice y.1 y.2.1 y.2.2, .bool dead] 92))
    have hVA := hV.alloc (.cells #[.int .i64 st, .slice y.1 y.2.1 y.2.2, .bool dead] 92)
    clear hl0 hpre
    gi_wp2_with (gi_at_builtin; refine wpListIn_append_own _ rfl (.tmp 8) (.tmp 10) 86 rfl E 92 i0 _ 3 40 Try.underlying86 hi hz0 hz1 hz3 rfl (by decide) v pre.length (flat pre) rfl (row_only (S := NoneOf) hR ((Only.refl _ _).alloc _) (fun _ _ h => h)) ⟨Wb.heap.size, 0, none⟩ 1 1 [.int .i64 st, .slice y.1 y.2.1 y.2.2, .bool dead] rfl rfl (World.news_of_block hN) (by simp [Value.oneCell']) (by unfold maxLen; omega) (by omega) (by simp; omega) ?_; intro v' w3 hown' hgr _; obtain ⟨g', cap', rfl⟩ := ownsRow_succ hown'; have hV3 := hVA.only (only_grown hgr) (fun e => by have := hRb.2 _ e; omega); have x0 := hV3.cellv 0 rfl; have x1 := hV3.free 0)
    have fin : Only (Theirs w2.heap.size E NoneOf) Wb (w3.setCell ⟨w.heap.size, 0, none⟩ (.slice (some ⟨g', 0, none⟩) (pre.length + 1) cap')) := Only.put (Only.step ((Only.refl _ _).alloc _) (only_grown hgr) (fun k _ e => .inr (hRb.2 _ e))) (.inl (.inl ⟨by simp; omega, fun h => h⟩)) _
    have fin2 : Only NoneOf w (w3.setCell ⟨w.heap.size, 0, none⟩ (.slice (some ⟨g', 0, none⟩) (pre.length + 1) cap')) := Only.put (hOA.out.step (only_grown hgr) (fun k hk e => by have := hRb.2 _ e; omega)) (.inr (by simp)) _
    have fin3 : (w3.setCell ⟨w.heap.size, 0, none⟩ (.slice (some ⟨g', 0, none⟩) (pre.length + 1) cap')).ownsRow E 92 3 (.slice (some ⟨g', 0, none⟩) (pre.length + 1) cap') (pre ++ [(⟨st, .slice y.1 y.2.1 y.2.2, dead⟩ : Lk)]).length (flat (pre ++ [⟨st, .slice y.1 y.2.1 y.2.2, dead⟩])) := by
      rw [flat_append, flat_one, List.length_append]
      exact row_only (S := (· = w.heap.size)) hown' (Only.put (S := (· = w.heap.size)) (Only.refl _ w3) (.inl rfl) _) (fun g hg e => by have := (row_base hown').2 g hg; omega)
    exact ⟨fin, by omega, fin2, _, hV3.put 0 _, fin3⟩
  case done =>
    rintro E Wd hE ⟨_, hO, v, hV, hR⟩ hD
    have V0 := hV.cellv 0 rfl
    have hRb := row_base hR
    gi_wp2
    refine ⟨by simp, .inl ⟨_, _, rfl, run_takeDeferred hD, ?_⟩⟩
    have hP : Only (· = w2.heap.size) Wd (Wd.putObj w2.heap.size (.deferred none)) := Only.putObj (S := (· = w2.heap.size)) (Only.refl _ _) (.inl rfl) _
    exact ⟨_, results_tmp rfl _ _ _, v, rfl, row_only hRb.1 hP (fun g hg e => by have := hRb.2 g hg; omega), hO.step hP (fun k hk e => by omega), fun g hg => by have := hRb.2 g hg; omega⟩
  case stop =>
    rintro E cd pre Wd hE hpre h
    exact h.elim

set_option maxHeartbeats 1000000 in
theorem collect_is (w : World) (bc : Nat) (xs : List Lk) (hv : ∀ l ∈ xs, IsV l.val) (hfew : xs.length ≤ 3518437208800)
    (hit : ∀ W, Only NoneOf w W → Iter Try.prog 69 #[.pointer (some ⟨bc, 0, none⟩)] linkEnc xs NoneOf W) :
    Calls Try.prog 50 #[.func (.func 69) #[] #[.pointer (some ⟨bc, 0, none⟩)]] w (CollPost xs w) := by
  have H := Lib.hid (append_links w bc xs hv hfew hit)
  clear hit
  go_enter Try.func50, Try.ntmps50
  go_wp2_with fail
  refine H.out.mono ?_; rintro e w1 ⟨v, rfl, h⟩
  go_wp2_with fail
  go_ret
  exact ⟨v, rfl, h⟩

/-- A chain's links, collected: the newest one first. -/
theorem collect_chain (w : World) (bc p : Nat) (v : Value) (ls : List Lk) (h : ChIs w p v ls) (hbc : w.cell? ⟨bc, 0, none⟩ = some (.pointer (some ⟨p, 0, none⟩))) :
    Calls Try.prog 50 #[.func (.func 69) #[] #[.pointer (some ⟨bc, 0, none⟩)]] w (CollPost ls.reverse w) :=
  collect_is w bc ls.reverse (fun l hl => h.vals l (by simpa using hl)) (by have := h.few; simpa using this)
    (fun W ho => Cb.all_iter W bc p v ls (h.keep ho) ((ho.cell (p := ⟨bc, 0, none⟩) (World.block_lt_of_cell? _ _ hbc) (fun h => h)).trans hbc))

end Go.Proofs.Ytnonnencdhogiaa
