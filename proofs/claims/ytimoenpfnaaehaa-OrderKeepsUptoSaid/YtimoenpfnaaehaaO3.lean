/-
  Layer 4: Check, Clean.
-/
import Derived.Test.YtimoenpfnaaehaaO2
import Derived.Deep.RegionWith
import Derived.Deep.RegionHeld3
import Derived.Deep.DeepCutAuto
import Derived.Laws.StructEq
namespace Go.Proofs.Ytimoenpfnaaehaa
open Go.RowKit

theorem same_still {f : FuncId} {args : Array Value} {v : Value} {w : World} (h : Calls Try.prog f args w (Same v w)) : Calls Try.prog f args w fun e w' => e = .returned v ∧ w' = w :=
  h.mono fun _ _ ⟨a, b⟩ => ⟨a, b.symm⟩

theorem eqF (d : Nat) (a b : Nat) (w : World) : (Op.equalIn (d + 1) 26 (.float .f64 a) (.float .f64 b)).run Try.prog w = .ok (ord a b == some .eq) w := by
  simp [Op.equalIn, Op.floatEq]
theorem eqC (d : Nat) (a b a' b' : Nat) (w : World) : (Op.equalIn (d + 1) 27 (.complex .f64 a b) (.complex .f64 a' b')).run Try.prog w = .ok (ord a a' == some .eq && ord b b' == some .eq) w := by
  simp [Op.equalIn, Op.floatEq]
/-- Whether two items are not the same. -/
def neqB (x y : It) : Bool := !(x.k == y.k && x.b == y.b && x.n == y.n && ord x.f y.f == some .eq && (ord x.re y.re == some .eq && ord x.im y.im == some .eq) && x.t.toList == y.t.toList)
set_option maxRecDepth 100000 in
theorem neq_items (k k' : Int) (b b' : Bool) (n n' : Int) (f f' re re' im im' : Nat) (t t' : ByteArray) (w : World) :
    (binOp .neq 29 (.agg (itC k b n f re im t)) (.agg (itC k' b' n' f' re' im' t'))).run Try.prog w = .ok (.bool (neqB ⟨k, b, n, f, re, im, t⟩ ⟨k', b', n', f', re', im', t'⟩)) w := by
  have h1 := eqF
  have h2 := eqC
  simp only [run_neq_struct]
  by_cases e1 : k = k'
  · by_cases e2 : b = b'
    · by_cases e3 : n = n'
      · by_cases e4 : ord f f' = some .eq
        · by_cases e5 : ord re re' = some .eq
          · by_cases e6 : ord im im' = some .eq
            · by_cases e7 : t.toList = t'.toList
              · simp [go_sem, h1, h2, neqB, e1, e2, e3, e4, e5, e6, e7]
              · simp [go_sem, h1, h2, neqB, e1, e2, e3, e4, e5, e6, e7]
            · simp [go_sem, h1, h2, neqB, e1, e2, e3, e4, e5, e6]
          · simp [go_sem, h1, h2, neqB, e1, e2, e3, e4, e5]
        · simp [go_sem, h1, h2, neqB, e1, e2, e3, e4]
      · simp [go_sem, h1, h2, neqB, e1, e2, e3]
    · simp [go_sem, h1, h2, neqB, e1, e2]
  · simp [go_sem, h1, h2, neqB, e1]

/-- Whether a text is empty. -/
def emptyB (t : ByteArray) : Bool := t.toList == ByteArray.toList ⟨#[]⟩
/-- Whether an item may be. -/
def It.ok (x : It) : Bool := decide (1 ≤ x.k) && decide (x.k ≤ 6) && (x.k == 2 || !x.b) && (x.k == 3 || x.n == 0) && (x.k == 6 || emptyB x.t) && (x.k == 4 || isZeroB x.f) && (x.k == 5 || (isZeroB x.re && isZeroB x.im))

set_option maxHeartbeats 400000 in
theorem check_low (k : Int) (b : Bool) (n : Int) (f re im : Nat) (t : ByteArray) (w : World) (h : k < 1) : Calls Try.prog 21 #[.agg (itC k b n f re im t)] w (Ans (.int .i64 40) w) := by
  go_enter Try.func21, Try.ntmps21
  go_wp2_with fail
  go_ret
  exact ⟨rfl, (Only.refl _ _).alloc _⟩
set_option maxHeartbeats 400000 in
theorem check_high (k : Int) (b : Bool) (n : Int) (f re im : Nat) (t : ByteArray) (w : World) (h0 : 1 ≤ k) (h : 6 < k) : Calls Try.prog 21 #[.agg (itC k b n f re im t)] w (Ans (.int .i64 40) w) := by
  go_enter Try.func21, Try.ntmps21
  go_wp2_with fail
  go_ret
  exact ⟨rfl, (Only.refl _ _).alloc _⟩

theorem bcell {W w1 : World} (hb : Only NoneOf W w1) : (∀ b o, b < W.heap.size → w1.cell? ⟨b, o, none⟩ = W.cell? ⟨b, o, none⟩) ∧ (∀ b o, b < W.heap.size → w1.frozen? ⟨b, o, none⟩ = W.frozen? ⟨b, o, none⟩) :=
  ⟨fun b o h => hb.cell (p := ⟨b, o, none⟩) h (fun h => h), fun b o h => hb.frozen (p := ⟨b, o, none⟩) h (fun h => h)⟩

theorem put6 {W : World} {b : Nat} {t : TypeId} {c0 c1 c2 c3 c4 c5 d0 d1 d2 d3 d4 d5 : Value} (h : Blk W b t #[c0, c1, c2, c3, c4, c5]) : Blk ((((((W.setCell ⟨b, 0, none⟩ d0).setCell ⟨b, 1, none⟩ d1).setCell ⟨b, 2, none⟩ d2).setCell ⟨b, 3, none⟩ d3).setCell ⟨b, 4, none⟩ d4).setCell ⟨b, 5, none⟩ d5) b t #[d0, d1, d2, d3, d4, d5] := by
  have := (((((h.put 0 d0).put 1 d1).put 2 d2).put 3 d3).put 4 d4).put 5 d5
  simp only [List.setIfInBounds_toArray, List.set_cons_succ, List.set_cons_zero] at this
  exact this
theorem put6Z {W : World} {b : Nat} {d0 d1 d2 d3 d4 d5 : Value} (h : Blk W b 29 itZ) : Blk ((((((W.setCell ⟨b, 0, none⟩ d0).setCell ⟨b, 1, none⟩ d1).setCell ⟨b, 2, none⟩ d2).setCell ⟨b, 3, none⟩ d3).setCell ⟨b, 4, none⟩ d4).setCell ⟨b, 5, none⟩ d5) b 29 #[d0, d1, d2, d3, d4, d5] := put6 h
theorem far6 {W : World} {b g : Nat} {t : TypeId} {cs : Array Value} {d0 d1 d2 d3 d4 d5 : Value} (h : Blk W b t cs) (hne : b ≠ g) : Blk ((((((W.setCell ⟨g, 0, none⟩ d0).setCell ⟨g, 1, none⟩ d1).setCell ⟨g, 2, none⟩ d2).setCell ⟨g, 3, none⟩ d3).setCell ⟨g, 4, none⟩ d4).setCell ⟨g, 5, none⟩ d5) b t cs :=
  (((((h.far hne _).far hne _).far hne _).far hne _).far hne _).far hne _
theorem only6 {w W : World} {g : Nat} {d0 d1 d2 d3 d4 d5 : Value} (h : Only NoneOf w W) (hg : w.heap.size ≤ g) : Only NoneOf w ((((((W.setCell ⟨g, 0, none⟩ d0).setCell ⟨g, 1, none⟩ d1).setCell ⟨g, 2, none⟩ d2).setCell ⟨g, 3, none⟩ d3).setCell ⟨g, 4, none⟩ d4).setCell ⟨g, 5, none⟩ d5) :=
  Only.put (Only.put (Only.put (Only.put (Only.put (Only.put h (.inr hg) _) (.inr hg) _) (.inr hg) _) (.inr hg) _) (.inr hg) _) (.inr hg) _

theorem aft2 {w W w1 : World} {t u : TypeId} {c d : Array Value} (HO : Only NoneOf w W) (h : Only NoneOf ((W.alloc (.cells c t)).alloc (.cells d u)).drew w1) :
    W.heap.size + 1 < w1.heap.size ∧ W.heap.size < w1.heap.size ∧ Blk w1 W.heap.size t c ∧ Blk w1 (W.heap.size + 1) u d ∧ Only NoneOf w w1 :=
  ⟨by have := h.size; simp at this; omega, by have := h.size; simp at this; omega, ((Blk.new W t c).alloc _).drew.only h (fun h => h), (Blk.new' (W.alloc (.cells c t)) u d (n := W.heap.size + 1) (by simp)).drew.only h (fun h => h), (((HO.alloc _).alloc _).drew).trans h⟩
theorem aft1 {w W w1 : World} {t : TypeId} {c : Array Value} (HO : Only NoneOf w W) (h : Only NoneOf (W.alloc (.cells c t)).drew w1) :
    W.heap.size < w1.heap.size ∧ Blk w1 W.heap.size t c ∧ Only NoneOf w w1 :=
  ⟨by have := h.size; simp at this; omega, (Blk.new W t c).drew.only h (fun h => h), ((HO.alloc _).drew).trans h⟩
theorem aft0 {w W w1 : World} (HO : Only NoneOf w W) (h : Only NoneOf W.drew w1) : Only NoneOf w w1 := HO.drew.trans h

/-- The two items beside one another. -/
def Beside (w W : World) (c d : Array Value) (t3 t4 : Value) : Prop := ∃ b3 b4, t3 = .pointer (some ⟨b3, 0, none⟩) ∧ t4 = .pointer (some ⟨b4, 0, none⟩) ∧ b3 ≠ b4 ∧ w.heap.size < b3 ∧ w.heap.size < b4 ∧ Blk W w.heap.size 29 c ∧ Blk W b3 29 c ∧ Blk W b4 29 d ∧ Only NoneOf w W

theorem ord_zero' (a : Nat) (h : isZeroB a = true) : ord a 0 = some .eq := by have := ord_zero a; rw [h] at this; simpa using this
theorem ord_zeroN (a : Nat) : (ord a 0 == some .eq) = isZeroB a := ord_zero a
theorem ok_neq (x : It) (y : It) (h0 : 1 ≤ x.k) (h1 : x.k ≤ 6) (hy : y = { x with f := if x.k = 4 then 0 else x.f, re := if x.k = 5 then 0 else x.re, im := if x.k = 5 then 0 else x.im }) :
    neqB y { x.only with f := 0, re := 0, im := 0 } = !x.ok := by
  subst hy
  obtain ⟨k, b, n, f, re, im, t⟩ := x
  have hz : isZeroB 0 = true := by decide
  have hr : ∀ a : Nat, (ord a a == some .eq) = !isNaNB a := by
    intro a
    rw [← ord_self a]
    simp [bne]
  have hs : (ord 0 0 == some .eq) = true := ord_zeroN 0
  have he : ∀ t : ByteArray, (t.toList == ByteArray.toList ⟨#[]⟩) = emptyB t := fun _ => rfl
  simp only at h0 h1
  have : k = 1 ∨ k = 2 ∨ k = 3 ∨ k = 4 ∨ k = 5 ∨ k = 6 := by omega
  rcases this with rfl | rfl | rfl | rfl | rfl | rfl
  all_goals
    simp only [neqB, It.only, It.ok, Int.reduceEq, if_true, if_false, beq_self_eq_true, ord_zeroN, hz, he, Int.reduceBEq, Int.reduceLE, decide_true, Bool.true_and, Bool.and_true, Bool.true_or, Bool.false_or]
    generalize (n == 0) = c1
    generalize emptyB t = c2
    generalize isZeroB f = c3
    generalize isZeroB re = c4
    generalize isZeroB im = c5
    revert b c1 c2 c3 c4 c5
    decide

set_option maxHeartbeats 4000000 in
theorem check_mid (k : Int) (b : Bool) (n : Int) (f re im : Nat) (t : ByteArray) (w : World) (h0 : 1 ≤ k) (h : k ≤ 6) (q : Bool) (hq : It.ok ⟨k, b, n, f, re, im, t⟩ = q) : Calls Try.prog 21 #[.agg (itC k b n f re im t)] w (Ans (.int .i64 (if q then 0 else 40)) w) := by
  have HC := fun u => Lib.hid (only_is ⟨k, b, n, f, re, im, t⟩ h0 h u)
  have HQ := Lib.hid (ok_neq ⟨k, b, n, f, re, im, t⟩ _ h0 h rfl)
  rw [hq] at HQ
  clear hq
  go_enter Try.func21, Try.ntmps21
  go_upto_region 3 with (fail)
  go_cut [3, 4] (fun t3 t4 wx => Beside w wx (itC k b n f re im t) (It.only ⟨k, b, n, f, re, im, t⟩).c t3 t4)
  case first =>
    have B1 := Blk.new w 29 (itC k b n f re im t)
    have HO := Lib.hid ((Only.refl NoneOf w).alloc (.cells (itC k b n f re im t) 29))
    generalize w.alloc (.cells (itC k b n f re im t) 29) = W at *
    have D := blk6 B1
    have hl := B1.lt
    obtain ⟨c0, c1, c2, c3, c4, c5⟩ := id D
    have s1 := stF
    have s2 := stC
    go_region_held3 (fun w' => w'.cell? ⟨w.heap.size, 0, none⟩ = some (.int .i64 k) ∧ w'.cell? ⟨w.heap.size, 1, none⟩ = some (.bool b) ∧ w'.cell? ⟨w.heap.size, 2, none⟩ = some (.int .i64 n) ∧ w'.cell? ⟨w.heap.size, 3, none⟩ = some (.float .f64 f) ∧ w'.cell? ⟨w.heap.size, 4, none⟩ = some (.complex .f64 re im) ∧ w'.cell? ⟨w.heap.size, 5, none⟩ = some (.string t))
      (exact blk6 (t := 29) (by repeat (first | with_reducible exact B1 | with_reducible exact E1 | with_reducible refine Blk.alloc ?_ _ | with_reducible refine Blk.drew ?_ | with_reducible refine Blk.far ?_ (by dsimp only; omega) _)))
      (first | (go_at_call 43; refine (HC _).out.mono ?_; rintro e w1 ⟨rfl, ho1⟩; have E1 : Blk w1 w.heap.size 29 (itC k b n f re im t) := Blk.only (by repeat (first | with_reducible exact B1 | with_reducible refine Blk.alloc ?_ _ | with_reducible refine Blk.drew ?_)) ho1 (fun h => h); (first | (have HX := aft2 HO.out ho1; obtain ⟨hz2, hz1, F1, F2, HO1⟩ := HX) | (have HX := aft1 HO.out ho1; obtain ⟨hz1, F1, HO1⟩ := HX) | (have HO1 := aft0 HO.out ho1)); have HO2 := Lib.hid HO1; clear HO1; obtain ⟨hc, hf⟩ := bcell ho1))
    all_goals go_wp2_with fail
    all_goals go_meet
    all_goals
      have hz0 := ho1.size
      simp at hz0
      refine ⟨_, _, rfl, rfl, by omega, by omega, by omega, ?_, ?_, ?_, ?_⟩
      · repeat (first | with_reducible exact E1 | with_reducible refine Blk.alloc ?_ _ | with_reducible refine far6 ?_ (by omega))
      · repeat (first | with_reducible exact Blk.new _ _ _ | with_reducible exact Blk.new' _ _ _ (by simp) | with_reducible exact F1 | with_reducible exact F2 | with_reducible refine Blk.alloc ?_ _ | with_reducible refine put6Z ?_ | with_reducible refine far6 ?_ (by omega))
      · repeat (first | with_reducible exact Blk.new _ _ _ | with_reducible exact Blk.new' _ _ _ (by simp) | with_reducible exact F1 | with_reducible exact F2 | with_reducible refine Blk.alloc ?_ _ | with_reducible refine put6Z ?_ | with_reducible refine far6 ?_ (by omega))
      · repeat (first | with_reducible exact HO2.out | with_reducible refine Only.alloc ?_ _ | with_reducible refine only6 ?_ (by omega))
  case rest =>
    obtain ⟨b3, b4, rfl, rfl, hne, hl3, hl4, E0, E3, E4, O⟩ := hcut
    have hne' : b4 ≠ b3 := Ne.symm hne
    have HO := Lib.hid O
    clear O HC
    have s1 := stF
    have s2 := stC
    have hn := neq_items
    have c0 := (blk6 E0).1
    have : k = 1 ∨ k = 2 ∨ k = 3 ∨ k = 4 ∨ k = 5 ∨ k = 6 := by omega
    rcases this with rfl | rfl | rfl | rfl | rfl | rfl
    · have HQ' : Hid (neqB ⟨1, b, n, f, re, im, t⟩ ⟨1, false, 0, 0, 0, 0, ⟨#[]⟩⟩ = !q) := HQ
      have E4' : Blk wc b4 29 (itC 1 false 0 0 0 0 ⟨#[]⟩) := E4
      clear E4 HQ
      cases q
      · have hb : neqB ⟨1, b, n, f, re, im, t⟩ ⟨1, false, 0, 0, 0, 0, ⟨#[]⟩⟩ = true := HQ'.out
        go_wp2_with (refine wpList_load_row rfl 29 (.tmp 3) rfl b3 rfl 29 _ (0, 0) _ E3 Try.underlying29 rfl info29 ?_; refine wpList_load_row rfl 29 (.tmp 4) rfl b4 rfl 29 _ (0, 0) _ E4' Try.underlying29 rfl info29 ?_)
        go_ret
        exact ⟨rfl, HO.out⟩
      · have hb : neqB ⟨1, b, n, f, re, im, t⟩ ⟨1, false, 0, 0, 0, 0, ⟨#[]⟩⟩ = false := HQ'.out
        go_wp2_with (refine wpList_load_row rfl 29 (.tmp 3) rfl b3 rfl 29 _ (0, 0) _ E3 Try.underlying29 rfl info29 ?_; refine wpList_load_row rfl 29 (.tmp 4) rfl b4 rfl 29 _ (0, 0) _ E4' Try.underlying29 rfl info29 ?_)
        go_ret
        exact ⟨rfl, HO.out⟩
    · have HQ' : Hid (neqB ⟨2, b, n, f, re, im, t⟩ ⟨2, b, 0, 0, 0, 0, ⟨#[]⟩⟩ = !q) := HQ
      have E4' : Blk wc b4 29 (itC 2 b 0 0 0 0 ⟨#[]⟩) := E4
      clear E4 HQ
      cases q
      · have hb : neqB ⟨2, b, n, f, re, im, t⟩ ⟨2, b, 0, 0, 0, 0, ⟨#[]⟩⟩ = true := HQ'.out
        go_wp2_with (refine wpList_load_row rfl 29 (.tmp 3) rfl b3 rfl 29 _ (0, 0) _ E3 Try.underlying29 rfl info29 ?_; refine wpList_load_row rfl 29 (.tmp 4) rfl b4 rfl 29 _ (0, 0) _ E4' Try.underlying29 rfl info29 ?_)
        go_ret
        exact ⟨rfl, HO.out⟩
      · have hb : neqB ⟨2, b, n, f, re, im, t⟩ ⟨2, b, 0, 0, 0, 0, ⟨#[]⟩⟩ = false := HQ'.out
        go_wp2_with (refine wpList_load_row rfl 29 (.tmp 3) rfl b3 rfl 29 _ (0, 0) _ E3 Try.underlying29 rfl info29 ?_; refine wpList_load_row rfl 29 (.tmp 4) rfl b4 rfl 29 _ (0, 0) _ E4' Try.underlying29 rfl info29 ?_)
        go_ret
        exact ⟨rfl, HO.out⟩
    · have HQ' : Hid (neqB ⟨3, b, n, f, re, im, t⟩ ⟨3, false, n, 0, 0, 0, ⟨#[]⟩⟩ = !q) := HQ
      have E4' : Blk wc b4 29 (itC 3 false n 0 0 0 ⟨#[]⟩) := E4
      clear E4 HQ
      cases q
      · have hb : neqB ⟨3, b, n, f, re, im, t⟩ ⟨3, false, n, 0, 0, 0, ⟨#[]⟩⟩ = true := HQ'.out
        go_wp2_with (refine wpList_load_row rfl 29 (.tmp 3) rfl b3 rfl 29 _ (0, 0) _ E3 Try.underlying29 rfl info29 ?_; refine wpList_load_row rfl 29 (.tmp 4) rfl b4 rfl 29 _ (0, 0) _ E4' Try.underlying29 rfl info29 ?_)
        go_ret
        exact ⟨rfl, HO.out⟩
      · have hb : neqB ⟨3, b, n, f, re, im, t⟩ ⟨3, false, n, 0, 0, 0, ⟨#[]⟩⟩ = false := HQ'.out
        go_wp2_with (refine wpList_load_row rfl 29 (.tmp 3) rfl b3 rfl 29 _ (0, 0) _ E3 Try.underlying29 rfl info29 ?_; refine wpList_load_row rfl 29 (.tmp 4) rfl b4 rfl 29 _ (0, 0) _ E4' Try.underlying29 rfl info29 ?_)
        go_ret
        exact ⟨rfl, HO.out⟩
    · have HQ' : Hid (neqB ⟨4, b, n, 0, re, im, t⟩ ⟨4, false, 0, 0, 0, 0, ⟨#[]⟩⟩ = !q) := HQ
      have E4' : Blk wc b4 29 (itC 4 false 0 f 0 0 ⟨#[]⟩) := E4
      have W3 : Blk ((wc.setCell ⟨b3, 3, none⟩ (.float .f64 0)).setCell ⟨b4, 3, none⟩ (.float .f64 0)) b3 29 (itC 4 b n 0 re im t) := (E3.put 3 (.float .f64 0)).far hne (.float .f64 0)
      have W4 : Blk ((wc.setCell ⟨b3, 3, none⟩ (.float .f64 0)).setCell ⟨b4, 3, none⟩ (.float .f64 0)) b4 29 (itC 4 false 0 0 0 0 ⟨#[]⟩) := (E4'.far hne' (.float .f64 0)).put 3 (.float .f64 0)
      have k3 := E3.cellv 3 rfl
      have k4 := E4'.cellv 3 rfl
      have f3 := E3.free 3
      have f4 := E4'.free 3
      have HO2 := Lib.hid (Only.put (p := ⟨b4, 3, none⟩) (Only.put (p := ⟨b3, 3, none⟩) HO.out (.inr (by dsimp only; omega)) (.float .f64 0)) (.inr (by dsimp only; omega)) (.float .f64 0))
      clear E3 E4 HQ E4'
      cases q
      · have hb : neqB ⟨4, b, n, 0, re, im, t⟩ ⟨4, false, 0, 0, 0, 0, ⟨#[]⟩⟩ = true := HQ'.out
        go_wp2_with (refine wpList_load_row rfl 29 (.tmp 3) rfl b3 rfl 29 _ (0, 0) _ W3 Try.underlying29 rfl info29 ?_; refine wpList_load_row rfl 29 (.tmp 4) rfl b4 rfl 29 _ (0, 0) _ W4 Try.underlying29 rfl info29 ?_)
        go_ret
        exact ⟨rfl, HO2.out⟩
      · have hb : neqB ⟨4, b, n, 0, re, im, t⟩ ⟨4, false, 0, 0, 0, 0, ⟨#[]⟩⟩ = false := HQ'.out
        go_wp2_with (refine wpList_load_row rfl 29 (.tmp 3) rfl b3 rfl 29 _ (0, 0) _ W3 Try.underlying29 rfl info29 ?_; refine wpList_load_row rfl 29 (.tmp 4) rfl b4 rfl 29 _ (0, 0) _ W4 Try.underlying29 rfl info29 ?_)
        go_ret
        exact ⟨rfl, HO2.out⟩
    · have HQ' : Hid (neqB ⟨5, b, n, f, 0, 0, t⟩ ⟨5, false, 0, 0, 0, 0, ⟨#[]⟩⟩ = !q) := HQ
      have E4' : Blk wc b4 29 (itC 5 false 0 0 re im ⟨#[]⟩) := E4
      have W3 : Blk ((wc.setCell ⟨b3, 4, none⟩ (.complex .f64 0 0)).setCell ⟨b4, 4, none⟩ (.complex .f64 0 0)) b3 29 (itC 5 b n f 0 0 t) := (E3.put 4 (.complex .f64 0 0)).far hne (.complex .f64 0 0)
      have W4 : Blk ((wc.setCell ⟨b3, 4, none⟩ (.complex .f64 0 0)).setCell ⟨b4, 4, none⟩ (.complex .f64 0 0)) b4 29 (itC 5 false 0 0 0 0 ⟨#[]⟩) := (E4'.far hne' (.complex .f64 0 0)).put 4 (.complex .f64 0 0)
      have k3 := E3.cellv 4 rfl
      have k4 := E4'.cellv 4 rfl
      have f3 := E3.free 4
      have f4 := E4'.free 4
      have HO2 := Lib.hid (Only.put (p := ⟨b4, 4, none⟩) (Only.put (p := ⟨b3, 4, none⟩) HO.out (.inr (by dsimp only; omega)) (.complex .f64 0 0)) (.inr (by dsimp only; omega)) (.complex .f64 0 0))
      clear E3 E4 HQ E4'
      cases q
      · have hb : neqB ⟨5, b, n, f, 0, 0, t⟩ ⟨5, false, 0, 0, 0, 0, ⟨#[]⟩⟩ = true := HQ'.out
        go_wp2_with (refine wpList_load_row rfl 29 (.tmp 3) rfl b3 rfl 29 _ (0, 0) _ W3 Try.underlying29 rfl info29 ?_; refine wpList_load_row rfl 29 (.tmp 4) rfl b4 rfl 29 _ (0, 0) _ W4 Try.underlying29 rfl info29 ?_)
        go_ret
        exact ⟨rfl, HO2.out⟩
      · have hb : neqB ⟨5, b, n, f, 0, 0, t⟩ ⟨5, false, 0, 0, 0, 0, ⟨#[]⟩⟩ = false := HQ'.out
        go_wp2_with (refine wpList_load_row rfl 29 (.tmp 3) rfl b3 rfl 29 _ (0, 0) _ W3 Try.underlying29 rfl info29 ?_; refine wpList_load_row rfl 29 (.tmp 4) rfl b4 rfl 29 _ (0, 0) _ W4 Try.underlying29 rfl info29 ?_)
        go_ret
        exact ⟨rfl, HO2.out⟩
    · have HQ' : Hid (neqB ⟨6, b, n, f, re, im, t⟩ ⟨6, false, 0, 0, 0, 0, t⟩ = !q) := HQ
      have E4' : Blk wc b4 29 (itC 6 false 0 0 0 0 t) := E4
      clear E4 HQ
      cases q
      · have hb : neqB ⟨6, b, n, f, re, im, t⟩ ⟨6, false, 0, 0, 0, 0, t⟩ = true := HQ'.out
        go_wp2_with (refine wpList_load_row rfl 29 (.tmp 3) rfl b3 rfl 29 _ (0, 0) _ E3 Try.underlying29 rfl info29 ?_; refine wpList_load_row rfl 29 (.tmp 4) rfl b4 rfl 29 _ (0, 0) _ E4' Try.underlying29 rfl info29 ?_)
        go_ret
        exact ⟨rfl, HO.out⟩
      · have hb : neqB ⟨6, b, n, f, re, im, t⟩ ⟨6, false, 0, 0, 0, 0, t⟩ = false := HQ'.out
        go_wp2_with (refine wpList_load_row rfl 29 (.tmp 3) rfl b3 rfl 29 _ (0, 0) _ E3 Try.underlying29 rfl info29 ?_; refine wpList_load_row rfl 29 (.tmp 4) rfl b4 rfl 29 _ (0, 0) _ E4' Try.underlying29 rfl info29 ?_)
        go_ret
        exact ⟨rfl, HO.out⟩

end Go.Proofs.Ytimoenpfnaaehaa
