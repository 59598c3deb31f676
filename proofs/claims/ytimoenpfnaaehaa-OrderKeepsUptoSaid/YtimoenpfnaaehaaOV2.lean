/-
  Layer 4: CompareAll (function 38) and the reference's (function 39) answer alike, of rows that lie in memory.
-/
import Derived.Test.YtimoenpfnaaehaaOV1
import Derived.Test.YtimoenpfnaaehaaOP1
namespace Go.Proofs.Ytimoenpfnaaehaa
open Go.RowKit

/-- The order of two lists of items. -/
def cmpAll : List It → List It → Int
  | x :: xs, y :: ys => if x.cmp y = 0 then cmpAll xs ys else x.cmp y
  | [], ys => cmpI 0 ys.length
  | xs, [] => cmpI xs.length 0

theorem cmpI_add (a b c : Int) : cmpI (a + c) (b + c) = cmpI a b := by
  unfold cmpI
  repeat' split
  all_goals omega
theorem cmpAll_end {xs ys : List It} (h : xs.length = 0 ∨ ys.length = 0) : cmpAll xs ys = cmpI xs.length ys.length := by
  cases xs with
  | nil => rfl
  | cons x xs =>
    cases ys with
    | nil => rfl
    | cons y ys => simp at h
theorem cmpAll_done {xs ys : List It} {q : Nat} (h : min xs.length ys.length = q) : cmpAll (xs.drop q) (ys.drop q) = cmpI xs.length ys.length := by
  rw [cmpAll_end (by simp only [List.length_drop]; omega), ← cmpI_add xs.length ys.length (-(q : Int))]
  simp only [List.length_drop]
  congr 1 <;> omega
theorem cmpAll_at {xs ys : List It} {q : Nat} (hx : q < xs.length) (hy : q < ys.length) : cmpAll (xs.drop q) (ys.drop q) = if (xs[q]).cmp ys[q] = 0 then cmpAll (xs.drop (q + 1)) (ys.drop (q + 1)) else (xs[q]).cmp ys[q] := by
  rw [List.drop_eq_getElem_cons hx, List.drop_eq_getElem_cons hy]
  rfl

section
variable {P : Program} {ops : Array Oper} {W : World} {Q : Act → Prop} {a : Act} {o : Oper} {rest : List Oper}
theorem q_mid (ty : TypeId) (x : Operand) (g off : Nat) (cs : List Value) (d : TypeDesc) (hg : Region.wanted o (yielded ops a.tmps) = true) (ho : o.op = .load ty x) (hx : a.eval x = .pointer (some ⟨g, off, none⟩)) (hc : W.rangeAt g off cs) (hl : g < W.heap.size)
    (hu : P.underlying ty = some d) (hd : d.isRow = true) (hi : (P.info? ty).map (·.size) = some cs.length)
    (hk : wpQuiet P ops (Aft W) Q rest (a.put o.dst (.agg cs.toArray))) : wpQuiet P ops (Aft W) Q (o :: rest) a :=
  q_at _ hg (fun w hw => by
    unfold execOp
    simp only [ho, hx, Instr.loadAt, Instr.sureAddr, Sem.run_bind, Sem.run_pure, Result.andThen_ok, run_loadVar_mid w g off ty cs d (rangeAt_keep hc hl hw) hu hd hi]) hk
theorem q_mv (v : Value) (x : Operand) (hg : Region.wanted o (yielded ops a.tmps) = true) (h : o.op = .move x ∨ o.op = .assign x) (hv : a.eval x = v) (hk : wpQuiet P ops (Aft W) Q rest (a.put o.dst v)) : wpQuiet P ops (Aft W) Q (o :: rest) a :=
  q_move x hg h (by rw [hv]; exact hk)
end

def AllRel (xs ys : List It) (w : World) (i : Value) (wr : World) : Prop :=
  Only NoneOf w wr ∧ ∃ q : Nat, i = .int .i64 q ∧ q ≤ min xs.length ys.length ∧ cmpAll xs ys = cmpAll (xs.drop q) (ys.drop q)

set_option maxRecDepth 100000 in
set_option maxHeartbeats 1000000 in
theorem compareAll_is (xs ys : List It) (A B : Option Addr) (n m : Nat) (w : World) (hA : RowsAt w A 6 (xs.map fun x => x.c.toList)) (hB : RowsAt w B 6 (ys.map fun x => x.c.toList)) (hx : xs.length ≤ 4398046511104) (hy : ys.length ≤ 4398046511104) : Calls Try.prog 38 #[.slice A xs.length n, .slice B ys.length m] w (Ans (.int .i64 (cmpAll xs ys)) w) := by
  have hO := Only.refl NoneOf w
  have HA := Lib.hid hA
  have HB := Lib.hid hB
  clear hA hB
  go_enter Try.func38, Try.ntmps38
  go_wp2_with fail
  all_goals go_loopw [12] (fun i wr => AllRel xs ys w i wr) (fun i _ => xs.length - (intOf i).toNat)
  case atStart => exact ⟨hO, 0, rfl, Nat.zero_le _, rfl⟩
  case atStart => exact ⟨hO, 0, rfl, Nat.zero_le _, rfl⟩
  all_goals
    obtain ⟨ho, q, rfl, hq, hc⟩ := hrel
    have HO := Lib.hid ho
    have HC := Lib.hid hc
    clear ho hc
    by_cases hlt : q < min xs.length ys.length
    · have hlx : q < xs.length := by omega
      have hly : q < ys.length := by omega
      obtain ⟨g, off, rfl, hg, h1⟩ := (HA.out.keep HO.out) q xs[q].c.toList (by simp [hlx])
      obtain ⟨g', off', rfl, hg', h1'⟩ := (HB.out.keep HO.out) q ys[q].c.toList (by simp [hly])
      have HE := Lib.hid (cmpAll_at hlx hly)
      have HI := fun u => Lib.hid (compare_is xs[q] ys[q] u)
      generalize xs[q] = x at *
      generalize ys[q] = y at *
      go_upto_region 4 with (fail)
      refine wp_region_aft (by kernel_rfl) (by kernel_rfl) ?_
      refine q_mv (.slice (some ⟨g, off, none⟩) xs.length n) _ rfl (.inl rfl) rfl ?_
      simp only [Act.put, List.setIfInBounds_toArray, List.set_cons_zero, List.set_cons_succ]
      refine q_mv (.int .i64 q) _ rfl (.inl rfl) rfl ?_
      simp only [Act.put, List.setIfInBounds_toArray, List.set_cons_zero, List.set_cons_succ]
      refine q_pure (.pointer (some ⟨g, off + q * 6, none⟩)) rfl (by intro _; simp [go_sem, hlx]) ?_
      simp only [Act.put, List.setIfInBounds_toArray, List.set_cons_zero, List.set_cons_succ]
      refine q_mid 29 (.tmp 17) g (off + q * 6) _ _ rfl rfl rfl h1 hg Try.underlying29 rfl info29 ?_
      simp only [Act.put, List.setIfInBounds_toArray, List.set_cons_zero, List.set_cons_succ]
      refine q_mv (.slice (some ⟨g', off', none⟩) ys.length m) _ rfl (.inl rfl) rfl ?_
      simp only [Act.put, List.setIfInBounds_toArray, List.set_cons_zero, List.set_cons_succ]
      refine q_mv (.int .i64 q) _ rfl (.inl rfl) rfl ?_
      simp only [Act.put, List.setIfInBounds_toArray, List.set_cons_zero, List.set_cons_succ]
      refine q_pure (.pointer (some ⟨g', off' + q * 6, none⟩)) rfl (by intro _; simp [go_sem, hly]) ?_
      simp only [Act.put, List.setIfInBounds_toArray, List.set_cons_zero, List.set_cons_succ]
      refine q_mid 29 (.tmp 21) g' (off' + q * 6) _ _ rfl rfl rfl h1' hg' Try.underlying29 rfl info29 ?_
      simp only [Act.put, List.setIfInBounds_toArray, List.set_cons_zero, List.set_cons_succ]
      refine q_call 25 _ _ rfl (by intro _; simp [go_sem]) HI ?_
      simp only [Act.put, List.setIfInBounds_toArray, List.set_cons_zero, List.set_cons_succ]
      refine q_mv (.int .i64 (x.cmp y)) _ rfl (.inr rfl) rfl ?_
      simp only [Act.put, List.setIfInBounds_toArray, List.set_cons_zero, List.set_cons_succ]
      refine wpQuiet_nil fun w' hw' => ?_
      have HW := Lib.hid (HO.out.trans hw')
      clear hw' h1 h1' hg hg'
      by_cases he : x.cmp y = 0
      · go_wp2_with fail
        go_roundw
        case rel => 
          have hc := HC.out.trans HE.out
          rw [if_pos he] at hc
          exact ⟨HW.out, q + 1, by simp, by omega, hc⟩
        case measure => simp [intOf]; omega
      · go_wp2_with fail
        go_ret
        have hc := HC.out.trans HE.out
        rw [if_neg he] at hc
        exact ⟨by rw [hc]; rfl, HW.out⟩
    · have hz := cmpAll_done (show min xs.length ys.length = q by omega)
      have HC' := Lib.hid (HC.out.trans hz)
      clear hz
      have HI := fun u => Lib.hid (cmp_int xs.length ys.length u)
      first
        | (have hn : ¬ q < ys.length := by omega)
          go_wp2_with fail
          refine (HI _).out.mono ?_; rintro e w1 ⟨rfl, rfl⟩
          go_wp2_with fail
          go_ret
          exact ⟨by rw [HC'.out]; rfl, HO.out⟩
        | (have hn : ¬ q < xs.length := by omega)
          go_wp2_with fail
          refine (HI _).out.mono ?_; rintro e w1 ⟨rfl, rfl⟩
          go_wp2_with fail
          go_ret
          exact ⟨by rw [HC'.out]; rfl, HO.out⟩

set_option maxRecDepth 100000 in
set_option maxHeartbeats 1000000 in
theorem rcompareAll_is (xs ys : List It) (A B : Option Addr) (n m : Nat) (w : World) (hA : RowsAt w A 7 (xs.map fun x => x.r.toList)) (hB : RowsAt w B 7 (ys.map fun x => x.r.toList)) (hX : ∀ x ∈ xs, x.In) (hY : ∀ x ∈ ys, x.In) (hx : xs.length ≤ 4398046511104) : Calls Try.prog 39 #[.slice A xs.length n, .slice B ys.length m] w (Ans (.int .i64 (cmpAll xs ys)) w) := by
  have hO := Only.refl NoneOf w
  have HA := Lib.hid hA
  have HB := Lib.hid hB
  clear hA hB
  go_enter Try.func39, Try.ntmps39
  go_wp2_with fail
  go_loopw [5] (fun i wr => AllRel xs ys w i wr) (fun i _ => xs.length - (intOf i).toNat)
  case atStart => exact ⟨hO, 0, rfl, Nat.zero_le _, rfl⟩
  case round =>
    obtain ⟨ho, q, rfl, hq, hc⟩ := hrel
    have HO := Lib.hid ho
    have HC := Lib.hid hc
    clear ho hc
    by_cases hlt : q < min xs.length ys.length
    · have hlx : q < xs.length := by omega
      have hly : q < ys.length := by omega
      obtain ⟨g, off, rfl, hg, h1⟩ := (HA.out.keep HO.out) q xs[q].r.toList (by simp [hlx])
      obtain ⟨g', off', rfl, hg', h1'⟩ := (HB.out.keep HO.out) q ys[q].r.toList (by simp [hly])
      have HE := Lib.hid (cmpAll_at hlx hly)
      have HI := fun u => Lib.hid (rcompare_is xs[q] ys[q] (hX _ (List.getElem_mem hlx)) (hY _ (List.getElem_mem hly)) u)
      generalize xs[q] = x at *
      generalize ys[q] = y at *
      go_upto_region 4 with (fail)
      refine wp_region_aft (by kernel_rfl) (by kernel_rfl) ?_
      refine q_mv (.slice (some ⟨g, off, none⟩) xs.length n) _ rfl (.inl rfl) rfl ?_
      simp only [Act.put, List.setIfInBounds_toArray, List.set_cons_zero, List.set_cons_succ]
      refine q_mv (.int .i64 q) _ rfl (.inl rfl) rfl ?_
      simp only [Act.put, List.setIfInBounds_toArray, List.set_cons_zero, List.set_cons_succ]
      refine q_pure (.pointer (some ⟨g, off + q * 7, none⟩)) rfl (by intro _; simp [go_sem, hlx]) ?_
      simp only [Act.put, List.setIfInBounds_toArray, List.set_cons_zero, List.set_cons_succ]
      refine q_mid 32 (.tmp 21) g (off + q * 7) _ _ rfl rfl rfl h1 hg Try.underlying32 rfl info32 ?_
      simp only [Act.put, List.setIfInBounds_toArray, List.set_cons_zero, List.set_cons_succ]
      refine q_mv (.slice (some ⟨g', off', none⟩) ys.length m) _ rfl (.inl rfl) rfl ?_
      simp only [Act.put, List.setIfInBounds_toArray, List.set_cons_zero, List.set_cons_succ]
      refine q_mv (.int .i64 q) _ rfl (.inl rfl) rfl ?_
      simp only [Act.put, List.setIfInBounds_toArray, List.set_cons_zero, List.set_cons_succ]
      refine q_pure (.pointer (some ⟨g', off' + q * 7, none⟩)) rfl (by intro _; simp [go_sem, hly]) ?_
      simp only [Act.put, List.setIfInBounds_toArray, List.set_cons_zero, List.set_cons_succ]
      refine q_mid 32 (.tmp 25) g' (off' + q * 7) _ _ rfl rfl rfl h1' hg' Try.underlying32 rfl info32 ?_
      simp only [Act.put, List.setIfInBounds_toArray, List.set_cons_zero, List.set_cons_succ]
      refine q_call 26 _ _ rfl (by intro _; simp [go_sem]) HI ?_
      simp only [Act.put, List.setIfInBounds_toArray, List.set_cons_zero, List.set_cons_succ]
      refine q_mv (.int .i64 (x.cmp y)) _ rfl (.inr rfl) rfl ?_
      simp only [Act.put, List.setIfInBounds_toArray, List.set_cons_zero, List.set_cons_succ]
      refine wpQuiet_nil fun w' hw' => ?_
      have HW := Lib.hid (HO.out.trans hw')
      clear hw' h1 h1' hg hg'
      by_cases he : x.cmp y = 0
      · go_wp2_with fail
        go_roundw
        case rel => 
          have hc := HC.out.trans HE.out
          rw [if_pos he] at hc
          exact ⟨HW.out, q + 1, by simp, by omega, hc⟩
        case measure => simp [intOf]; omega
      · go_wp2_with fail
        go_ret
        have hc := HC.out.trans HE.out
        rw [if_neg he] at hc
        exact ⟨by rw [hc]; rfl, HW.out⟩
    · have hz := cmpAll_done (show min xs.length ys.length = q by omega)
      have HC' := Lib.hid (HC.out.trans hz)
      clear hz
      have HI := fun u => Lib.hid (ints_is xs.length ys.length u)
      by_cases hn : q < xs.length
      · have hm : ¬ q < ys.length := by omega
        go_wp2_with fail
        refine (HI _).out.mono ?_; rintro e w1 ⟨rfl, rfl⟩
        go_wp2_with fail
        go_ret
        exact ⟨by rw [HC'.out]; rfl, HO.out⟩
      · go_wp2_with fail
        refine (HI _).out.mono ?_; rintro e w1 ⟨rfl, rfl⟩
        go_wp2_with fail
        go_ret
        exact ⟨by rw [HC'.out]; rfl, HO.out⟩

set_option maxRecDepth 100000 in
set_option maxHeartbeats 1000000 in
theorem comparesAll_walk (xs ys : List It) (A B : Option Addr) (n m : Nat) (w : World) (hA : RawsAt w A xs) (hB : RawsAt w B ys) (hX : ∀ x ∈ xs, x.In) (hY : ∀ x ∈ ys, x.In) (hx : xs.length ≤ 4398046511104) (hy : ys.length ≤ 4398046511104) : Calls Try.prog 13 #[.slice A xs.length n, .slice B ys.length m] w (Ans (.bool true) w) := by
  have HA := Lib.hid hA
  have HB := Lib.hid hB
  have hAw := fun u => Lib.hid (awake_is u)
  clear hA hB
  go_enter Try.func13, Try.ntmps13
  go_wp2_with fail
  refine (items_is xs A n w HA.out hx).mono ?_; rintro e w1 ⟨b1, rfl, hb1, h1, ho1⟩
  have HO1 := Lib.hid ho1
  have H1 := Lib.hid h1
  clear ho1 h1
  go_wp2_with fail
  refine (items_is ys B m w1 (HB.out.keep HO1.out) hy).mono ?_; rintro e w2 ⟨b2, rfl, hb2, h2, ho2⟩
  have HO2 := Lib.hid (HO1.out.trans ho2)
  have H2 := Lib.hid h2
  have H1' := Lib.hid (H1.out.keep ho2)
  clear ho2 h2
  go_wp2_with fail
  refine (compareAll_is xs ys _ _ _ _ w2 H1'.out H2.out hx hy).mono ?_; rintro e w3 ⟨rfl, ho3⟩
  have HO3 := Lib.hid (HO2.out.trans ho3)
  clear ho3
  go_wp2_with fail
  refine (docs_is xs A n w3 (HA.out.keep HO3.out) hx).mono ?_; rintro e w4 ⟨b4, rfl, hb4, h4, ho4⟩
  have HO4 := Lib.hid (HO3.out.trans ho4)
  have H4 := Lib.hid h4
  clear ho4 h4
  go_wp2_with fail
  refine (docs_is ys B m w4 (HB.out.keep HO4.out) hy).mono ?_; rintro e w5 ⟨b5, rfl, hb5, h5, ho5⟩
  have HO5 := Lib.hid (HO4.out.trans ho5)
  have H5 := Lib.hid h5
  have H4' := Lib.hid (H4.out.keep ho5)
  clear ho5 h5
  go_wp2_with fail
  refine (rcompareAll_is xs ys _ _ _ _ w5 H4'.out H5.out hX hY hx).mono ?_; rintro e w6 ⟨rfl, ho6⟩
  have HO6 := Lib.hid (HO5.out.trans ho6)
  clear ho6
  go_wp2_with fail
  refine (hAw _).out.mono ?_; rintro e w7 ⟨rfl, ho7⟩
  have HO7 := Lib.hid (HO6.out.trans ho7)
  clear ho7
  go_wp2_with fail
  go_ret
  exact ⟨rfl, HO7.out⟩

end Go.Proofs.Ytimoenpfnaaehaa
