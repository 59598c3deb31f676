/-
  Layer 4's law OrderKeeps, walked.
-/
import Derived.Test.YtimoenpfnaaehaaOX2
import Derived.Test.YtimoenpfnaaehaaOQ2
namespace Go.Proofs.Ytimoenpfnaaehaa
open Go.RowKit

theorem dec_any {r : Option (List It)} {w w' : World} {e : Ending} (h : DecPost r w e w') : ∃ A cap ec, e = .returned (.tuple #[.slice A (r.getD []).length cap, .int .i64 ec]) ∧ RowI w' w.heap.size (.slice A (r.getD []).length cap) (r.getD []) ∧ Only NoneOf w w' := by
  obtain ⟨h1, h2⟩ := h
  cases r with
  | none => exact ⟨none, 0, 41, h1, rowI_nil _ _, h2⟩
  | some ys =>
    obtain ⟨v, rfl, hr, _⟩ := h1
    obtain ⟨A, cap, rfl, _⟩ := hr.at
    exact ⟨A, cap, 0, rfl, hr, h2⟩
theorem rdec_any {r : Option (List It)} {w w' : World} {e : Ending} (h : RDecPost r w e w') : ∃ A cap ec, e = .returned (.tuple #[.slice A (r.getD []).length cap, .int .i64 ec]) ∧ RowD w' w.heap.size (.slice A (r.getD []).length cap) (r.getD []) ∧ Only NoneOf w w' := by
  obtain ⟨h1, h2⟩ := h
  cases r with
  | none => exact ⟨none, 0, 41, h1, rowD_nil _ _, h2⟩
  | some ys =>
    obtain ⟨v, rfl, hr⟩ := h1
    obtain ⟨A, cap, rfl, _⟩ := hr.at
    exact ⟨A, cap, 0, rfl, hr, h2⟩

def marks (q : Nat) : List It := (List.range q).map mark
theorem marks_next (q : Nat) : marks (q + 1) = marks q ++ [mark q] := by simp [marks, List.range_succ]
theorem marks_len (q : Nat) : (marks q).length = q := by simp [marks]
theorem marks_get {q i : Nat} (h : i < q) : (marks q)[i]? = some (mark i) := by simp [marks, h]

def GapRel (xs : List It) (w : World) (v0 i : Value) (wr : World) : Prop := Only NoneOf w wr ∧ ∃ q : Nat, i = .int .i64 q ∧ q ≤ 70 ∧ RowI wr w.heap.size v0 (xs ++ marks q)

def OverRel (W : World) (B : Nat) (va : Value) (n : Nat) (i : Value) (wr : World) : Prop :=
  ∃ (q : Nat) (zs : List It), i = .int .i64 q ∧ q ≤ n ∧ zs.length = n ∧ RowI wr B va zs ∧ Only (fun k => va.ownBlock = some k) W wr
def MoreRel (W : World) (B : Nat) (va : Value) (n : Nat) (v0 i : Value) (wr : World) : Prop :=
  ∃ (q : Nat) (zs : List It), i = .int .i64 q ∧ q ≤ 70 ∧ zs.length = n + q ∧ RowI wr B v0 zs ∧ Only (fun k => va.ownBlock = some k) W wr ∧ ∀ k, v0.ownBlock = some k → va.ownBlock = some k ∨ W.heap.size ≤ k

/-- a row longer than none has a place -/
theorem RowI.some {w : World} {B : Nat} {v : Value} {xs : List It} (h : RowI w B v xs) (hl : 0 < xs.length) : ∃ g cap, v = .slice (some ⟨g, 0, none⟩) xs.length cap ∧ xs.length ≤ cap := by
  rcases h.2 with ⟨_, h0⟩ | ⟨g, cap, cur, rfl, _, _, hle, _⟩
  · omega
  · exact ⟨g, cap, rfl, hle⟩

set_option maxRecDepth 100000 in
set_option maxHeartbeats 1500000 in
theorem keeps_walk (xs : List It) (A : Option Addr) (n : Nat) (s later : ByteArray) (w : World) (hA : RawsAt w A xs) (hX : Small xs) (hs : s.size ≤ 1048576) (hla : later.size ≤ 1048576) : Calls Try.prog 15 #[.slice A xs.length n, .string s, .string later] w (Ans (.bool true) w) := by
  have HA := Lib.hid hA
  have hAw := fun u => Lib.hid (awake_is u)
  have lx : xs.length ≤ 1048576 := hX.len
  have WX := Lib.hid hX.wf
  have HD := Lib.hid fun u => decode_is s u (by omega)
  have HL := Lib.hid fun u => decode_is later u (by omega)
  have HE := Lib.hid fun u => rdecode_is s u (by omega)
  rw [ref_dec] at HE
  have hf := fun zs => @dec_few s zs
  obtain ⟨R, HR⟩ : ∃ R, Hid (decL s = R) := ⟨_, Lib.hid rfl⟩
  rw [HR.out] at HD HE hf
  have hys : (R.getD []).length ≤ 64 := by
    cases R with
    | none => simp
    | some zs => exact hf zs rfl
  obtain ⟨RL, HRL⟩ : ∃ RL, Hid (decL later = RL) := ⟨_, Lib.hid rfl⟩
  rw [HRL.out] at HL
  clear hA hX hf HR HRL hs hla
  go_enter Try.func15, Try.ntmps15
  go_wp2_with fail
  refine (hAw _).out.mono ?_; rintro e0 w0 ⟨rfl, ho0⟩
  have HO0 := Lib.hid ho0
  clear ho0
  go_wp2_with fail
  refine (items_own xs A n w0 (HA.out.keep HO0.out) (by omega)).mono ?_; rintro e0 w1 ⟨v1, rfl, hr1, ho1⟩
  have HO1 := Lib.hid (HO0.out.trans ho1)
  have HR1 := Lib.hid (show RowI w1 w.heap.size v1 (xs ++ marks 0) by
    rw [show xs ++ marks 0 = xs from List.append_nil xs]
    refine ⟨hr1.1, ?_⟩
    rcases hr1.2 with h0 | ⟨g, cap, cur, hv, hb, r⟩
    · exact .inl h0
    · exact .inr ⟨g, cap, cur, hv, Nat.le_trans HO0.out.size hb, r⟩)
  clear ho1 hr1
  go_wp2_with fail
  go_loopw [7, 8] (fun v0 i wr => GapRel xs w v0 i wr) (fun _ i _ => 70 - (intOf i).toNat)
  case atStart => exact ⟨HO1.out, 0, rfl, by omega, HR1.out⟩
  case round =>
    clear HO1 HR1
    obtain ⟨ho, q, rfl, hq, hr⟩ := hrel
    have HO := Lib.hid ho
    have HRw := Lib.hid hr
    have hws := ho.size
    clear ho hr
    by_cases hlt : q < 70
    · have HM := fun u => Lib.hid (marked_is q u (by omega))
      have HN := Lib.hid (marks_next q)
      have hml := marks_len q
      go_wp2_with fail
      refine (HM _).out.mono ?_; rintro e0 w2 ⟨rfl, ho2⟩
      have HR2 := Lib.hid (HRw.out.keep ho2)
      have HO2 := Lib.hid (HO.out.trans ho2)
      have hN := Blk.new w2 29 (mark q).c
      have hs2 := ho2.size
      clear ho2
      go_wp2_with (at_builtin; refine app_item rfl (.tmp 29) (.tmp 32) rfl w.heap.size _ (xs ++ marks q) rfl (HR2.out.keep ((Only.refl NoneOf w2).alloc _)) w2.heap.size 1 (mark q) rfl hN (by rw [List.length_append]; omega) (by simp; omega) ?_; intro v4 w4 g1 g2 g3)
      have HG1 := Lib.hid g1
      have HO4 := Lib.hid (show Only NoneOf w w4 from (HO2.out.alloc _).step g2 (fun k hk hh => by
        have := HR2.out.ge hh
        omega))
      clear g1 g2 g3
      go_roundw
      case rel => exact ⟨HO4.out, q + 1, by simp, by omega, by rw [HN.out, ← List.append_assoc]; exact HG1.out⟩
      case measure => simp [intOf]; omega
    · obtain rfl : q = 70 := by omega
      have hlen : (xs ++ marks 70).length = xs.length + 70 := by rw [List.length_append, marks_len]
      obtain ⟨g0, cap, hv0, hcap⟩ := HRw.out.some (by omega)
      rw [hlen] at hcap hv0
      subst hv0
      have hi := HRw.out.at
      obtain ⟨A', cap', hv, hi⟩ := hi
      rw [hlen] at hv
      simp only [Value.slice.injEq, true_and] at hv
      obtain ⟨rfl, rfl⟩ := hv
      have HF := Lib.hid (items_rows hi)
      have HP := Lib.hid (show ItemsAt wr (some ⟨g0, 0, none⟩) xs from fun i x hx => hi i x (by rw [List.getElem?_append_left (List.getElem?_eq_some_iff.1 hx).1]; exact hx))
      clear hi
      have hc2 : xs.length ≤ cap := by omega
      obtain ⟨TE, HTE⟩ : ∃ TE, Hid (encL xs = TE) := ⟨_, Lib.hid rfl⟩
      obtain ⟨te, ee⟩ := TE
      go_wp2_with fail
      refine (encode_is wr _ _ _ xs rfl (by omega) HP.out WX.out).mono ?_; rintro e0 w2 ⟨rfl, ho2⟩
      rw [HTE.out]
      have HO2 := Lib.hid (HO.out.trans ho2)
      have HF2 := Lib.hid (HF.out.keep ho2)
      have HP2 := Lib.hid (items_rows (HP.out.keep ho2))
      clear ho2
      go_wp2_with fail
      refine (compareAll_is xs xs _ _ _ _ w2 HP2.out HP2.out (by omega) (by omega)).mono ?_; rintro e0 w3 ⟨rfl, ho3⟩
      have HO3 := Lib.hid (HO2.out.trans ho3)
      have HF3 := Lib.hid (HF2.out.keep ho3)
      have HK := Lib.hid (show True from trivial)
      clear ho3 HRw HO HF HP HO2 HF2 HP2 HTE
      go_wp2_with fail
      go_loopw [10] (fun i wr => CntRel w3 (xs.length + 70) i wr) (fun i _ => xs.length + 70 - (intOf i).toNat)
      case atStart => exact ⟨Only.refl _ _, 0, rfl, by omega⟩
      case round =>
        obtain ⟨ho, q, rfl, hq⟩ := hrel
        have HO := Lib.hid ho
        have HO5 := Lib.hid (HO3.out.trans ho)
        clear ho
        by_cases hq7 : q < xs.length + 70
        · have hfl : q < (xs ++ marks 70).length := by omega
          have hq8 : (q : Int) < (xs.length : Int) + 70 := by omega
          obtain ⟨g, off, hAe, hg, h1⟩ := (HF3.out.keep HO.out) q (xs ++ marks 70)[q].c.toList (by rw [List.getElem?_map, List.getElem?_eq_getElem hfl]; rfl)
          simp only [Option.some.injEq, Addr.mk.injEq, and_true] at hAe
          obtain ⟨rfl, rfl⟩ := hAe
          by_cases hlx : q < xs.length
          · obtain ⟨g', off', rfl, hg', h1'⟩ := (raws_rows (HA.out.keep HO5.out)) q xs[q].r.toList (by simp [hlx])
            rw [List.getElem_append_left hlx] at h1
            have HI := fun u => Lib.hid (item_is xs[q].k xs[q].b xs[q].n xs[q].f xs[q].re xs[q].im xs[q].t u)
            have HS := fun u => Lib.hid (same_is xs[q].k xs[q].b xs[q].n xs[q].f xs[q].re xs[q].im xs[q].t u)
            generalize xs[q] = x at *
            go_upto_region 14 with (fail)
            refine wp_region_qg (by kernel_rfl) (by kernel_rfl) ?_
            refine g_mv (.int .i64 q) _ (by kernel_rfl) (.inl rfl) rfl ?_
            simp only [Act.put, List.setIfInBounds_toArray, List.set_cons_zero, List.set_cons_succ]
            refine g_mv (.slice (some ⟨g', off', none⟩) xs.length n) _ (by kernel_rfl) (.inl rfl) rfl ?_
            simp only [Act.put, List.setIfInBounds_toArray, List.set_cons_zero, List.set_cons_succ]
            refine g_pure (.int .i64 xs.length) (by kernel_rfl) (by intro _; simp [go_sem]) ?_
            simp only [Act.put, List.setIfInBounds_toArray, List.set_cons_zero, List.set_cons_succ]
            refine g_pure (.bool true) (by kernel_rfl) (by intro _; simp [go_sem, hlx]) ?_
            simp only [Act.put, List.setIfInBounds_toArray, List.set_cons_zero, List.set_cons_succ]
            refine g_mv (.bool true) _ (by kernel_rfl) (.inl rfl) rfl ?_
            simp only [Act.put, List.setIfInBounds_toArray, List.set_cons_zero, List.set_cons_succ]
            refine g_mv (.slice (some ⟨g0, 0, none⟩) (xs.length + 70) cap) _ (by kernel_rfl) (.inl rfl) rfl ?_
            simp only [Act.put, List.setIfInBounds_toArray, List.set_cons_zero, List.set_cons_succ]
            refine g_mv (.int .i64 q) _ (by kernel_rfl) (.inl rfl) rfl ?_
            simp only [Act.put, List.setIfInBounds_toArray, List.set_cons_zero, List.set_cons_succ]
            refine g_pure (.pointer (some ⟨g0, 0 + q * 6, none⟩)) (by kernel_rfl) (by intro _; simp [go_sem, hq8]) ?_
            simp only [Act.put, List.setIfInBounds_toArray, List.set_cons_zero, List.set_cons_succ]
            refine g_mid 29 (.tmp 56) g0 (0 + q * 6) _ _ (by kernel_rfl) rfl rfl h1 hg Try.underlying29 rfl info29 ?_
            simp only [Act.put, List.setIfInBounds_toArray, List.set_cons_zero, List.set_cons_succ]
            refine g_mv (.slice (some ⟨g', off', none⟩) xs.length n) _ (by kernel_rfl) (.inl rfl) rfl ?_
            simp only [Act.put, List.setIfInBounds_toArray, List.set_cons_zero, List.set_cons_succ]
            refine g_mv (.int .i64 q) _ (by kernel_rfl) (.inl rfl) rfl ?_
            simp only [Act.put, List.setIfInBounds_toArray, List.set_cons_zero, List.set_cons_succ]
            refine g_pure (.pointer (some ⟨g', off' + q * 7, none⟩)) (by kernel_rfl) (by intro _; simp [go_sem, hlx]) ?_
            simp only [Act.put, List.setIfInBounds_toArray, List.set_cons_zero, List.set_cons_succ]
            refine g_mid 25 (.tmp 60) g' (off' + q * 7) _ _ (by kernel_rfl) rfl rfl h1' hg' Try.underlying25 rfl info25 ?_
            simp only [Act.put, List.setIfInBounds_toArray, List.set_cons_zero, List.set_cons_succ]
            refine g_call 18 _ _ (by kernel_rfl) (by intro _; simp [go_sem]) HI ?_
            simp only [Act.put, List.setIfInBounds_toArray, List.set_cons_zero, List.set_cons_succ]
            refine g_call 41 _ _ (by kernel_rfl) (by intro _; simp [go_sem]) HS ?_
            simp only [Act.put, List.setIfInBounds_toArray, List.set_cons_zero, List.set_cons_succ]
            refine g_pure (.bool false) (by kernel_rfl) (by intro _; simp [go_sem]) ?_
            simp only [Act.put, List.setIfInBounds_toArray, List.set_cons_zero, List.set_cons_succ]
            refine g_pure (.bool false) (by kernel_rfl) (by intro _; simp [go_sem]) ?_
            simp only [Act.put, List.setIfInBounds_toArray, List.set_cons_zero, List.set_cons_succ]
            refine g_mv (.bool false) _ (by kernel_rfl) (.inl rfl) rfl ?_
            simp only [Act.put, List.setIfInBounds_toArray, List.set_cons_zero, List.set_cons_succ]
            refine g_mv (.int .i64 q) _ (by kernel_rfl) (.inl rfl) rfl ?_
            simp only [Act.put, List.setIfInBounds_toArray, List.set_cons_zero, List.set_cons_succ]
            refine g_mv (.slice (some ⟨g', off', none⟩) xs.length n) _ (by kernel_rfl) (.inl rfl) rfl ?_
            simp only [Act.put, List.setIfInBounds_toArray, List.set_cons_zero, List.set_cons_succ]
            refine g_pure (.int .i64 xs.length) (by kernel_rfl) (by intro _; simp [go_sem]) ?_
            simp only [Act.put, List.setIfInBounds_toArray, List.set_cons_zero, List.set_cons_succ]
            refine g_pure (.bool false) (by kernel_rfl) (by intro _; simp [go_sem, hlx]) ?_
            simp only [Act.put, List.setIfInBounds_toArray, List.set_cons_zero, List.set_cons_succ]
            refine g_mv (.bool false) _ (by kernel_rfl) (.inl rfl) rfl ?_
            simp only [Act.put, List.setIfInBounds_toArray, List.set_cons_zero, List.set_cons_succ]
            refine g_skip (by kernel_rfl) ?_
            simp only [Act.put, List.setIfInBounds_toArray, List.set_cons_zero, List.set_cons_succ]
            refine g_skip (by kernel_rfl) ?_
            simp only [Act.put, List.setIfInBounds_toArray, List.set_cons_zero, List.set_cons_succ]
            refine g_skip (by kernel_rfl) ?_
            simp only [Act.put, List.setIfInBounds_toArray, List.set_cons_zero, List.set_cons_succ]
            refine g_skip (by kernel_rfl) ?_
            simp only [Act.put, List.setIfInBounds_toArray, List.set_cons_zero, List.set_cons_succ]
            refine g_skip (by kernel_rfl) ?_
            simp only [Act.put, List.setIfInBounds_toArray, List.set_cons_zero, List.set_cons_succ]
            refine g_skip (by kernel_rfl) ?_
            simp only [Act.put, List.setIfInBounds_toArray, List.set_cons_zero, List.set_cons_succ]
            refine g_skip (by kernel_rfl) ?_
            simp only [Act.put, List.setIfInBounds_toArray, List.set_cons_zero, List.set_cons_succ]
            refine g_skip (by kernel_rfl) ?_
            simp only [Act.put, List.setIfInBounds_toArray, List.set_cons_zero, List.set_cons_succ]
            refine g_skip (by kernel_rfl) ?_
            simp only [Act.put, List.setIfInBounds_toArray, List.set_cons_zero, List.set_cons_succ]
            refine g_skip (by kernel_rfl) ?_
            simp only [Act.put, List.setIfInBounds_toArray, List.set_cons_zero, List.set_cons_succ]
            refine g_pure (.bool false) (by kernel_rfl) (by intro _; simp [go_sem]) ?_
            simp only [Act.put, List.setIfInBounds_toArray, List.set_cons_zero, List.set_cons_succ]
            refine g_pure (.bool false) (by kernel_rfl) (by intro _; simp [go_sem]) ?_
            simp only [Act.put, List.setIfInBounds_toArray, List.set_cons_zero, List.set_cons_succ]
            refine g_nil fun w' hw' => ?_
            have HW := Lib.hid (HO.out.trans hw')
            clear hw' h1 h1' hg hg' HI HS
            go_wp2_with fail
            go_roundw
            case rel => exact ⟨HW.out, q + 1, by simp, by omega⟩
            case measure => simp [intOf]; omega
          · have hge : xs.length ≤ q := by omega
            have hm : (xs ++ marks 70)[q] = mark (q - xs.length) := by
              rw [List.getElem_append_right hge]
              have := marks_get (q := 70) (i := q - xs.length) (by omega)
              exact (List.getElem?_eq_some_iff.1 this).2
            rw [hm] at h1
            have HM := fun u => Lib.hid (isMark_is (q - xs.length) u (by omega))
            clear hm
            have hsub : IntKind.i64.wrap ((q : Int) - (xs.length : Int)) = ((q - xs.length : Nat) : Int) := by rw [IntKind.wrap_i64]; omega
            go_upto_region 14 with (fail)
            refine wp_region_qg (by kernel_rfl) (by kernel_rfl) ?_
            refine g_mv (.int .i64 q) _ (by kernel_rfl) (.inl rfl) rfl ?_
            simp only [Act.put, List.setIfInBounds_toArray, List.set_cons_zero, List.set_cons_succ]
            refine g_mv (.slice A xs.length n) _ (by kernel_rfl) (.inl rfl) rfl ?_
            simp only [Act.put, List.setIfInBounds_toArray, List.set_cons_zero, List.set_cons_succ]
            refine g_pure (.int .i64 xs.length) (by kernel_rfl) (by intro _; simp [go_sem]) ?_
            simp only [Act.put, List.setIfInBounds_toArray, List.set_cons_zero, List.set_cons_succ]
            refine g_pure (.bool false) (by kernel_rfl) (by intro _; simp [go_sem, hge]) ?_
            simp only [Act.put, List.setIfInBounds_toArray, List.set_cons_zero, List.set_cons_succ]
            refine g_mv (.bool false) _ (by kernel_rfl) (.inl rfl) rfl ?_
            simp only [Act.put, List.setIfInBounds_toArray, List.set_cons_zero, List.set_cons_succ]
            refine g_skip (by kernel_rfl) ?_
            simp only [Act.put, List.setIfInBounds_toArray, List.set_cons_zero, List.set_cons_succ]
            refine g_skip (by kernel_rfl) ?_
            simp only [Act.put, List.setIfInBounds_toArray, List.set_cons_zero, List.set_cons_succ]
            refine g_skip (by kernel_rfl) ?_
            simp only [Act.put, List.setIfInBounds_toArray, List.set_cons_zero, List.set_cons_succ]
            refine g_skip (by kernel_rfl) ?_
            simp only [Act.put, List.setIfInBounds_toArray, List.set_cons_zero, List.set_cons_succ]
            refine g_skip (by kernel_rfl) ?_
            simp only [Act.put, List.setIfInBounds_toArray, List.set_cons_zero, List.set_cons_succ]
            refine g_skip (by kernel_rfl) ?_
            simp only [Act.put, List.setIfInBounds_toArray, List.set_cons_zero, List.set_cons_succ]
            refine g_skip (by kernel_rfl) ?_
            simp only [Act.put, List.setIfInBounds_toArray, List.set_cons_zero, List.set_cons_succ]
            refine g_skip (by kernel_rfl) ?_
            simp only [Act.put, List.setIfInBounds_toArray, List.set_cons_zero, List.set_cons_succ]
            refine g_skip (by kernel_rfl) ?_
            simp only [Act.put, List.setIfInBounds_toArray, List.set_cons_zero, List.set_cons_succ]
            refine g_skip (by kernel_rfl) ?_
            simp only [Act.put, List.setIfInBounds_toArray, List.set_cons_zero, List.set_cons_succ]
            refine g_skip (by kernel_rfl) ?_
            simp only [Act.put, List.setIfInBounds_toArray, List.set_cons_zero, List.set_cons_succ]
            refine g_pure (.bool false) (by kernel_rfl) (by intro _; simp [go_sem]) ?_
            simp only [Act.put, List.setIfInBounds_toArray, List.set_cons_zero, List.set_cons_succ]
            refine g_mv (.bool false) _ (by kernel_rfl) (.inl rfl) rfl ?_
            simp only [Act.put, List.setIfInBounds_toArray, List.set_cons_zero, List.set_cons_succ]
            refine g_mv (.int .i64 q) _ (by kernel_rfl) (.inl rfl) rfl ?_
            simp only [Act.put, List.setIfInBounds_toArray, List.set_cons_zero, List.set_cons_succ]
            refine g_mv (.slice A xs.length n) _ (by kernel_rfl) (.inl rfl) rfl ?_
            simp only [Act.put, List.setIfInBounds_toArray, List.set_cons_zero, List.set_cons_succ]
            refine g_pure (.int .i64 xs.length) (by kernel_rfl) (by intro _; simp [go_sem]) ?_
            simp only [Act.put, List.setIfInBounds_toArray, List.set_cons_zero, List.set_cons_succ]
            refine g_pure (.bool true) (by kernel_rfl) (by intro _; simp [go_sem, hge]) ?_
            simp only [Act.put, List.setIfInBounds_toArray, List.set_cons_zero, List.set_cons_succ]
            refine g_mv (.bool true) _ (by kernel_rfl) (.inl rfl) rfl ?_
            simp only [Act.put, List.setIfInBounds_toArray, List.set_cons_zero, List.set_cons_succ]
            refine g_mv (.slice (some ⟨g0, 0, none⟩) (xs.length + 70) cap) _ (by kernel_rfl) (.inl rfl) rfl ?_
            simp only [Act.put, List.setIfInBounds_toArray, List.set_cons_zero, List.set_cons_succ]
            refine g_mv (.int .i64 q) _ (by kernel_rfl) (.inl rfl) rfl ?_
            simp only [Act.put, List.setIfInBounds_toArray, List.set_cons_zero, List.set_cons_succ]
            refine g_pure (.pointer (some ⟨g0, 0 + q * 6, none⟩)) (by kernel_rfl) (by intro _; simp [go_sem, hq8]) ?_
            simp only [Act.put, List.setIfInBounds_toArray, List.set_cons_zero, List.set_cons_succ]
            refine g_mid 29 (.tmp 74) g0 (0 + q * 6) _ _ (by kernel_rfl) rfl rfl h1 hg Try.underlying29 rfl info29 ?_
            simp only [Act.put, List.setIfInBounds_toArray, List.set_cons_zero, List.set_cons_succ]
            refine g_mv (.int .i64 q) _ (by kernel_rfl) (.inl rfl) rfl ?_
            simp only [Act.put, List.setIfInBounds_toArray, List.set_cons_zero, List.set_cons_succ]
            refine g_mv (.slice A xs.length n) _ (by kernel_rfl) (.inl rfl) rfl ?_
            simp only [Act.put, List.setIfInBounds_toArray, List.set_cons_zero, List.set_cons_succ]
            refine g_pure (.int .i64 xs.length) (by kernel_rfl) (by intro _; simp [go_sem]) ?_
            simp only [Act.put, List.setIfInBounds_toArray, List.set_cons_zero, List.set_cons_succ]
            refine g_pure (.int .i64 ((q - xs.length : Nat) : Int)) (by kernel_rfl) (by intro _; simp [go_sem, hsub]) ?_
            simp only [Act.put, List.setIfInBounds_toArray, List.set_cons_zero, List.set_cons_succ]
            refine g_call 42 _ _ (by kernel_rfl) (by intro _; simp [go_sem]) HM ?_
            simp only [Act.put, List.setIfInBounds_toArray, List.set_cons_zero, List.set_cons_succ]
            refine g_pure (.bool false) (by kernel_rfl) (by intro _; simp [go_sem]) ?_
            simp only [Act.put, List.setIfInBounds_toArray, List.set_cons_zero, List.set_cons_succ]
            refine g_pure (.bool false) (by kernel_rfl) (by intro _; simp [go_sem]) ?_
            simp only [Act.put, List.setIfInBounds_toArray, List.set_cons_zero, List.set_cons_succ]
            refine g_pure (.bool false) (by kernel_rfl) (by intro _; simp [go_sem]) ?_
            simp only [Act.put, List.setIfInBounds_toArray, List.set_cons_zero, List.set_cons_succ]
            refine g_nil fun w' hw' => ?_
            have HW := Lib.hid (HO.out.trans hw')
            clear hw' h1 hg HM
            go_wp2_with fail
            go_roundw
            case rel => exact ⟨HW.out, q + 1, by simp, by omega⟩
            case measure => simp [intOf]; omega
        · go_wp2_with fail
          refine (HE.out _).mono ?_; intro e0 w4 hd
          obtain ⟨Aw, capw, ecw, rfl, hrw, ho4⟩ := rdec_any hd
          have HO6 := Lib.hid (HO5.out.trans ho4)
          have HW4 := Lib.hid hrw
          have HLW := Lib.hid (show ∀ g, (Value.slice Aw (R.getD []).length capw).ownBlock = some g → g < w4.heap.size from fun g hg => hrw.lt hg)
          clear hd hrw ho4 HO HO3 HF3 HO5
          go_wp2_with fail
          refine (HD.out _).mono ?_; intro e0 w5 hd
          obtain ⟨Aa, capa, eca, rfl, hra, ho5⟩ := dec_any hd
          have HO7 := Lib.hid (HO6.out.trans ho5)
          have ho5' := Lib.hid ho5.size
          have HW5 := Lib.hid (HW4.out.only ho5 (fun _ _ h => h))
          have HA5 := Lib.hid hra
          clear hd hra ho5
          go_wp2_with fail
          refine (HD.out _).mono ?_; intro e0 w6 hd
          obtain ⟨Ab, capb, ecb, rfl, hrb, ho6⟩ := dec_any hd
          have HO8 := Lib.hid (HO7.out.trans ho6)
          have HW6 := Lib.hid (HW5.out.only ho6 (fun _ _ h => h))
          have HA6 := Lib.hid (HA5.out.keep ho6)
          have HB6 := Lib.hid hrb
          have HS46 := Lib.hid (show w4.heap.size ≤ w6.heap.size from Nat.le_trans ho5'.out ho6.size)
          have HSw4 := Lib.hid (show w.heap.size ≤ w4.heap.size from HO6.out.size)
          have HSA := Lib.hid (show ∀ g, (Value.slice Aa (R.getD []).length capa).ownBlock = some g → w4.heap.size ≤ g ∧ g < w5.heap.size from fun g hg => ⟨HA5.out.ge hg, HA5.out.lt hg⟩)
          have HSB := Lib.hid (show ∀ g, (Value.slice Ab (R.getD []).length capb).ownBlock = some g → w5.heap.size ≤ g from fun g hg => HB6.out.ge hg)
          clear hd hrb ho6 HW4 HW5 HA5
          generalize hgd : R.getD [] = ys at *
          go_wp2_with fail
          go_loopw [17] (fun i wr => OverRel w6 w4.heap.size (.slice Aa ys.length capa) ys.length i wr) (fun i _ => ys.length - (intOf i).toNat)
          case atStart => exact ⟨0, ys, rfl, Nat.zero_le _, rfl, HA6.out, Only.refl _ _⟩
          case round =>
            obtain ⟨q, zs, rfl, hq, hzl, hr, ho⟩ := hrel
            have HZ := Lib.hid hr
            have HOq := Lib.hid ho
            clear hr ho
            by_cases hlq : q < ys.length
            · have HM := fun u => Lib.hid (marked_is (140 + q) u (by omega))
              obtain ⟨ga, cap2, hva, hcap⟩ := HZ.out.some (by omega)
              rw [hzl] at hva hcap
              simp only [Value.slice.injEq, true_and] at hva
              obtain ⟨rfl, rfl⟩ := hva
              go_wp2_with fail
              refine (HM _).out.mono ?_; rintro e0 w7 ⟨rfl, ho7⟩
              have HZ7 := Lib.hid (HZ.out.keep ho7)
              have HO7' := Lib.hid (HOq.out.step ho7 (fun _ _ h => h.elim))
              clear ho7
              obtain ⟨ht1, hzl', hov⟩ := HZ7.out.over hlq (mark (140 + q))
              have HOV := Lib.hid hov
              clear hov
              go_wp2_with (first | (refine store29 rfl (.tmp 110) (.tmp 109) rfl ga q (1000 + ((140 + q : Nat) : Int)) false 0 0 0 0 markT (by simp [go_sem]) (by first | rfl | (simp [go_sem]; done) | (simp [go_sem]; rfl)) (by with_reducible exact ht1) ?_) | fail)
              go_roundw
              case rel => exact ⟨q + 1, zs.set q (mark (140 + q)), by simp, by omega, by rw [List.length_set]; exact hzl, HOV.out, Only.cells (S := fun k => (Value.slice (some ⟨ga, 0, none⟩) ys.length capa).ownBlock = some k) (b := ga) (.inl rfl) _ _ HO7'.out⟩
              case measure => simp [intOf]; omega
            · go_wp2_with fail
              go_loopw [13, 18] (fun v0 i wr => MoreRel w6 w4.heap.size (.slice Aa ys.length capa) ys.length v0 i wr) (fun _ i _ => 70 - (intOf i).toNat)
              case atStart => exact ⟨0, zs, rfl, by omega, by omega, HZ.out, HOq.out, fun k h => .inl h⟩
              case round =>
                clear HZ HOq hzl hq hlq
                obtain ⟨q, zs, rfl, hq, hzl, hr, ho, hown⟩ := hrel
                have HZ := Lib.hid hr
                have HOq := Lib.hid ho
                have HOWN := Lib.hid hown
                clear hr ho hown
                by_cases hlq : q < 70
                · have HM := fun u => Lib.hid (marked_is (70 + q) u (by omega))
                  go_wp2_with fail
                  refine (HM _).out.mono ?_; rintro e0 w7 ⟨rfl, ho7⟩
                  have HZ7 := Lib.hid (HZ.out.keep ho7)
                  have hs6 := HO8.out.size
                  have hs7 := HOq.out.size
                  have hs8 := ho7.size
                  have hs4 := HS46.out
                  have HO7' := Lib.hid (HOq.out.step ho7 (fun _ _ h => h.elim))
                  have hN := Blk.new w7 29 (mark (70 + q)).c
                  clear ho7
                  go_wp2_with (at_builtin; refine app_item rfl (.tmp 115) (.tmp 119) rfl w4.heap.size _ zs rfl (HZ7.out.keep ((Only.refl NoneOf w7).alloc _)) w7.heap.size 1 (mark (70 + q)) rfl hN (by omega) (by simp; omega) ?_; intro v8 w8 g1 g2 g3)
                  have HG1 := Lib.hid g1
                  have HG2 := Lib.hid ((HO7'.out.alloc _).step g2 (fun k hk hv => by
                    rcases HOWN.out k hv with h | h
                    · exact h
                    · omega))
                  have HG3 := Lib.hid (show ∀ k, v8.ownBlock = some k → (Value.slice Aa ys.length capa).ownBlock = some k ∨ w6.heap.size ≤ k from fun k hk => by
                    rcases g3 k hk with h | h
                    · exact HOWN.out k h
                    · simp at h; exact .inr (by omega))
                  clear g1 g2 g3
                  go_roundw
                  case rel => exact ⟨q + 1, zs ++ [mark (70 + q)], by simp, by omega, by rw [List.length_append, List.length_singleton]; omega, HG1.out, HG2.out, HG3.out⟩
                  case measure => simp [intOf]; omega
                · have HBr := Lib.hid (HB6.out.only HOq.out (fun g hb ha => by
                    have := HSB.out g hb
                    have := (HSA.out g ha).2
                    omega))
                  have HWr := Lib.hid (HW6.out.only HOq.out (fun g hb ha => by
                    have := HLW.out g hb
                    have := (HSA.out g ha).1
                    omega))
                  have HO9 := Lib.hid (show Only NoneOf w wr from HO8.out.step HOq.out (fun k hk ha => by
                    have := (HSA.out k ha).1
                    have := HS46.out
                    have := HSw4.out
                    omega))
                  have hbat := HBr.out.at
                  obtain ⟨Ab', capb', hvb, hbi⟩ := hbat
                  simp only [Value.slice.injEq, true_and] at hvb
                  obtain ⟨rfl, rfl⟩ := hvb
                  have hwat := HWr.out.at
                  obtain ⟨Aw', capw', hvw, hwi⟩ := hwat
                  simp only [Value.slice.injEq, true_and] at hvw
                  obtain ⟨rfl, rfl⟩ := hvw
                  have HBI := Lib.hid (items_rows hbi)
                  have HWI := Lib.hid hwi
                  have HAL := Lib.hid (fun A cap (u : World) (ho : Only NoneOf wr u) (h1 : RowsAt u A 6 (ys.map fun x => x.c.toList)) => allAlike_is ys A Aw cap capw u h1 (hwi.keep ho) (by omega))
                  obtain rfl : q = 70 := by omega
                  clear hbi hwi HZ HOq HOWN
                  go_wp2_with fail
                  refine (HAL.out Ab capb wr (Only.refl _ _) HBI.out).mono ?_; rintro e0 w7 ⟨rfl, ho7⟩
                  have HP7 := Lib.hid ho7
                  clear ho7
                  go_wp2_with fail
                  refine (HD.out _).mono ?_; intro e0 w8 hd
                  obtain ⟨Ac, capc, ecc, rfl, hrc, ho8⟩ := dec_any hd
                  rw [hgd] at hrc ⊢
                  have hcat := hrc.at
                  obtain ⟨Ac', capc', hvc, hci⟩ := hcat
                  simp only [Value.slice.injEq, true_and] at hvc
                  obtain ⟨rfl, rfl⟩ := hvc
                  have HCI := Lib.hid (items_rows hci)
                  have HP8 := Lib.hid (HP7.out.trans ho8)
                  clear hd hrc hci ho8
                  go_wp2_with fail
                  refine (HL.out _).mono ?_; intro e0 w9 hd
                  obtain ⟨Al, capl, ecl, rfl, _, ho9⟩ := dec_any hd
                  have HP9 := Lib.hid (HP8.out.trans ho9)
                  have HC9 := Lib.hid (HCI.out.keep ho9)
                  clear hd ho9
                  go_wp2_with fail
                  refine (HAL.out Ac capc w9 HP9.out HC9.out).mono ?_; rintro e0 w10 ⟨rfl, ho10⟩
                  have HP10 := Lib.hid (HP9.out.trans ho10)
                  clear ho10
                  go_wp2_with fail
                  refine (HAL.out Ab capb w10 HP10.out (HBI.out.keep HP10.out)).mono ?_; rintro e0 w11 ⟨rfl, ho11⟩
                  have HP11 := Lib.hid (HO9.out.trans (HP10.out.trans ho11))
                  clear ho11
                  go_wp2_with fail
                  go_ret
                  exact ⟨rfl, HP11.out⟩

end Go.Proofs.Ytimoenpfnaaehaa
