/-
  Texts of this proof, laid together: S41, S42, S43, S44, S45, S46.
-/
import Derived.Test.YtnonnencdhogiaaStoreDoesX1
import Derived.JoinedCond
import Derived.Sort.Walk0
/-
  Layer 14's law StoreVacuum walked.
-/
namespace Go.Proofs.Ytnonnencdhogiaa
open Go.RowKit

theorem two_len {w0 w : World} {s t : Nat} {R1 R2 : List KV} {N : Nat} (h : TwoSt w0 s t R1 R2 N w) (hN : N ≤ NMAX) :
    Calls Try.prog 19 #[.pointer (some ⟨s, 0, none⟩)] w fun e w' => e = .returned (.tuple #[.int .i64 ((keysR R1).length : Nat), .int .i64 (R1.length : Nat)]) ∧ TwoSt w0 s t R1 R2 N w' ∧ Only NoneOf w w' := by
  obtain ⟨T1, T2, h1, h2, h3, h4, h5⟩ := h
  exact (lenR w s N T1 T2 R1 h1 hN).mono fun _ _ ⟨he, ho⟩ => ⟨he, TwoSt.keep ⟨T1, T2, h1, h2, h3, h4, h5⟩ ho, ho⟩
theorem two_vac0 {w0 w : World} {s t : Nat} {R R2 : List KV} {N : Nat} {hz h2 : Int} (h : TwoSt w0 s t (vacR R hz) R2 N w) (hg : GoodR R) (hh : h2 ≤ hz) (hN : N ≤ NMAX) :
    Calls Try.prog 20 #[.pointer (some ⟨s, 0, none⟩), .int .i64 h2] w fun e w' => e = .returned (.int .i64 0) ∧ TwoSt w0 s t (vacR R hz) R2 N w' := by
  have := two_vacuum h (Only.refl _ _) hN h2
  rw [vac_again hg hh, Nat.sub_self] at this
  exact this.mono fun _ _ ⟨he, h, _⟩ => ⟨he, h⟩

/-- the loop over what is asked -/
def VaRel (w0 : World) (s t : Nat) (hz : Int) (N n : Nat) (v : Value) (wr : World) : Prop := ∃ (i : Nat) (R1 R2 : List KV), v = .int .i64 i ∧ i ≤ n ∧ TwoSt w0 s t R1 R2 (N + i) wr ∧ VacSame hz R1 R2

set_option maxRecDepth 100000 in
set_option maxHeartbeats 16000000 in
theorem vacuum_walk (A : Option Addr) (cap : Nat) (vs : List KV) (hz : Int) (A3 : Option Addr) (cap3 : Nat) (xs : List Stp) (w : World)
    (hV : VersAt w A vs) (hX : StepsAt w A3 xs) (hfew : vs.length + xs.length ≤ 2513169434843) :
    Calls Try.prog 5 #[.slice A vs.length cap, .int .i64 hz, .slice A3 xs.length cap3] w (Ans (.bool true) w) := by
  have HV := Lib.hid hV
  have HX := Lib.hid hX
  obtain ⟨n, hn⟩ : ∃ n, xs.length = n := ⟨_, rfl⟩
  have HN := Lib.hid hn
  rw [hn] at hfew ⊢
  obtain ⟨nv, hnv⟩ : ∃ nv, vs.length = nv := ⟨_, rfl⟩
  have HNV := Lib.hid hnv
  rw [hnv] at hfew ⊢
  clear hV hX hn hnv
  have HFX := fun u => Lib.hid (fixed_is u)
  obtain ⟨h2, hh2, qh⟩ : ∃ h2, h2 ≤ hz ∧ min hz (wrap64 (hz - 1)) = h2 := ⟨_, Int.min_le_left _ _, rfl⟩
  go_enter Try.func5, Try.ntmps5
  go_wp2_with fail
  refine (HFX _).out.mono ?_; rintro e w1 ⟨rfl, ho1⟩
  have HO1 := Lib.hid ho1
  have HF1 := filled_is w1 A cap vs NoneOf (HV.out.keep HO1.out) (by rw [HNV.out]; omega) (fun _ h => h.elim)
  rw [HNV.out] at HF1
  replace HF1 := Lib.hid HF1
  clear ho1
  go_wp2_with fail
  refine HF1.out.mono ?_; rintro e w2 ⟨s, T1, rfl, h1, ho2, ht1⟩
  have HF2 := filled_is w2 A cap vs T1 (HV.out.keep (HO1.out.trans ho2)) (by rw [HNV.out]; omega) (fun k hk => h1.lt hk)
  rw [HNV.out] at HF2
  replace HF2 := Lib.hid HF2
  have H1 := Lib.hid h1
  have HO2 := Lib.hid ho2
  have HT1 := Lib.hid ht1
  clear h1 ho2 ht1 HF1
  go_wp2_with fail
  refine HF2.out.mono ?_; rintro e w3 ⟨t, T2, rfl, h2', ho3, ht2⟩
  have HTW := Lib.hid (show TwoSt w1 s t (fillR vs) (fillR vs) nv w3 from by
    rw [← HNV.out]
    exact ⟨T1, T2, H1.out.other ho3 (fun _ h => h.elim) (fun k hk => ⟨h2'.lt hk, .inr (ht2 k hk)⟩), h2', HO2.out.trans ho3, HT1.out, fun k hk => Nat.le_trans HO2.out.size (ht2 k hk)⟩)
  have hlen : (fillR vs).length ≤ nv := by
    obtain ⟨_, _, h1, _⟩ := HTW.out
    exact h1.len
  have hgood := Lib.hid HTW.out.good.1
  obtain ⟨R, hR⟩ : ∃ R, fillR vs = R := ⟨_, rfl⟩
  rw [hR] at HTW hlen hgood
  have hle : (vacR R hz).length ≤ R.length := List.length_filter_le _ _
  have HL1 := two_len HTW.out (by unfold NMAX; omega)
  obtain ⟨b, hb⟩ : ∃ b, (vacR R hz).length = b := ⟨_, rfl⟩
  obtain ⟨d, hd⟩ : ∃ d, R.length = b + d := ⟨R.length - b, by omega⟩
  rw [hd] at HL1
  have HB := Lib.hid hb
  have HD := Lib.hid hd
  replace HL1 := Lib.hid HL1
  rw [hb] at hle
  rw [hd] at hlen hle
  clear h2' ho3 ht2 HF2 H1 HT1 HO2 hR hb hd HTW
  go_wp2_with fail
  refine HL1.out.mono ?_; rintro e w4 ⟨rfl, hs4, _⟩
  have HV1 := two_vacuum hs4 (Only.refl _ _) (by unfold NMAX; omega) hz
  rw [HB.out, HD.out, Nat.add_sub_cancel_left] at HV1
  replace HV1 := Lib.hid HV1
  clear hs4 HL1
  go_wp2_with fail
  refine HV1.out.mono ?_; rintro e w5 ⟨rfl, hs5, _⟩
  have HL2 := two_len hs5 (by unfold NMAX; omega)
  rw [HB.out] at HL2
  replace HL2 := Lib.hid HL2
  clear hs5 HV1
  go_wp2_with fail
  refine HL2.out.mono ?_; rintro e w6 ⟨rfl, hs6, _⟩
  have HV2 := Lib.hid (two_vac0 hs6 hgood.out (Int.le_refl hz) (by unfold NMAX; omega))
  clear hs6 HL2
  have qn : decide ((d : Int) < 0) = false := decide_eq_false (by omega)
  have qd : (b : Int) + (d : Int) - (b : Int) = (d : Int) := by omega
  go_wp2_with fail
  refine HV2.out.mono ?_; rintro e w7 ⟨rfl, hs7⟩
  have HV3 := Lib.hid (two_vac0 hs7 hgood.out hh2 (by unfold NMAX; omega))
  clear hs7 HV2
  go_wp2_with fail
  refine HV3.out.mono ?_; rintro e w8 ⟨rfl, hs8⟩
  have HS8 := Lib.hid hs8
  clear hs8 HV3
  go_wp2_with fail
  go_loopw [65] (fun v wr => VaRel w1 s t hz nv n v wr) (fun v _ => n - (intOf v).toNat)
  case atStart => exact ⟨0, vacR R hz, R, rfl, by omega, HS8.out, VacSame.vac hgood.out hz⟩
  case round =>
    obtain ⟨i, R1, R2, rfl, hi, htw, hsame⟩ := hrel
    have HTW := Lib.hid htw
    have HSM := Lib.hid hsame
    have HO := Lib.hid (show Only NoneOf w wr from by
      obtain ⟨_, _, _, _, h, _⟩ := htw
      exact HO1.out.trans h)
    clear htw hsame
    by_cases hlt : i < n
    · have hx : xs[i]? = some (xs[i]'(by rw [HN.out]; exact hlt)) := List.getElem?_eq_getElem _
      generalize xs[i]'(by rw [HN.out]; exact hlt) = x at hx
      obtain ⟨g, off, Ab, cb, rfl, hg, d0, d1, d2, d3, d4, d5, hbx, hks⟩ := (HX.out.keep HO.out) i x hx
      have HBY0 := Lib.hid (show BytesAt w1 Ab x.bs from by
        obtain ⟨g2, off2, Ab2, cb2, hA2, hg2, e0, e1, e2, e3, e4, e5, hby2, _⟩ := (HX.out.keep HO1.out) i x hx
        injection hA2 with hA2
        injection hA2 with h1 h2 _
        subst h1; subst h2
        obtain ⟨_, _, _, _, hO, _⟩ := HTW.out
        have := (hO.cell (p := ⟨g, off + i * 6 + 3, none⟩) hg2 (fun h => h)).trans e3
        rw [d3] at this
        injection this with this
        injection this with h1 _ _
        rw [h1]
        exact hby2)
      have hal : Only NoneOf wr (wr.alloc (.cells (stepC x.kind x.key x.st (.slice Ab x.bs.length cb) x.dead x.tt) 29)) := (Only.refl _ _).alloc _
      have HTA := Lib.hid (HTW.out.keep hal)
      have hlt' : nv + i < NMAX := by unfold NMAX; omega
      have fin : ∀ u R1' R2', TwoSt w1 s t R1' R2' (nv + i + 1) u → VacSame hz R1' R2' → VaRel w1 s t hz nv n (.int .i64 ((i : Int) + 1)) u := fun u R1' R2' h1 h2 =>
        ⟨i + 1, R1', R2', by rw [show ((i + 1 : Nat) : Int) = (i : Int) + 1 by omega], by omega, by rw [← Nat.add_assoc]; exact h1, h2⟩
      have FIN := Lib.hid fin
      clear fin hbx hx hal
      cases q6 : (x.kind == 6)
      · cases q2 : (x.kind == 2)
        · cases q5 : (x.kind == 5)
          · cases q0 : (x.kind == 0)
            · cases qg : decide (hz ≤ x.st)
              · go_wp2_with fail
                exact ⟨FIN.out _ _ _ (HTA.out.more (by omega)) HSM.out, by simp [intOf]; omega⟩
              · have HGE := Lib.hid (of_decide_eq_true qg)
                cases q1 : (x.kind == 1)
                · cases q3 : (x.kind == 3)
                  · go_wp2_with fail
                    exact ⟨FIN.out _ _ _ (HTA.out.more (by omega)) HSM.out, by simp [intOf]; omega⟩
                  · have HASK := Lib.hid (show VacAsk hz x from .inr (.inr (.inr ⟨HGE.out, .inr (eq_of_beq q3)⟩)))
                    obtain ⟨T1, T2, h1, h2w, h3, h4, h5⟩ := HTW.out
                    have hal : Only NoneOf wr (wr.alloc (.cells (stepC x.kind x.key x.st (.slice Ab x.bs.length cb) x.dead x.tt) 29)) := (Only.refl _ _).alloc _
                    have HG0 := Lib.hid (show TwoG w1 s t T1 T2 R1 R2 x (nv + i) (nv + i) wr.heap.size (stepC x.kind x.key x.st (.slice Ab x.bs.length cb) x.dead x.tt) 0 (wr.alloc (.cells (stepC x.kind x.key x.st (.slice Ab x.bs.length cb) x.dead x.tt) 29)) from
                      ⟨h1.keep hal, h2w.keep hal, h3.trans hal, Blk.new _ _ _⟩)
                    have HT1 := Lib.hid h4
                    have HT2 := Lib.hid h5
                    have HBY := Lib.hid (show BytesAt w1 Ab x.bs from HBY0.out)
                    have hb1 : ¬ T1 wr.heap.size := fun h => by have := h1.lt h; omega
                    have hb2 : ¬ T2 wr.heap.size := fun h => by have := h2w.lt h; omega
                    have hlow : ∀ k, T1 k ∨ T2 k → k < wr.heap.size := fun k hk => hk.elim (fun h => h1.lt h) (fun h => h2w.lt h)
                    have HF := Lib.hid (ansR_fit h1 (by omega) x)
                    have HAN := Lib.hid (HSM.out.ans HASK.out)
                    have HSTEP := Lib.hid (HSM.out.step HTW.out.good.1 HTW.out.good.2 HASK.out)
                    clear h1 h2w h3 h4 h5 hal
                    go_upto_region 18 with (fail)
                    refine wp_region_head2 6 124 [] (fun _ => none) (fun i => match i with | 2 => some 0 | 5 => some 1 | _ => none) (fun k => T1 k ∨ T2 k) (TwoG w1 s t T1 T2 R1 R2 x (nv + i) (nv + i) wr.heap.size (stepC x.kind x.key x.st (.slice Ab x.bs.length cb) x.dead x.tt)) (TwoT x Ab cb s t R1 R2 wr.heap.size) rfl (by kernel_rfl) (by kernel_rfl) ?hskip ?hgv (TwoT_keep _ _ _ _ _ _ _ _ hlow) HG0.out.drew ?hstep ?hend
                    case hskip =>
                      intro i o hi ho hw k
                      have : i = 0 ∨ i = 1 ∨ i = 2 ∨ i = 3 ∨ i = 4 ∨ i = 5 := by omega
                      rcases this with rfl | rfl | rfl | rfl | rfl | rfl
                      · rfl
                      · rfl
                      · obtain rfl := Option.some.inj (ho : some _ = some o); exact absurd (show true = false from hw) (by decide)
                      · rfl
                      · rfl
                      · obtain rfl := Option.some.inj (ho : some _ = some o); exact absurd (show true = false from hw) (by decide)
                    case hgv =>
                      intro g hg v w h
                      cases hg
                    case hstep =>
                      intro i o hi ho a u k hk hik hs ht
                      have e7 : a.tmps.getD 7 undef = .pointer (some ⟨s, 0, none⟩) := hs 7 (of_decide_eq_true (by kernel_rfl))
                      have e8 : a.tmps.getD 8 undef = .pointer (some ⟨t, 0, none⟩) := hs 8 (of_decide_eq_true (by kernel_rfl))
                      have e15 : a.tmps.getD 15 undef = .pointer (some ⟨wr.heap.size, 0, none⟩) := hs 15 (of_decide_eq_true (by kernel_rfl))
                      have : i = 0 ∨ i = 1 ∨ i = 2 ∨ i = 3 ∨ i = 4 ∨ i = 5 := by omega
                      rcases this with rfl | rfl | rfl | rfl | rfl | rfl
                      · obtain rfl := Option.some.inj (ho : some _ = some o)
                        rw [if_pos (by decide)]
                        exact left2_value (.pointer (some ⟨s, 0, none⟩)) (by simp [go_sem, e7]) rfl rfl hk
                      · obtain rfl := Option.some.inj (ho : some _ = some o)
                        rw [if_pos (by decide)]
                        exact left2_load 29 (.tmp 15) wr.heap.size 29 _ _ rfl e15 hk.row Try.underlying29 rfl info29 rfl rfl hk
                      · obtain rfl := Option.some.inj (ho : some _ = some o)
                        rw [if_pos (by decide)]
                        have s0 : a.tmps.getD 115 undef = .pointer (some ⟨s, 0, none⟩) := ht 0 (by omega) (by kernel_rfl)
                        have s0c : a.tmps.getD 115 undef = .pointer (some ⟨s, 0, none⟩) := ht 0 (by omega) (by kernel_rfl)
                        have s1c : a.tmps.getD 116 undef = .agg (stepC x.kind x.key x.st (.slice Ab x.bs.length cb) x.dead x.tt) := ht 1 (by omega) (by kernel_rfl)
                        obtain rfl : k = 0 := by
                          rcases hik with h | h
                          · cases h
                          · injection h with h; exact h.symm
                        refine left2_turns 17 #[.pointer (some ⟨s, 0, none⟩), .agg (stepC x.kind x.key x.st (.slice Ab x.bs.length cb) x.dead x.tt)] (by simp [go_sem, s0c, s1c]) ?_ rfl
                        exact two_first hk Ab cb (by omega) hks HBY.out HT1.out hb1 (Nat.le_of_lt hk.row.lt)
                      · obtain rfl := Option.some.inj (ho : some _ = some o)
                        rw [if_pos (by decide)]
                        exact left2_value (.pointer (some ⟨t, 0, none⟩)) (by simp [go_sem, e8]) rfl rfl hk
                      · obtain rfl := Option.some.inj (ho : some _ = some o)
                        rw [if_pos (by decide)]
                        exact left2_load 29 (.tmp 15) wr.heap.size 29 _ _ rfl e15 hk.row Try.underlying29 rfl info29 rfl rfl hk
                      · obtain rfl := Option.some.inj (ho : some _ = some o)
                        rw [if_pos (by decide)]
                        have s3 : a.tmps.getD 118 undef = .pointer (some ⟨t, 0, none⟩) := ht 3 (by omega) (by kernel_rfl)
                        have s3c : a.tmps.getD 118 undef = .pointer (some ⟨t, 0, none⟩) := ht 3 (by omega) (by kernel_rfl)
                        have s4c : a.tmps.getD 119 undef = .agg (stepC x.kind x.key x.st (.slice Ab x.bs.length cb) x.dead x.tt) := ht 4 (by omega) (by kernel_rfl)
                        obtain rfl : k = 1 := by
                          rcases hik with h | h
                          · cases h
                          · injection h with h; exact h.symm
                        refine left2_turns 17 #[.pointer (some ⟨t, 0, none⟩), .agg (stepC x.kind x.key x.st (.slice Ab x.bs.length cb) x.dead x.tt)] (by simp [go_sem, s3c, s4c]) ?_ rfl
                        exact two_second hk Ab cb (by omega) hks HBY.out HT2.out hb2 (Nat.le_of_lt hk.row.lt)
                    case hend =>
                      intro V' u k hk hkt hV'
                      have v0 : V' 0 = .pointer (some ⟨s, 0, none⟩) := hV' 0 (by omega)
                      have v1 : V' 1 = .agg (stepC x.kind x.key x.st (.slice Ab x.bs.length cb) x.dead x.tt) := hV' 1 (by omega)
                      obtain ⟨cs0, v2, hcs0⟩ : TellV wr.heap.size (ansR R1 x) (V' 2) u := hV' 2 (by omega)
                      have v3 : V' 3 = .pointer (some ⟨t, 0, none⟩) := hV' 3 (by omega)
                      have v4 : V' 4 = .agg (stepC x.kind x.key x.st (.slice Ab x.bs.length cb) x.dead x.tt) := hV' 4 (by omega)
                      obtain ⟨cs1, v5, hcs1⟩ : TellV wr.heap.size (ansR R2 x) (V' 5) u := hV' 5 (by omega)
                      have hk0 : 0 < k := hkt 2 0 (by omega) rfl
                      have hk1 : 1 < k := hkt 5 1 (by omega) rfl
                      change wpList _ _ _ _ (Act.put (Act.put (Act.put (Act.put (Act.put (Act.put _ (some 115) (V' 0)) (some 116) (V' 1)) (some 117) (V' 2)) (some 118) (V' 3)) (some 119) (V' 4)) (some 120) (V' 5)) _
                      rw [v0, v1, v2, v3, v4, v5]
                      simp only [Act.put, List.setIfInBounds_toArray, List.set_cons_zero, List.set_cons_succ]
                      simp only [List.drop_succ_cons, List.drop_zero]
                      clear hV' v0 v1 v2 v3 v4 v5
                      have hend := hk.end hk1
                      have HAL := Lib.hid (alike_same u cs0 cs1 (ansR R1 x) HF.out hcs0.at (by rw [HAN.out]; exact hcs1.at))
                      have HEND := Lib.hid hend
                      clear hk hkt hk0 hk1 hend hcs0 hcs1
                      go_wp2_with fail
                      refine HAL.out.mono ?_; rintro e u2 ⟨rfl, ho2⟩
                      have HO2 := Lib.hid ho2
                      clear ho2
                      go_wp2_with fail
                      obtain ⟨T1', T2', h1, h2, h3, h4, h5⟩ := HEND.out
                      exact ⟨FIN.out _ _ _ (TwoSt.keep ⟨T1', T2', h1, h2, h3, h4, h5⟩ HO2.out) HSTEP.out, by simp [intOf]; omega⟩
                · have HASK := Lib.hid (show VacAsk hz x from .inr (.inr (.inr ⟨HGE.out, .inl (eq_of_beq q1)⟩)))
                  obtain ⟨T1, T2, h1, h2w, h3, h4, h5⟩ := HTW.out
                  have hal : Only NoneOf wr (wr.alloc (.cells (stepC x.kind x.key x.st (.slice Ab x.bs.length cb) x.dead x.tt) 29)) := (Only.refl _ _).alloc _
                  have HG0 := Lib.hid (show TwoG w1 s t T1 T2 R1 R2 x (nv + i) (nv + i) wr.heap.size (stepC x.kind x.key x.st (.slice Ab x.bs.length cb) x.dead x.tt) 0 (wr.alloc (.cells (stepC x.kind x.key x.st (.slice Ab x.bs.length cb) x.dead x.tt) 29)) from
                    ⟨h1.keep hal, h2w.keep hal, h3.trans hal, Blk.new _ _ _⟩)
                  have HT1 := Lib.hid h4
                  have HT2 := Lib.hid h5
                  have HBY := Lib.hid (show BytesAt w1 Ab x.bs from HBY0.out)
                  have hb1 : ¬ T1 wr.heap.size := fun h => by have := h1.lt h; omega
                  have hb2 : ¬ T2 wr.heap.size := fun h => by have := h2w.lt h; omega
                  have hlow : ∀ k, T1 k ∨ T2 k → k < wr.heap.size := fun k hk => hk.elim (fun h => h1.lt h) (fun h => h2w.lt h)
                  have HF := Lib.hid (ansR_fit h1 (by omega) x)
                  have HAN := Lib.hid (HSM.out.ans HASK.out)
                  have HSTEP := Lib.hid (HSM.out.step HTW.out.good.1 HTW.out.good.2 HASK.out)
                  clear h1 h2w h3 h4 h5 hal
                  go_upto_region 18 with (fail)
                  refine wp_region_head2 6 124 [] (fun _ => none) (fun i => match i with | 2 => some 0 | 5 => some 1 | _ => none) (fun k => T1 k ∨ T2 k) (TwoG w1 s t T1 T2 R1 R2 x (nv + i) (nv + i) wr.heap.size (stepC x.kind x.key x.st (.slice Ab x.bs.length cb) x.dead x.tt)) (TwoT x Ab cb s t R1 R2 wr.heap.size) rfl (by kernel_rfl) (by kernel_rfl) ?hskip ?hgv (TwoT_keep _ _ _ _ _ _ _ _ hlow) HG0.out.drew ?hstep ?hend
                  case hskip =>
                    intro i o hi ho hw k
                    have : i = 0 ∨ i = 1 ∨ i = 2 ∨ i = 3 ∨ i = 4 ∨ i = 5 := by omega
                    rcases this with rfl | rfl | rfl | rfl | rfl | rfl
                    · rfl
                    · rfl
                    · obtain rfl := Option.some.inj (ho : some _ = some o); exact absurd (show true = false from hw) (by decide)
                    · rfl
                    · rfl
                    · obtain rfl := Option.some.inj (ho : some _ = some o); exact absurd (show true = false from hw) (by decide)
                  case hgv =>
                    intro g hg v w h
                    cases hg
                  case hstep =>
                    intro i o hi ho a u k hk hik hs ht
                    have e7 : a.tmps.getD 7 undef = .pointer (some ⟨s, 0, none⟩) := hs 7 (of_decide_eq_true (by kernel_rfl))
                    have e8 : a.tmps.getD 8 undef = .pointer (some ⟨t, 0, none⟩) := hs 8 (of_decide_eq_true (by kernel_rfl))
                    have e15 : a.tmps.getD 15 undef = .pointer (some ⟨wr.heap.size, 0, none⟩) := hs 15 (of_decide_eq_true (by kernel_rfl))
                    have : i = 0 ∨ i = 1 ∨ i = 2 ∨ i = 3 ∨ i = 4 ∨ i = 5 := by omega
                    rcases this with rfl | rfl | rfl | rfl | rfl | rfl
                    · obtain rfl := Option.some.inj (ho : some _ = some o)
                      rw [if_pos (by decide)]
                      exact left2_value (.pointer (some ⟨s, 0, none⟩)) (by simp [go_sem, e7]) rfl rfl hk
                    · obtain rfl := Option.some.inj (ho : some _ = some o)
                      rw [if_pos (by decide)]
                      exact left2_load 29 (.tmp 15) wr.heap.size 29 _ _ rfl e15 hk.row Try.underlying29 rfl info29 rfl rfl hk
                    · obtain rfl := Option.some.inj (ho : some _ = some o)
                      rw [if_pos (by decide)]
                      have s0 : a.tmps.getD 115 undef = .pointer (some ⟨s, 0, none⟩) := ht 0 (by omega) (by kernel_rfl)
                      have s0c : a.tmps.getD 115 undef = .pointer (some ⟨s, 0, none⟩) := ht 0 (by omega) (by kernel_rfl)
                      have s1c : a.tmps.getD 116 undef = .agg (stepC x.kind x.key x.st (.slice Ab x.bs.length cb) x.dead x.tt) := ht 1 (by omega) (by kernel_rfl)
                      obtain rfl : k = 0 := by
                        rcases hik with h | h
                        · cases h
                        · injection h with h; exact h.symm
                      refine left2_turns 17 #[.pointer (some ⟨s, 0, none⟩), .agg (stepC x.kind x.key x.st (.slice Ab x.bs.length cb) x.dead x.tt)] (by simp [go_sem, s0c, s1c]) ?_ rfl
                      exact two_first hk Ab cb (by omega) hks HBY.out HT1.out hb1 (Nat.le_of_lt hk.row.lt)
                    · obtain rfl := Option.some.inj (ho : some _ = some o)
                      rw [if_pos (by decide)]
                      exact left2_value (.pointer (some ⟨t, 0, none⟩)) (by simp [go_sem, e8]) rfl rfl hk
                    · obtain rfl := Option.some.inj (ho : some _ = some o)
                      rw [if_pos (by decide)]
                      exact left2_load 29 (.tmp 15) wr.heap.size 29 _ _ rfl e15 hk.row Try.underlying29 rfl info29 rfl rfl hk
                    · obtain rfl := Option.some.inj (ho : some _ = some o)
                      rw [if_pos (by decide)]
                      have s3 : a.tmps.getD 118 undef = .pointer (some ⟨t, 0, none⟩) := ht 3 (by omega) (by kernel_rfl)
                      have s3c : a.tmps.getD 118 undef = .pointer (some ⟨t, 0, none⟩) := ht 3 (by omega) (by kernel_rfl)
                      have s4c : a.tmps.getD 119 undef = .agg (stepC x.kind x.key x.st (.slice Ab x.bs.length cb) x.dead x.tt) := ht 4 (by omega) (by kernel_rfl)
                      obtain rfl : k = 1 := by
                        rcases hik with h | h
                        · cases h
                        · injection h with h; exact h.symm
                      refine left2_turns 17 #[.pointer (some ⟨t, 0, none⟩), .agg (stepC x.kind x.key x.st (.slice Ab x.bs.length cb) x.dead x.tt)] (by simp [go_sem, s3c, s4c]) ?_ rfl
                      exact two_second hk Ab cb (by omega) hks HBY.out HT2.out hb2 (Nat.le_of_lt hk.row.lt)
                  case hend =>
                    intro V' u k hk hkt hV'
                    have v0 : V' 0 = .pointer (some ⟨s, 0, none⟩) := hV' 0 (by omega)
                    have v1 : V' 1 = .agg (stepC x.kind x.key x.st (.slice Ab x.bs.length cb) x.dead x.tt) := hV' 1 (by omega)
                    obtain ⟨cs0, v2, hcs0⟩ : TellV wr.heap.size (ansR R1 x) (V' 2) u := hV' 2 (by omega)
                    have v3 : V' 3 = .pointer (some ⟨t, 0, none⟩) := hV' 3 (by omega)
                    have v4 : V' 4 = .agg (stepC x.kind x.key x.st (.slice Ab x.bs.length cb) x.dead x.tt) := hV' 4 (by omega)
                    obtain ⟨cs1, v5, hcs1⟩ : TellV wr.heap.size (ansR R2 x) (V' 5) u := hV' 5 (by omega)
                    have hk0 : 0 < k := hkt 2 0 (by omega) rfl
                    have hk1 : 1 < k := hkt 5 1 (by omega) rfl
                    change wpList _ _ _ _ (Act.put (Act.put (Act.put (Act.put (Act.put (Act.put _ (some 115) (V' 0)) (some 116) (V' 1)) (some 117) (V' 2)) (some 118) (V' 3)) (some 119) (V' 4)) (some 120) (V' 5)) _
                    rw [v0, v1, v2, v3, v4, v5]
                    simp only [Act.put, List.setIfInBounds_toArray, List.set_cons_zero, List.set_cons_succ]
                    simp only [List.drop_succ_cons, List.drop_zero]
                    clear hV' v0 v1 v2 v3 v4 v5
                    have hend := hk.end hk1
                    have HAL := Lib.hid (alike_same u cs0 cs1 (ansR R1 x) HF.out hcs0.at (by rw [HAN.out]; exact hcs1.at))
                    have HEND := Lib.hid hend
                    clear hk hkt hk0 hk1 hend hcs0 hcs1
                    go_wp2_with fail
                    refine HAL.out.mono ?_; rintro e u2 ⟨rfl, ho2⟩
                    have HO2 := Lib.hid ho2
                    clear ho2
                    go_wp2_with fail
                    obtain ⟨T1', T2', h1, h2, h3, h4, h5⟩ := HEND.out
                    exact ⟨FIN.out _ _ _ (TwoSt.keep ⟨T1', T2', h1, h2, h3, h4, h5⟩ HO2.out) HSTEP.out, by simp [intOf]; omega⟩
            · have HASK := Lib.hid (show VacAsk hz x from .inr (.inr (.inl (eq_of_beq q0))))
              obtain ⟨T1, T2, h1, h2w, h3, h4, h5⟩ := HTW.out
              have hal : Only NoneOf wr (wr.alloc (.cells (stepC x.kind x.key x.st (.slice Ab x.bs.length cb) x.dead x.tt) 29)) := (Only.refl _ _).alloc _
              have HG0 := Lib.hid (show TwoG w1 s t T1 T2 R1 R2 x (nv + i) (nv + i) wr.heap.size (stepC x.kind x.key x.st (.slice Ab x.bs.length cb) x.dead x.tt) 0 (wr.alloc (.cells (stepC x.kind x.key x.st (.slice Ab x.bs.length cb) x.dead x.tt) 29)) from
                ⟨h1.keep hal, h2w.keep hal, h3.trans hal, Blk.new _ _ _⟩)
              have HT1 := Lib.hid h4
              have HT2 := Lib.hid h5
              have HBY := Lib.hid (show BytesAt w1 Ab x.bs from HBY0.out)
              have hb1 : ¬ T1 wr.heap.size := fun h => by have := h1.lt h; omega
              have hb2 : ¬ T2 wr.heap.size := fun h => by have := h2w.lt h; omega
              have hlow : ∀ k, T1 k ∨ T2 k → k < wr.heap.size := fun k hk => hk.elim (fun h => h1.lt h) (fun h => h2w.lt h)
              have HF := Lib.hid (ansR_fit h1 (by omega) x)
              have HAN := Lib.hid (HSM.out.ans HASK.out)
              have HSTEP := Lib.hid (HSM.out.step HTW.out.good.1 HTW.out.good.2 HASK.out)
              clear h1 h2w h3 h4 h5 hal
              go_upto_region 18 with (fail)
              refine wp_region_head2 6 124 [] (fun _ => none) (fun i => match i with | 2 => some 0 | 5 => some 1 | _ => none) (fun k => T1 k ∨ T2 k) (TwoG w1 s t T1 T2 R1 R2 x (nv + i) (nv + i) wr.heap.size (stepC x.kind x.key x.st (.slice Ab x.bs.length cb) x.dead x.tt)) (TwoT x Ab cb s t R1 R2 wr.heap.size) rfl (by kernel_rfl) (by kernel_rfl) ?hskip ?hgv (TwoT_keep _ _ _ _ _ _ _ _ hlow) HG0.out.drew ?hstep ?hend
              case hskip =>
                intro i o hi ho hw k
                have : i = 0 ∨ i = 1 ∨ i = 2 ∨ i = 3 ∨ i = 4 ∨ i = 5 := by omega
                rcases this with rfl | rfl | rfl | rfl | rfl | rfl
                · rfl
                · rfl
                · obtain rfl := Option.some.inj (ho : some _ = some o); exact absurd (show true = false from hw) (by decide)
                · rfl
                · rfl
                · obtain rfl := Option.some.inj (ho : some _ = some o); exact absurd (show true = false from hw) (by decide)
              case hgv =>
                intro g hg v w h
                cases hg
              case hstep =>
                intro i o hi ho a u k hk hik hs ht
                have e7 : a.tmps.getD 7 undef = .pointer (some ⟨s, 0, none⟩) := hs 7 (of_decide_eq_true (by kernel_rfl))
                have e8 : a.tmps.getD 8 undef = .pointer (some ⟨t, 0, none⟩) := hs 8 (of_decide_eq_true (by kernel_rfl))
                have e15 : a.tmps.getD 15 undef = .pointer (some ⟨wr.heap.size, 0, none⟩) := hs 15 (of_decide_eq_true (by kernel_rfl))
                have : i = 0 ∨ i = 1 ∨ i = 2 ∨ i = 3 ∨ i = 4 ∨ i = 5 := by omega
                rcases this with rfl | rfl | rfl | rfl | rfl | rfl
                · obtain rfl := Option.some.inj (ho : some _ = some o)
                  rw [if_pos (by decide)]
                  exact left2_value (.pointer (some ⟨s, 0, none⟩)) (by simp [go_sem, e7]) rfl rfl hk
                · obtain rfl := Option.some.inj (ho : some _ = some o)
                  rw [if_pos (by decide)]
                  exact left2_load 29 (.tmp 15) wr.heap.size 29 _ _ rfl e15 hk.row Try.underlying29 rfl info29 rfl rfl hk
                · obtain rfl := Option.some.inj (ho : some _ = some o)
                  rw [if_pos (by decide)]
                  have s0 : a.tmps.getD 115 undef = .pointer (some ⟨s, 0, none⟩) := ht 0 (by omega) (by kernel_rfl)
                  have s0c : a.tmps.getD 115 undef = .pointer (some ⟨s, 0, none⟩) := ht 0 (by omega) (by kernel_rfl)
                  have s1c : a.tmps.getD 116 undef = .agg (stepC x.kind x.key x.st (.slice Ab x.bs.length cb) x.dead x.tt) := ht 1 (by omega) (by kernel_rfl)
                  obtain rfl : k = 0 := by
                    rcases hik with h | h
                    · cases h
                    · injection h with h; exact h.symm
                  refine left2_turns 17 #[.pointer (some ⟨s, 0, none⟩), .agg (stepC x.kind x.key x.st (.slice Ab x.bs.length cb) x.dead x.tt)] (by simp [go_sem, s0c, s1c]) ?_ rfl
                  exact two_first hk Ab cb (by omega) hks HBY.out HT1.out hb1 (Nat.le_of_lt hk.row.lt)
                · obtain rfl := Option.some.inj (ho : some _ = some o)
                  rw [if_pos (by decide)]
                  exact left2_value (.pointer (some ⟨t, 0, none⟩)) (by simp [go_sem, e8]) rfl rfl hk
                · obtain rfl := Option.some.inj (ho : some _ = some o)
                  rw [if_pos (by decide)]
                  exact left2_load 29 (.tmp 15) wr.heap.size 29 _ _ rfl e15 hk.row Try.underlying29 rfl info29 rfl rfl hk
                · obtain rfl := Option.some.inj (ho : some _ = some o)
                  rw [if_pos (by decide)]
                  have s3 : a.tmps.getD 118 undef = .pointer (some ⟨t, 0, none⟩) := ht 3 (by omega) (by kernel_rfl)
                  have s3c : a.tmps.getD 118 undef = .pointer (some ⟨t, 0, none⟩) := ht 3 (by omega) (by kernel_rfl)
                  have s4c : a.tmps.getD 119 undef = .agg (stepC x.kind x.key x.st (.slice Ab x.bs.length cb) x.dead x.tt) := ht 4 (by omega) (by kernel_rfl)
                  obtain rfl : k = 1 := by
                    rcases hik with h | h
                    · cases h
                    · injection h with h; exact h.symm
                  refine left2_turns 17 #[.pointer (some ⟨t, 0, none⟩), .agg (stepC x.kind x.key x.st (.slice Ab x.bs.length cb) x.dead x.tt)] (by simp [go_sem, s3c, s4c]) ?_ rfl
                  exact two_second hk Ab cb (by omega) hks HBY.out HT2.out hb2 (Nat.le_of_lt hk.row.lt)
              case hend =>
                intro V' u k hk hkt hV'
                have v0 : V' 0 = .pointer (some ⟨s, 0, none⟩) := hV' 0 (by omega)
                have v1 : V' 1 = .agg (stepC x.kind x.key x.st (.slice Ab x.bs.length cb) x.dead x.tt) := hV' 1 (by omega)
                obtain ⟨cs0, v2, hcs0⟩ : TellV wr.heap.size (ansR R1 x) (V' 2) u := hV' 2 (by omega)
                have v3 : V' 3 = .pointer (some ⟨t, 0, none⟩) := hV' 3 (by omega)
                have v4 : V' 4 = .agg (stepC x.kind x.key x.st (.slice Ab x.bs.length cb) x.dead x.tt) := hV' 4 (by omega)
                obtain ⟨cs1, v5, hcs1⟩ : TellV wr.heap.size (ansR R2 x) (V' 5) u := hV' 5 (by omega)
                have hk0 : 0 < k := hkt 2 0 (by omega) rfl
                have hk1 : 1 < k := hkt 5 1 (by omega) rfl
                change wpList _ _ _ _ (Act.put (Act.put (Act.put (Act.put (Act.put (Act.put _ (some 115) (V' 0)) (some 116) (V' 1)) (some 117) (V' 2)) (some 118) (V' 3)) (some 119) (V' 4)) (some 120) (V' 5)) _
                rw [v0, v1, v2, v3, v4, v5]
                simp only [Act.put, List.setIfInBounds_toArray, List.set_cons_zero, List.set_cons_succ]
                simp only [List.drop_succ_cons, List.drop_zero]
                clear hV' v0 v1 v2 v3 v4 v5
                have hend := hk.end hk1
                have HAL := Lib.hid (alike_same u cs0 cs1 (ansR R1 x) HF.out hcs0.at (by rw [HAN.out]; exact hcs1.at))
                have HEND := Lib.hid hend
                clear hk hkt hk0 hk1 hend hcs0 hcs1
                go_wp2_with fail
                refine HAL.out.mono ?_; rintro e u2 ⟨rfl, ho2⟩
                have HO2 := Lib.hid ho2
                clear ho2
                go_wp2_with fail
                obtain ⟨T1', T2', h1, h2, h3, h4, h5⟩ := HEND.out
                exact ⟨FIN.out _ _ _ (TwoSt.keep ⟨T1', T2', h1, h2, h3, h4, h5⟩ HO2.out) HSTEP.out, by simp [intOf]; omega⟩
          · have HASK := Lib.hid (show VacAsk hz x from .inr (.inl (eq_of_beq q5)))
            obtain ⟨T1, T2, h1, h2w, h3, h4, h5⟩ := HTW.out
            have hal : Only NoneOf wr (wr.alloc (.cells (stepC x.kind x.key x.st (.slice Ab x.bs.length cb) x.dead x.tt) 29)) := (Only.refl _ _).alloc _
            have HG0 := Lib.hid (show TwoG w1 s t T1 T2 R1 R2 x (nv + i) (nv + i) wr.heap.size (stepC x.kind x.key x.st (.slice Ab x.bs.length cb) x.dead x.tt) 0 (wr.alloc (.cells (stepC x.kind x.key x.st (.slice Ab x.bs.length cb) x.dead x.tt) 29)) from
              ⟨h1.keep hal, h2w.keep hal, h3.trans hal, Blk.new _ _ _⟩)
            have HT1 := Lib.hid h4
            have HT2 := Lib.hid h5
            have HBY := Lib.hid (show BytesAt w1 Ab x.bs from HBY0.out)
            have hb1 : ¬ T1 wr.heap.size := fun h => by have := h1.lt h; omega
            have hb2 : ¬ T2 wr.heap.size := fun h => by have := h2w.lt h; omega
            have hlow : ∀ k, T1 k ∨ T2 k → k < wr.heap.size := fun k hk => hk.elim (fun h => h1.lt h) (fun h => h2w.lt h)
            have HF := Lib.hid (ansR_fit h1 (by omega) x)
            have HAN := Lib.hid (HSM.out.ans HASK.out)
            have HSTEP := Lib.hid (HSM.out.step HTW.out.good.1 HTW.out.good.2 HASK.out)
            clear h1 h2w h3 h4 h5 hal
            go_upto_region 18 with (fail)
            refine wp_region_head2 6 124 [] (fun _ => none) (fun i => match i with | 2 => some 0 | 5 => some 1 | _ => none) (fun k => T1 k ∨ T2 k) (TwoG w1 s t T1 T2 R1 R2 x (nv + i) (nv + i) wr.heap.size (stepC x.kind x.key x.st (.slice Ab x.bs.length cb) x.dead x.tt)) (TwoT x Ab cb s t R1 R2 wr.heap.size) rfl (by kernel_rfl) (by kernel_rfl) ?hskip ?hgv (TwoT_keep _ _ _ _ _ _ _ _ hlow) HG0.out.drew ?hstep ?hend
            case hskip =>
              intro i o hi ho hw k
              have : i = 0 ∨ i = 1 ∨ i = 2 ∨ i = 3 ∨ i = 4 ∨ i = 5 := by omega
              rcases this with rfl | rfl | rfl | rfl | rfl | rfl
              · rfl
              · rfl
              · obtain rfl := Option.some.inj (ho : some _ = some o); exact absurd (show true = false from hw) (by decide)
              · rfl
              · rfl
              · obtain rfl := Option.some.inj (ho : some _ = some o); exact absurd (show true = false from hw) (by decide)
            case hgv =>
              intro g hg v w h
              cases hg
            case hstep =>
              intro i o hi ho a u k hk hik hs ht
              have e7 : a.tmps.getD 7 undef = .pointer (some ⟨s, 0, none⟩) := hs 7 (of_decide_eq_true (by kernel_rfl))
              have e8 : a.tmps.getD 8 undef = .pointer (some ⟨t, 0, none⟩) := hs 8 (of_decide_eq_true (by kernel_rfl))
              have e15 : a.tmps.getD 15 undef = .pointer (some ⟨wr.heap.size, 0, none⟩) := hs 15 (of_decide_eq_true (by kernel_rfl))
              have : i = 0 ∨ i = 1 ∨ i = 2 ∨ i = 3 ∨ i = 4 ∨ i = 5 := by omega
              rcases this with rfl | rfl | rfl | rfl | rfl | rfl
              · obtain rfl := Option.some.inj (ho : some _ = some o)
                rw [if_pos (by decide)]
                exact left2_value (.pointer (some ⟨s, 0, none⟩)) (by simp [go_sem, e7]) rfl rfl hk
              · obtain rfl := Option.some.inj (ho : some _ = some o)
                rw [if_pos (by decide)]
                exact left2_load 29 (.tmp 15) wr.heap.size 29 _ _ rfl e15 hk.row Try.underlying29 rfl info29 rfl rfl hk
              · obtain rfl := Option.some.inj (ho : some _ = some o)
                rw [if_pos (by decide)]
                have s0 : a.tmps.getD 115 undef = .pointer (some ⟨s, 0, none⟩) := ht 0 (by omega) (by kernel_rfl)
                have s0c : a.tmps.getD 115 undef = .pointer (some ⟨s, 0, none⟩) := ht 0 (by omega) (by kernel_rfl)
                have s1c : a.tmps.getD 116 undef = .agg (stepC x.kind x.key x.st (.slice Ab x.bs.length cb) x.dead x.tt) := ht 1 (by omega) (by kernel_rfl)
                obtain rfl : k = 0 := by
                  rcases hik with h | h
                  · cases h
                  · injection h with h; exact h.symm
                refine left2_turns 17 #[.pointer (some ⟨s, 0, none⟩), .agg (stepC x.kind x.key x.st (.slice Ab x.bs.length cb) x.dead x.tt)] (by simp [go_sem, s0c, s1c]) ?_ rfl
                exact two_first hk Ab cb (by omega) hks HBY.out HT1.out hb1 (Nat.le_of_lt hk.row.lt)
              · obtain rfl := Option.some.inj (ho : some _ = some o)
                rw [if_pos (by decide)]
                exact left2_value (.pointer (some ⟨t, 0, none⟩)) (by simp [go_sem, e8]) rfl rfl hk
              · obtain rfl := Option.some.inj (ho : some _ = some o)
                rw [if_pos (by decide)]
                exact left2_load 29 (.tmp 15) wr.heap.size 29 _ _ rfl e15 hk.row Try.underlying29 rfl info29 rfl rfl hk
              · obtain rfl := Option.some.inj (ho : some _ = some o)
                rw [if_pos (by decide)]
                have s3 : a.tmps.getD 118 undef = .pointer (some ⟨t, 0, none⟩) := ht 3 (by omega) (by kernel_rfl)
                have s3c : a.tmps.getD 118 undef = .pointer (some ⟨t, 0, none⟩) := ht 3 (by omega) (by kernel_rfl)
                have s4c : a.tmps.getD 119 undef = .agg (stepC x.kind x.key x.st (.slice Ab x.bs.length cb) x.dead x.tt) := ht 4 (by omega) (by kernel_rfl)
                obtain rfl : k = 1 := by
                  rcases hik with h | h
                  · cases h
                  · injection h with h; exact h.symm
                refine left2_turns 17 #[.pointer (some ⟨t, 0, none⟩), .agg (stepC x.kind x.key x.st (.slice Ab x.bs.length cb) x.dead x.tt)] (by simp [go_sem, s3c, s4c]) ?_ rfl
                exact two_second hk Ab cb (by omega) hks HBY.out HT2.out hb2 (Nat.le_of_lt hk.row.lt)
            case hend =>
              intro V' u k hk hkt hV'
              have v0 : V' 0 = .pointer (some ⟨s, 0, none⟩) := hV' 0 (by omega)
              have v1 : V' 1 = .agg (stepC x.kind x.key x.st (.slice Ab x.bs.length cb) x.dead x.tt) := hV' 1 (by omega)
              obtain ⟨cs0, v2, hcs0⟩ : TellV wr.heap.size (ansR R1 x) (V' 2) u := hV' 2 (by omega)
              have v3 : V' 3 = .pointer (some ⟨t, 0, none⟩) := hV' 3 (by omega)
              have v4 : V' 4 = .agg (stepC x.kind x.key x.st (.slice Ab x.bs.length cb) x.dead x.tt) := hV' 4 (by omega)
              obtain ⟨cs1, v5, hcs1⟩ : TellV wr.heap.size (ansR R2 x) (V' 5) u := hV' 5 (by omega)
              have hk0 : 0 < k := hkt 2 0 (by omega) rfl
              have hk1 : 1 < k := hkt 5 1 (by omega) rfl
              change wpList _ _ _ _ (Act.put (Act.put (Act.put (Act.put (Act.put (Act.put _ (some 115) (V' 0)) (some 116) (V' 1)) (some 117) (V' 2)) (some 118) (V' 3)) (some 119) (V' 4)) (some 120) (V' 5)) _
              rw [v0, v1, v2, v3, v4, v5]
              simp only [Act.put, List.setIfInBounds_toArray, List.set_cons_zero, List.set_cons_succ]
              simp only [List.drop_succ_cons, List.drop_zero]
              clear hV' v0 v1 v2 v3 v4 v5
              have hend := hk.end hk1
              have HAL := Lib.hid (alike_same u cs0 cs1 (ansR R1 x) HF.out hcs0.at (by rw [HAN.out]; exact hcs1.at))
              have HEND := Lib.hid hend
              clear hk hkt hk0 hk1 hend hcs0 hcs1
              go_wp2_with fail
              refine HAL.out.mono ?_; rintro e u2 ⟨rfl, ho2⟩
              have HO2 := Lib.hid ho2
              clear ho2
              go_wp2_with fail
              obtain ⟨T1', T2', h1, h2, h3, h4, h5⟩ := HEND.out
              exact ⟨FIN.out _ _ _ (TwoSt.keep ⟨T1', T2', h1, h2, h3, h4, h5⟩ HO2.out) HSTEP.out, by simp [intOf]; omega⟩
        · have HASK := Lib.hid (show VacAsk hz x from .inl (eq_of_beq q2))
          obtain ⟨T1, T2, h1, h2w, h3, h4, h5⟩ := HTW.out
          have hal : Only NoneOf wr (wr.alloc (.cells (stepC x.kind x.key x.st (.slice Ab x.bs.length cb) x.dead x.tt) 29)) := (Only.refl _ _).alloc _
          have HG0 := Lib.hid (show TwoG w1 s t T1 T2 R1 R2 x (nv + i) (nv + i) wr.heap.size (stepC x.kind x.key x.st (.slice Ab x.bs.length cb) x.dead x.tt) 0 (wr.alloc (.cells (stepC x.kind x.key x.st (.slice Ab x.bs.length cb) x.dead x.tt) 29)) from
            ⟨h1.keep hal, h2w.keep hal, h3.trans hal, Blk.new _ _ _⟩)
          have HT1 := Lib.hid h4
          have HT2 := Lib.hid h5
          have HBY := Lib.hid (show BytesAt w1 Ab x.bs from HBY0.out)
          have hb1 : ¬ T1 wr.heap.size := fun h => by have := h1.lt h; omega
          have hb2 : ¬ T2 wr.heap.size := fun h => by have := h2w.lt h; omega
          have hlow : ∀ k, T1 k ∨ T2 k → k < wr.heap.size := fun k hk => hk.elim (fun h => h1.lt h) (fun h => h2w.lt h)
          have HF := Lib.hid (ansR_fit h1 (by omega) x)
          have HAN := Lib.hid (HSM.out.ans HASK.out)
          have HSTEP := Lib.hid (HSM.out.step HTW.out.good.1 HTW.out.good.2 HASK.out)
          clear h1 h2w h3 h4 h5 hal
          go_upto_region 18 with (fail)
          refine wp_region_head2 6 124 [] (fun _ => none) (fun i => match i with | 2 => some 0 | 5 => some 1 | _ => none) (fun k => T1 k ∨ T2 k) (TwoG w1 s t T1 T2 R1 R2 x (nv + i) (nv + i) wr.heap.size (stepC x.kind x.key x.st (.slice Ab x.bs.length cb) x.dead x.tt)) (TwoT x Ab cb s t R1 R2 wr.heap.size) rfl (by kernel_rfl) (by kernel_rfl) ?hskip ?hgv (TwoT_keep _ _ _ _ _ _ _ _ hlow) HG0.out.drew ?hstep ?hend
          case hskip =>
            intro i o hi ho hw k
            have : i = 0 ∨ i = 1 ∨ i = 2 ∨ i = 3 ∨ i = 4 ∨ i = 5 := by omega
            rcases this with rfl | rfl | rfl | rfl | rfl | rfl
            · rfl
            · rfl
            · obtain rfl := Option.some.inj (ho : some _ = some o); exact absurd (show true = false from hw) (by decide)
            · rfl
            · rfl
            · obtain rfl := Option.some.inj (ho : some _ = some o); exact absurd (show true = false from hw) (by decide)
          case hgv =>
            intro g hg v w h
            cases hg
          case hstep =>
            intro i o hi ho a u k hk hik hs ht
            have e7 : a.tmps.getD 7 undef = .pointer (some ⟨s, 0, none⟩) := hs 7 (of_decide_eq_true (by kernel_rfl))
            have e8 : a.tmps.getD 8 undef = .pointer (some ⟨t, 0, none⟩) := hs 8 (of_decide_eq_true (by kernel_rfl))
            have e15 : a.tmps.getD 15 undef = .pointer (some ⟨wr.heap.size, 0, none⟩) := hs 15 (of_decide_eq_true (by kernel_rfl))
            have : i = 0 ∨ i = 1 ∨ i = 2 ∨ i = 3 ∨ i = 4 ∨ i = 5 := by omega
            rcases this with rfl | rfl | rfl | rfl | rfl | rfl
            · obtain rfl := Option.some.inj (ho : some _ = some o)
              rw [if_pos (by decide)]
              exact left2_value (.pointer (some ⟨s, 0, none⟩)) (by simp [go_sem, e7]) rfl rfl hk
            · obtain rfl := Option.some.inj (ho : some _ = some o)
              rw [if_pos (by decide)]
              exact left2_load 29 (.tmp 15) wr.heap.size 29 _ _ rfl e15 hk.row Try.underlying29 rfl info29 rfl rfl hk
            · obtain rfl := Option.some.inj (ho : some _ = some o)
              rw [if_pos (by decide)]
              have s0 : a.tmps.getD 115 undef = .pointer (some ⟨s, 0, none⟩) := ht 0 (by omega) (by kernel_rfl)
              have s0c : a.tmps.getD 115 undef = .pointer (some ⟨s, 0, none⟩) := ht 0 (by omega) (by kernel_rfl)
              have s1c : a.tmps.getD 116 undef = .agg (stepC x.kind x.key x.st (.slice Ab x.bs.length cb) x.dead x.tt) := ht 1 (by omega) (by kernel_rfl)
              obtain rfl : k = 0 := by
                rcases hik with h | h
                · cases h
                · injection h with h; exact h.symm
              refine left2_turns 17 #[.pointer (some ⟨s, 0, none⟩), .agg (stepC x.kind x.key x.st (.slice Ab x.bs.length cb) x.dead x.tt)] (by simp [go_sem, s0c, s1c]) ?_ rfl
              exact two_first hk Ab cb (by omega) hks HBY.out HT1.out hb1 (Nat.le_of_lt hk.row.lt)
            · obtain rfl := Option.some.inj (ho : some _ = some o)
              rw [if_pos (by decide)]
              exact left2_value (.pointer (some ⟨t, 0, none⟩)) (by simp [go_sem, e8]) rfl rfl hk
            · obtain rfl := Option.some.inj (ho : some _ = some o)
              rw [if_pos (by decide)]
              exact left2_load 29 (.tmp 15) wr.heap.size 29 _ _ rfl e15 hk.row Try.underlying29 rfl info29 rfl rfl hk
            · obtain rfl := Option.some.inj (ho : some _ = some o)
              rw [if_pos (by decide)]
              have s3 : a.tmps.getD 118 undef = .pointer (some ⟨t, 0, none⟩) := ht 3 (by omega) (by kernel_rfl)
              have s3c : a.tmps.getD 118 undef = .pointer (some ⟨t, 0, none⟩) := ht 3 (by omega) (by kernel_rfl)
              have s4c : a.tmps.getD 119 undef = .agg (stepC x.kind x.key x.st (.slice Ab x.bs.length cb) x.dead x.tt) := ht 4 (by omega) (by kernel_rfl)
              obtain rfl : k = 1 := by
                rcases hik with h | h
                · cases h
                · injection h with h; exact h.symm
              refine left2_turns 17 #[.pointer (some ⟨t, 0, none⟩), .agg (stepC x.kind x.key x.st (.slice Ab x.bs.length cb) x.dead x.tt)] (by simp [go_sem, s3c, s4c]) ?_ rfl
              exact two_second hk Ab cb (by omega) hks HBY.out HT2.out hb2 (Nat.le_of_lt hk.row.lt)
          case hend =>
            intro V' u k hk hkt hV'
            have v0 : V' 0 = .pointer (some ⟨s, 0, none⟩) := hV' 0 (by omega)
            have v1 : V' 1 = .agg (stepC x.kind x.key x.st (.slice Ab x.bs.length cb) x.dead x.tt) := hV' 1 (by omega)
            obtain ⟨cs0, v2, hcs0⟩ : TellV wr.heap.size (ansR R1 x) (V' 2) u := hV' 2 (by omega)
            have v3 : V' 3 = .pointer (some ⟨t, 0, none⟩) := hV' 3 (by omega)
            have v4 : V' 4 = .agg (stepC x.kind x.key x.st (.slice Ab x.bs.length cb) x.dead x.tt) := hV' 4 (by omega)
            obtain ⟨cs1, v5, hcs1⟩ : TellV wr.heap.size (ansR R2 x) (V' 5) u := hV' 5 (by omega)
            have hk0 : 0 < k := hkt 2 0 (by omega) rfl
            have hk1 : 1 < k := hkt 5 1 (by omega) rfl
            change wpList _ _ _ _ (Act.put (Act.put (Act.put (Act.put (Act.put (Act.put _ (some 115) (V' 0)) (some 116) (V' 1)) (some 117) (V' 2)) (some 118) (V' 3)) (some 119) (V' 4)) (some 120) (V' 5)) _
            rw [v0, v1, v2, v3, v4, v5]
            simp only [Act.put, List.setIfInBounds_toArray, List.set_cons_zero, List.set_cons_succ]
            simp only [List.drop_succ_cons, List.drop_zero]
            clear hV' v0 v1 v2 v3 v4 v5
            have hend := hk.end hk1
            have HAL := Lib.hid (alike_same u cs0 cs1 (ansR R1 x) HF.out hcs0.at (by rw [HAN.out]; exact hcs1.at))
            have HEND := Lib.hid hend
            clear hk hkt hk0 hk1 hend hcs0 hcs1
            go_wp2_with fail
            refine HAL.out.mono ?_; rintro e u2 ⟨rfl, ho2⟩
            have HO2 := Lib.hid ho2
            clear ho2
            go_wp2_with fail
            obtain ⟨T1', T2', h1, h2, h3, h4, h5⟩ := HEND.out
            exact ⟨FIN.out _ _ _ (TwoSt.keep ⟨T1', T2', h1, h2, h3, h4, h5⟩ HO2.out) HSTEP.out, by simp [intOf]; omega⟩
      · have hk6 : x.kind = 6 := eq_of_beq q6
        have q2 : (x.kind == 2) = false := by rw [hk6]; rfl
        have q5 : (x.kind == 5) = false := by rw [hk6]; rfl
        have q0 : (x.kind == 0) = false := by rw [hk6]; rfl
        have q1 : (x.kind == 1) = false := by rw [hk6]; rfl
        have q3 : (x.kind == 3) = false := by rw [hk6]; rfl
        clear hk6
        have HL1 := two_len HTA.out (by unfold NMAX; omega)
        obtain ⟨m, hm⟩ : ∃ m, (keysR R1).length = m := ⟨_, rfl⟩
        rw [hm] at HL1
        have hm2 : (keysR R2).length = m := by rw [← HSM.out.keys]; exact hm
        have HM2 := Lib.hid hm2
        replace HL1 := Lib.hid HL1
        have HROW := Lib.hid (Blk.new wr 29 (stepC x.kind x.key x.st (.slice Ab x.bs.length cb) x.dead x.tt))
        clear hm hm2
        go_wp2_with fail
        refine HL1.out.mono ?_; rintro e u1 ⟨rfl, hs1, hou1⟩
        have HL2 := two_len hs1.swap (by unfold NMAX; omega)
        rw [HM2.out] at HL2
        replace HL2 := Lib.hid HL2
        have HROW1 := Lib.hid (HROW.out.only hou1 (fun h => h))
        clear hs1 hou1 HL1
        go_wp2_with fail
        refine HL2.out.mono ?_; rintro e u2 ⟨rfl, hs2, hou2⟩
        have HS2 := Lib.hid hs2.swap
        have hrow := HROW1.out.only hou2 (fun h => h)
        have c0 := hrow.cellv 0 rfl
        have c2 := hrow.cellv 2 rfl
        clear hs2 hou2 HL2 hrow
        cases qg : decide (hz ≤ x.st)
        · go_wp2_with fail
          exact ⟨FIN.out _ _ _ (HS2.out.more (by omega)) HSM.out, by simp [intOf]; omega⟩
        · go_wp2_with fail
          exact ⟨FIN.out _ _ _ (HS2.out.more (by omega)) HSM.out, by simp [intOf]; omega⟩
    · obtain rfl : i = n := by omega
      go_wp2_with fail
      go_ret
      exact ⟨rfl, HO.out⟩

end Go.Proofs.Ytnonnencdhogiaa

/-
  Layer 14's laws: what comes in where the whole is of a small bulk.
-/
namespace Go.Proofs.Ytnonnencdhogiaa
open Go.ChangeShapes Go.WideShapes Go.ChangeAt Go.RowKit Go.Deep

theorem bulk_one {H : Type} (d : DataW H) : 1 ≤ Rows.uptoBulk d := by
  cases d with
  | lit l => cases l <;> simp [Rows.uptoBulk]
  | nil => simp [Rows.uptoBulk]
  | ptr d => simp [Rows.uptoBulk]
  | slice elems spare => simp [Rows.uptoBulk]
  | agg parts => simp [Rows.uptoBulk]
  | iface t d => simp [Rows.uptoBulk]
  | map entries => simp [Rows.uptoBulk]
  | held h => simp [Rows.uptoBulk]
theorem bulk_part {H : Type} {d : DataW H} {l : List (DataW H)} (h : d ∈ l) : Rows.uptoBulk d ≤ Rows.uptoBulkAll l := by
  induction l with
  | nil => cases h
  | cons x r ih =>
    simp only [Rows.uptoBulkAll]
    cases List.mem_cons.1 h with
    | inl e => subst e; omega
    | inr e => have := ih e; omega
theorem bulk_length {H : Type} (l : List (DataW H)) : l.length ≤ Rows.uptoBulkAll l := by
  induction l with
  | nil => simp [Rows.uptoBulkAll]
  | cons x r ih => have := bulk_one x; simp only [Rows.uptoBulkAll, List.length_cons]; omega
theorem bulk_slice {H : Type} (D S : List (DataW H)) : Rows.uptoBulk (.slice D S) = Rows.uptoBulkAll D + Rows.uptoBulkAll S + 1 := by simp only [Rows.uptoBulk]
theorem bulk_string {H : Type} (t : ByteArray) : Rows.uptoBulk (DataW.lit (H := H) (.string t.data.toList)) = t.size + 1 := by
  simp [Rows.uptoBulk]
theorem bulk_of {H : Type} {l : List (DataW H)} (hk : Rows.uptoSmall H l = true) : Rows.uptoBulkAll l ≤ 1048576 := by
  unfold Rows.uptoSmall at hk
  exact of_decide_eq_true hk

theorem bulk_arg {H : Type} {l : List (DataW H)} {d : DataW H} (hk : Rows.uptoSmall H l = true) (j : Nat) (h : l[j]? = some d) : Rows.uptoBulk d ≤ 1048576 :=
  Nat.le_trans (bulk_part (List.mem_of_getElem? h)) (bulk_of hk)

theorem few_of {H : Type} {l : List (DataW H)} {d : DataW H} {A : Option Addr} {n cap : Nat} (j : Nat) (hk : Rows.uptoSmall H l = true) (hj : l[j]? = some d)
    (hd : A = none ∧ n = 0 ∧ cap = 0 ∨ ∃ D S, d = .slice D S ∧ D.length = n ∧ D.length + S.length = cap) : n ≤ 1048576 := by
  rcases hd with ⟨_, h0, _⟩ | ⟨D, S, rfl, hD, _⟩
  · omega
  · have h1 := bulk_arg hk j hj
    rw [bulk_slice] at h1
    have := bulk_length D
    omega

end Go.Proofs.Ytnonnencdhogiaa

/-
  Layer 14's law StoreBack, plain: stores of the same versions; Load.
-/
namespace Go.Proofs.Ytnonnencdhogiaa
open Go.RowKit

/-- the same versions of each key -/
def SameR (R1 R2 : List KV) : Prop := ∀ key, verR R1 key = verR R2 key
section
variable {R1 R2 : List KV} (h : SameR R1 R2)
include h
theorem SameR.keys : keysR R1 = keysR R2 :=
  sorted_unique _ _ (keysR_sorted _) (keysR_sorted _) fun k => by rw [keysR_mem, keysR_mem, ← verR_ne, ← verR_ne, h]
theorem SameR.live : liveR R1 = liveR R2 := by
  unfold liveR
  rw [h.keys]
  exact sumZ_congr fun k _ => by rw [h]
theorem SameR.len : R1.length = R2.length := by
  rw [← sumN_len R1 (keysR R1) (sorted_nodup (keysR_sorted _)) keysR_all, ← sumN_len R2 (keysR R2) (sorted_nodup (keysR_sorted _)) keysR_all, h.keys]
  exact sumN_congr fun k _ => by rw [h]
theorem SameR.code (key : ByteArray) (x : Ver) : codeR R1 key x = codeR R2 key x := by unfold codeR; rw [h]
theorem SameR.scan (fr tt : ByteArray) (st : Int) : scanR R1 fr tt st = scanR R2 fr tt st := by
  have : verR R1 = verR R2 := funext h
  unfold scanR
  rw [h.keys, this]
theorem SameR.vers : versR R1 = versR R2 := by
  have : verR R1 = verR R2 := funext h
  unfold versR
  rw [h.keys, this]
theorem SameR.after (key : ByteArray) (x : Ver) : SameR (afterR R1 key x) (afterR R2 key x) := by
  unfold afterR
  rw [h.code]
  split
  · intro k
    rw [verR_append, verR_append, h]
  · exact h
theorem SameR.vac (h1 : GoodR R1) (h2 : GoodR R2) (hz : Int) : SameR (vacR R1 hz) (vacR R2 hz) := fun k => by rw [verR_vac h1, verR_vac h2, h]
theorem SameR.ans (h1 : GoodR R1) (h2 : GoodR R2) (x : Stp) : ansR R1 x = ansR R2 x := by
  unfold ansR
  rw [h.code, h x.key, h.scan, h.len, (h.vac h1 h2 x.st).len, h.live, h.keys, h.vers]
theorem SameR.step (h1 : GoodR R1) (h2 : GoodR R2) (x : Stp) : SameR (stepR R1 x) (stepR R2 x) := by
  unfold stepR
  split
  · exact h.after _ _
  · split
    · exact h.vac h1 h2 _
    · exact h
end
theorem SameR.versR (R : List KV) : SameR R (Go.Proofs.Ytnonnencdhogiaa.versR R) := fun key => by
  change _ = ((Go.Proofs.Ytnonnencdhogiaa.versR R).filter fun p => decide (p.1 = key)).map (·.2)
  rw [versR_filter, List.map_map]
  exact (List.map_id _).symm

/-- A version that says 'gone' has no bytes. -/
theorem fillR_dead (xs : List KV) : ∀ p ∈ fillR xs, p.2.dead = true → p.2.bs = [] := by
  have : ∀ (xs R : List KV), (∀ p ∈ R, p.2.dead = true → p.2.bs = []) → ∀ p ∈ xs.foldl (fun R x => afterR R x.1 x.2) R, p.2.dead = true → p.2.bs = [] := by
    intro xs
    induction xs with
    | nil => exact fun R h => h
    | cons x xs ih =>
      intro R h
      refine ih _ (show ∀ p ∈ afterR R x.1 x.2, p.2.dead = true → p.2.bs = [] from ?_)
      unfold afterR
      split
      · rename_i hc
        intro p hp hd
        rcases List.mem_append.1 hp with hp | hp
        · exact h p hp hd
        · obtain rfl : p = (x.1, x.2) := by simpa using hp
          unfold codeR applyC at hc
          split at hc
          · contradiction
          · rename_i hm
            have hm : mayI x.1.size x.2.bs.length x.2.st x.2.dead = 0 := by simpa using hm
            exact List.eq_nil_of_length_eq_zero ((may_ok hm).2.2.2.1 hd)
      · exact h
  exact this xs [] (fun _ h => by cases h)

theorem may_of {key : ByteArray} {n : Nat} {st : Int} {dead : Bool} (h1 : 1 ≤ key.size ∧ key.size ≤ 255) (h2 : n ≤ 4096) (h3 : dead = true → n = 0) (h4 : 0 ≤ st ∧ st ≤ 4611686018427387904) : mayI key.size n st dead = 0 := by
  unfold mayI
  rw [if_neg (by omega), if_neg (by rintro (h | ⟨h, h'⟩); omega; have := h3 h; omega), if_neg (by omega)]
theorem vers_code {R : List KV} (hg : GoodR R) (hd : ∀ p ∈ R, p.2.dead = true → p.2.bs = []) {i : Nat} {x : KV} (hx : (versR R)[i]? = some x) : codeR ((versR R).take i) x.1 x.2 = 0 := by
  have hm := versR_mem (List.mem_of_getElem? hx)
  unfold codeR applyC
  rw [may_of (hg.key _ hm) (hg.bs _ hm) (fun h => by rw [hd _ hm h]; rfl) (hg.st _ hm), if_neg (by simp)]
  have hs : versR R = (versR R).take i ++ x :: (versR R).drop (i + 1) := by
    obtain ⟨hil, e⟩ := List.getElem?_eq_some_iff.1 hx
    rw [← e, List.getElem_cons_drop, List.take_append_drop]
  have hr := hg.rise x.1
  rw [SameR.versR R x.1, hs, verR_append] at hr
  have h2 := (List.pairwise_append.1 hr).2.2
  split
  · rfl
  · rename_i y hy
    have := h2 y (List.mem_of_getLast? hy) x.2 (verR_mem.2 (by simp))
    rw [if_neg (by omega)]
theorem fill_ok {xs : List KV} (hok : ∀ i x, xs[i]? = some x → codeR (xs.take i) x.1 x.2 = 0) : ∀ i, i ≤ xs.length → fillR (xs.take i) = xs.take i
  | 0, _ => by simp [fillR]
  | i + 1, h => by
    have hx : xs[i]? = some (xs[i]'(by omega)) := List.getElem?_eq_getElem _
    rw [fillR_take hx, fill_ok hok i (by omega)]
    unfold afterR
    rw [if_pos (hok i _ hx), List.take_add_one, hx]
    rfl
theorem versAt_list {w : World} {A : Option Addr} {cap : Nat} {xs : List KV} (h : ListAt 4 VerE w (.slice A xs.length cap) xs) (hk : ∀ x ∈ xs, x.1.size ≤ maxLen) : VersAt w A xs := fun i x hx => by
  obtain ⟨A', cap', hv, h⟩ := h
  injection hv with h1 _ _
  subst h1
  obtain ⟨g, off, cs, hA, hg, hc, hl, Ab, c, rfl, hb⟩ := h i x hx
  exact ⟨g, off, Ab, c, hA, hg, hc 0 _ rfl, hc 1 _ rfl, hc 2 _ rfl, hc 3 _ rfl, hb, hk x (List.mem_of_getElem? hx)⟩

set_option maxRecDepth 100000 in
set_option maxHeartbeats 4000000 in
theorem load_ok (w : World) (A : Option Addr) (cap : Nat) (xs : List KV) (U : Nat → Prop) (hA : VersAt w A xs) (hfew : xs.length ≤ 2513169434843) (hU : ∀ k, U k → k < w.heap.size) (hok : ∀ i x, xs[i]? = some x → codeR (xs.take i) x.1 x.2 = 0) :
    Calls Try.prog 36 #[.slice A xs.length cap] w fun e w' => ∃ s T, e = .returned (.tuple #[.pointer (some ⟨s, 0, none⟩), .int .i64 0]) ∧ StoR w' s T U xs xs.length ∧ Only NoneOf w w' ∧ ∀ k, T k → w.heap.size ≤ k := by
  have HA := Lib.hid hA
  have HOK := Lib.hid hok
  obtain ⟨n, hn⟩ : ∃ n, xs.length = n := ⟨_, rfl⟩
  have HN := Lib.hid hn
  have HNW := Lib.hid (newR w U hU)
  rw [hn] at hfew ⊢
  clear hA hn hok
  go_enter Try.func36, Try.ntmps36
  go_wp2_with fail
  refine HNW.out.mono ?_; rintro e w1 ⟨rfl, T1, h1, ho1, ht1⟩
  have H1 := Lib.hid h1
  have HO1 := Lib.hid ho1
  have HT1 := Lib.hid ht1
  clear h1 ho1 ht1
  go_wp2_with fail
  go_loopw [11] (fun v wr => ∃ (i : Nat) (T : Nat → Prop), v = .int .i64 i ∧ i ≤ n ∧ StoR wr (w.heap.size + 1) T U (xs.take i) i ∧ Only NoneOf w wr ∧ ∀ k, T k → w.heap.size ≤ k) (fun v _ => n - (intOf v).toNat)
  case atStart => exact ⟨0, T1, rfl, by omega, H1.out, HO1.out, HT1.out⟩
  case round =>
    obtain ⟨i, T, rfl, hi, h, hO, hT⟩ := hrel
    have HO := Lib.hid hO
    have HS := Lib.hid h
    have HT := Lib.hid hT
    clear hO h hT
    by_cases hlt : i < n
    · have hx : xs[i]? = some (xs[i]'(by rw [HN.out]; exact hlt)) := List.getElem?_eq_getElem _
      generalize xs[i]'(by rw [HN.out]; exact hlt) = x at hx
      obtain ⟨g, off, Ab, cb, rfl, hg, d0, d1, d2, d3, hby, hks⟩ := (HA.out.keep HO.out) i x hx
      have hcode := HOK.out i x hx
      have hafter : afterR (xs.take i) x.1 x.2 = xs.take (i + 1) := by
        unfold afterR
        rw [if_pos hcode, List.take_add_one, hx]
        rfl
      have HTK := Lib.hid hafter
      have HCO := Lib.hid hcode
      clear hafter hcode
      obtain ⟨key, st, bs, dead⟩ := x
      simp only at d0 d1 d2 d3 hby hks
      obtain ⟨nn, hnn⟩ : ∃ nn, bs.length = nn := ⟨_, rfl⟩
      rw [hnn] at d2
      have HAP := applyR _ _ _ _ _ _ (HS.out.keep ((Only.refl NoneOf wr).alloc (.cells (verC key st (.slice Ab nn cb) dead) 27))) (by unfold NMAX; omega) key st Ab nn cb dead bs hnn (hby.keep ((Only.refl _ _).alloc _))
      rw [HCO.out, HTK.out] at HAP
      replace HAP := Lib.hid HAP
      have HOA := Lib.hid (HO.out.alloc (.cells (verC key st (.slice Ab nn cb) dead) 27))
      have hwr := HO.out.size
      clear hby hx
      go_wp2_with fail
      refine HAP.out.mono ?_; rintro e w2 ⟨rfl, T2, h2, ho2, ht2⟩
      have H2 := Lib.hid h2
      have HO2 := Lib.hid (HOA.out.step ho2 (fun k hk hh => by have := HT.out k hh; omega))
      have HT2 := Lib.hid (show ∀ k, T2 k → w.heap.size ≤ k from fun k hk => by
        rcases ht2 k hk with h | h
        · exact HT.out k h
        · simp at h; omega)
      clear h2 ho2 ht2
      go_wp2_with fail
      exact ⟨⟨i + 1, T2, by rw [show ((i + 1 : Nat) : Int) = (i : Int) + 1 by omega], by omega, H2.out, HO2.out, HT2.out⟩, by simp [intOf]; omega⟩
    · obtain rfl : i = n := by omega
      have e1 : xs.take i = xs := by rw [← HN.out, List.take_length]
      have H3 := HS.out
      rw [e1] at H3
      have HS3 := Lib.hid H3
      clear H3 e1
      go_wp2_with fail
      go_ret2
      exact ⟨_, T, rfl, HS3.out, HO.out, HT.out⟩

end Go.Proofs.Ytnonnencdhogiaa

/-
  Layer 14's law StoreBack walked.
-/
namespace Go.Proofs.Ytnonnencdhogiaa
open Go.RowKit

/-- the loop over the script -/
def BkRel (w0 : World) (s t : Nat) (N n : Nat) (v : Value) (wr : World) : Prop := ∃ (i : Nat) (R1 R2 : List KV), v = .int .i64 i ∧ i ≤ n ∧ TwoSt w0 s t R1 R2 (N + i) wr ∧ SameR R1 R2

set_option maxRecDepth 100000 in
set_option maxHeartbeats 8000000 in
theorem back_walk (A : Option Addr) (cap : Nat) (vs : List KV) (A3 : Option Addr) (cap3 : Nat) (xs : List Stp) (w : World)
    (hV : VersAt w A vs) (hX : StepsAt w A3 xs) (hfew : vs.length + xs.length ≤ 2513169434843) :
    Calls Try.prog 12 #[.slice A vs.length cap, .slice A3 xs.length cap3] w (Ans (.bool true) w) := by
  have HV := Lib.hid hV
  have HX := Lib.hid hX
  obtain ⟨n, hn⟩ : ∃ n, xs.length = n := ⟨_, rfl⟩
  have HN := Lib.hid hn
  rw [hn] at hfew ⊢
  obtain ⟨nv, hnv⟩ : ∃ nv, vs.length = nv := ⟨_, rfl⟩
  have HNV := Lib.hid hnv
  rw [hnv] at hfew ⊢
  clear hV hX hn hnv
  have HFX := fun u => Lib.hid (fixed_is u)
  go_enter Try.func12, Try.ntmps12
  go_wp2_with fail
  refine (HFX _).out.mono ?_; rintro e w1 ⟨rfl, ho1⟩
  have HO1 := Lib.hid ho1
  have HF1 := filled_is w1 A cap vs NoneOf (HV.out.keep HO1.out) (by rw [HNV.out]; omega) (fun _ h => h.elim)
  rw [HNV.out] at HF1
  replace HF1 := Lib.hid HF1
  have HDD := Lib.hid (fillR_dead vs)
  clear ho1
  go_wp2_with fail
  refine HF1.out.mono ?_; rintro e w2 ⟨s, T1, rfl, h1, ho2, ht1⟩
  obtain ⟨R, hR⟩ : ∃ R, fillR vs = R := ⟨_, rfl⟩
  rw [hR] at h1 HDD
  rw [HNV.out] at h1
  have H1 := Lib.hid h1
  have HO2 := Lib.hid ho2
  have HT1 := Lib.hid ht1
  have HVS := Lib.hid (versionsR w2 s nv T1 NoneOf R h1 (by unfold NMAX; omega))
  clear h1 ho2 ht1 HF1 hR
  go_wp2_with fail
  refine HVS.out.mono ?_; rintro e w3 ⟨v, rs, rfl, hr, hpl, ho3⟩
  have hla := listAt_vers hr
  rw [hpl] at hla
  obtain ⟨Av, cv, rfl, hla2⟩ := hla
  have hrl : (versR R).length = R.length := versR_length R
  have hRl := H1.out.len
  have HLD := load_ok w3 Av cv (versR R) T1 (versAt_list ⟨Av, cv, rfl, hla2⟩ (fun x hx => by
    have := (H1.out.good.key x (versR_mem hx)).2
    unfold maxLen
    omega)) (by omega) (fun k hk => Nat.lt_of_lt_of_le (H1.out.lt hk) ho3.size) (fun i x hx => vers_code H1.out.good HDD.out hx)
  obtain ⟨nr, hnr⟩ : ∃ nr, (versR R).length = nr := ⟨_, rfl⟩
  rw [hnr] at HLD hrl ⊢
  have HRL := Lib.hid hrl
  replace HLD := Lib.hid HLD
  have HO3 := Lib.hid ho3
  clear hr hpl hla2 hrl ho3 HVS
  go_wp2_with fail
  refine HLD.out.mono ?_; rintro e w4 ⟨t, T2, rfl, h2, ho4, ht2⟩
  have HTW := Lib.hid (show TwoSt w1 s t R (versR R) nv w4 from
    ⟨T1, T2, (H1.out.keep HO3.out).other ho4 (fun _ h => h.elim) (fun k hk => ⟨h2.lt hk, .inr (ht2 k hk)⟩), h2.more (by have := HRL.out; omega), (HO2.out.trans HO3.out).trans ho4, HT1.out, fun k hk => Nat.le_trans (HO2.out.trans HO3.out).size (ht2 k hk)⟩)
  clear h2 ho4 ht2 HLD H1 HT1 HO2 HO3 HRL hnr hRl HDD
  go_wp2_with fail
  go_loopw [24] (fun v wr => BkRel w1 s t nv n v wr) (fun v _ => n - (intOf v).toNat)
  case atStart => exact ⟨0, R, versR R, rfl, by omega, HTW.out, SameR.versR R⟩
  case round =>
    clear HTW
    obtain ⟨i, R1, R2, rfl, hi, htw, hsame⟩ := hrel
    have HTW := Lib.hid htw
    have HSM := Lib.hid hsame
    have HO := Lib.hid (show Only NoneOf w wr from by
      obtain ⟨_, _, _, _, h, _⟩ := htw
      exact HO1.out.trans h)
    clear htw hsame
    by_cases hlt : i < n
    · have hx : xs[i]? = some (xs[i]'(by rw [HN.out]; exact hlt)) := List.getElem?_eq_getElem _
      generalize xs[i]'(by rw [HN.out]; exact hlt) = x at hx
      obtain ⟨g, off, Ab, cb, rfl, hg, d0, d1, d2, d3, d4, d5, hbx, hks⟩ := (HX.out.keep HO.out) i x hx
      have HBY0 := Lib.hid (show BytesAt w1 Ab x.bs from by
        obtain ⟨g2, off2, Ab2, cb2, hA2, hg2, e0, e1, e2, e3, e4, e5, hby2, _⟩ := (HX.out.keep HO1.out) i x hx
        injection hA2 with hA2
        injection hA2 with h1 h2 _
        subst h1; subst h2
        obtain ⟨_, _, _, _, hO, _⟩ := HTW.out
        have := (hO.cell (p := ⟨g, off + i * 6 + 3, none⟩) hg2 (fun h => h)).trans e3
        rw [d3] at this
        injection this with this
        injection this with h1 _ _
        rw [h1]
        exact hby2)
      have hlt' : nv + i < NMAX := by unfold NMAX; omega
      have fin : ∀ u R1' R2', TwoSt w1 s t R1' R2' (nv + i + 1) u → SameR R1' R2' → BkRel w1 s t nv n (.int .i64 ((i : Int) + 1)) u := fun u R1' R2' h1 h2 =>
        ⟨i + 1, R1', R2', by rw [show ((i + 1 : Nat) : Int) = (i : Int) + 1 by omega], by omega, by rw [← Nat.add_assoc]; exact h1, h2⟩
      have FIN := Lib.hid fin
      clear fin hbx hx
      obtain ⟨T1, T2, h1, h2w, h3, h4, h5⟩ := HTW.out
      have hal : Only NoneOf wr (wr.alloc (.cells (stepC x.kind x.key x.st (.slice Ab x.bs.length cb) x.dead x.tt) 29)) := (Only.refl _ _).alloc _
      have HG0 := Lib.hid (show TwoG w1 s t T1 T2 R1 R2 x (nv + i) (nv + i) wr.heap.size (stepC x.kind x.key x.st (.slice Ab x.bs.length cb) x.dead x.tt) 0 (wr.alloc (.cells (stepC x.kind x.key x.st (.slice Ab x.bs.length cb) x.dead x.tt) 29)) from
        ⟨h1.keep hal, h2w.keep hal, h3.trans hal, Blk.new _ _ _⟩)
      have HT1 := Lib.hid h4
      have HT2 := Lib.hid h5
      have HBY := Lib.hid (show BytesAt w1 Ab x.bs from HBY0.out)
      have hb1 : ¬ T1 wr.heap.size := fun h => by have := h1.lt h; omega
      have hb2 : ¬ T2 wr.heap.size := fun h => by have := h2w.lt h; omega
      have hlow : ∀ k, T1 k ∨ T2 k → k < wr.heap.size := fun k hk => hk.elim (fun h => h1.lt h) (fun h => h2w.lt h)
      have HF := Lib.hid (ansR_fit h1 (by omega) x)
      have HAN := Lib.hid (HSM.out.ans HTW.out.good.1 HTW.out.good.2 x)
      have HSTEP := Lib.hid (HSM.out.step HTW.out.good.1 HTW.out.good.2 x)
      clear h1 h2w h3 h4 h5 hal
      go_upto_region 10 with (fail)
      refine wp_region_head2 6 42 [] (fun _ => none) (fun i => match i with | 2 => some 0 | 5 => some 1 | _ => none) (fun k => T1 k ∨ T2 k) (TwoG w1 s t T1 T2 R1 R2 x (nv + i) (nv + i) wr.heap.size (stepC x.kind x.key x.st (.slice Ab x.bs.length cb) x.dead x.tt)) (TwoT x Ab cb s t R1 R2 wr.heap.size) rfl (by kernel_rfl) (by kernel_rfl) ?hskip ?hgv (TwoT_keep _ _ _ _ _ _ _ _ hlow) HG0.out.drew ?hstep ?hend
      case hskip =>
        intro i o hi ho hw k
        have : i = 0 ∨ i = 1 ∨ i = 2 ∨ i = 3 ∨ i = 4 ∨ i = 5 := by omega
        rcases this with rfl | rfl | rfl | rfl | rfl | rfl
        · rfl
        · rfl
        · obtain rfl := Option.some.inj (ho : some _ = some o); exact absurd (show true = false from hw) (by decide)
        · rfl
        · rfl
        · obtain rfl := Option.some.inj (ho : some _ = some o); exact absurd (show true = false from hw) (by decide)
      case hgv =>
        intro g hg v w h
        cases hg
      case hstep =>
        intro i o hi ho a u k hk hik hs ht
        have e5 : a.tmps.getD 5 undef = .pointer (some ⟨s, 0, none⟩) := hs 5 (of_decide_eq_true (by kernel_rfl))
        have e6 : a.tmps.getD 6 undef = .pointer (some ⟨t, 0, none⟩) := hs 6 (of_decide_eq_true (by kernel_rfl))
        have e9 : a.tmps.getD 9 undef = .pointer (some ⟨wr.heap.size, 0, none⟩) := hs 9 (of_decide_eq_true (by kernel_rfl))
        have : i = 0 ∨ i = 1 ∨ i = 2 ∨ i = 3 ∨ i = 4 ∨ i = 5 := by omega
        rcases this with rfl | rfl | rfl | rfl | rfl | rfl
        · obtain rfl := Option.some.inj (ho : some _ = some o)
          rw [if_pos (by decide)]
          exact left2_value (.pointer (some ⟨s, 0, none⟩)) (by simp [go_sem, e5]) rfl rfl hk
        · obtain rfl := Option.some.inj (ho : some _ = some o)
          rw [if_pos (by decide)]
          exact left2_load 29 (.tmp 9) wr.heap.size 29 _ _ rfl e9 hk.row Try.underlying29 rfl info29 rfl rfl hk
        · obtain rfl := Option.some.inj (ho : some _ = some o)
          rw [if_pos (by decide)]
          have s0 : a.tmps.getD 28 undef = .pointer (some ⟨s, 0, none⟩) := ht 0 (by omega) (by kernel_rfl)
          have s0c : a.tmps.getD 28 undef = .pointer (some ⟨s, 0, none⟩) := ht 0 (by omega) (by kernel_rfl)
          have s1c : a.tmps.getD 29 undef = .agg (stepC x.kind x.key x.st (.slice Ab x.bs.length cb) x.dead x.tt) := ht 1 (by omega) (by kernel_rfl)
          obtain rfl : k = 0 := by
            rcases hik with h | h
            · cases h
            · injection h with h; exact h.symm
          refine left2_turns 17 #[.pointer (some ⟨s, 0, none⟩), .agg (stepC x.kind x.key x.st (.slice Ab x.bs.length cb) x.dead x.tt)] (by simp [go_sem, s0c, s1c]) ?_ rfl
          exact two_first hk Ab cb (by omega) hks HBY.out HT1.out hb1 (Nat.le_of_lt hk.row.lt)
        · obtain rfl := Option.some.inj (ho : some _ = some o)
          rw [if_pos (by decide)]
          exact left2_value (.pointer (some ⟨t, 0, none⟩)) (by simp [go_sem, e6]) rfl rfl hk
        · obtain rfl := Option.some.inj (ho : some _ = some o)
          rw [if_pos (by decide)]
          exact left2_load 29 (.tmp 9) wr.heap.size 29 _ _ rfl e9 hk.row Try.underlying29 rfl info29 rfl rfl hk
        · obtain rfl := Option.some.inj (ho : some _ = some o)
          rw [if_pos (by decide)]
          have s3 : a.tmps.getD 31 undef = .pointer (some ⟨t, 0, none⟩) := ht 3 (by omega) (by kernel_rfl)
          have s3c : a.tmps.getD 31 undef = .pointer (some ⟨t, 0, none⟩) := ht 3 (by omega) (by kernel_rfl)
          have s4c : a.tmps.getD 32 undef = .agg (stepC x.kind x.key x.st (.slice Ab x.bs.length cb) x.dead x.tt) := ht 4 (by omega) (by kernel_rfl)
          obtain rfl : k = 1 := by
            rcases hik with h | h
            · cases h
            · injection h with h; exact h.symm
          refine left2_turns 17 #[.pointer (some ⟨t, 0, none⟩), .agg (stepC x.kind x.key x.st (.slice Ab x.bs.length cb) x.dead x.tt)] (by simp [go_sem, s3c, s4c]) ?_ rfl
          exact two_second hk Ab cb (by omega) hks HBY.out HT2.out hb2 (Nat.le_of_lt hk.row.lt)
      case hend =>
        intro V' u k hk hkt hV'
        have v0 : V' 0 = .pointer (some ⟨s, 0, none⟩) := hV' 0 (by omega)
        have v1 : V' 1 = .agg (stepC x.kind x.key x.st (.slice Ab x.bs.length cb) x.dead x.tt) := hV' 1 (by omega)
        obtain ⟨cs0, v2, hcs0⟩ : TellV wr.heap.size (ansR R1 x) (V' 2) u := hV' 2 (by omega)
        have v3 : V' 3 = .pointer (some ⟨t, 0, none⟩) := hV' 3 (by omega)
        have v4 : V' 4 = .agg (stepC x.kind x.key x.st (.slice Ab x.bs.length cb) x.dead x.tt) := hV' 4 (by omega)
        obtain ⟨cs1, v5, hcs1⟩ : TellV wr.heap.size (ansR R2 x) (V' 5) u := hV' 5 (by omega)
        have hk0 : 0 < k := hkt 2 0 (by omega) rfl
        have hk1 : 1 < k := hkt 5 1 (by omega) rfl
        change wpList _ _ _ _ (Act.put (Act.put (Act.put (Act.put (Act.put (Act.put _ (some 28) (V' 0)) (some 29) (V' 1)) (some 30) (V' 2)) (some 31) (V' 3)) (some 32) (V' 4)) (some 33) (V' 5)) _
        rw [v0, v1, v2, v3, v4, v5]
        simp only [Act.put, List.setIfInBounds_toArray, List.set_cons_zero, List.set_cons_succ]
        simp only [List.drop_succ_cons, List.drop_zero]
        clear hV' v0 v1 v2 v3 v4 v5
        have hend := hk.end hk1
        have HAL := Lib.hid (alike_same u cs0 cs1 (ansR R1 x) HF.out hcs0.at (by rw [HAN.out]; exact hcs1.at))
        have HEND := Lib.hid hend
        clear hk hkt hk0 hk1 hend hcs0 hcs1
        go_wp2_with fail
        refine HAL.out.mono ?_; rintro e u2 ⟨rfl, ho2⟩
        have HO2 := Lib.hid ho2
        clear ho2
        go_wp2_with fail
        obtain ⟨T1', T2', h1, h2, h3, h4, h5⟩ := HEND.out
        exact ⟨FIN.out _ _ _ (TwoSt.keep ⟨T1', T2', h1, h2, h3, h4, h5⟩ HO2.out) HSTEP.out, by simp [intOf]; omega⟩
    · obtain rfl : i = n := by omega
      obtain ⟨T1, T2, h1, h2, h3, h4, h5⟩ := HTW.out
      have HVS := Lib.hid (versionsR wr s (nv + i) T1 T2 R1 h1 (by unfold NMAX; omega))
      have HG := Lib.hid HTW.out.good
      have H2 := Lib.hid h2
      have hl2 := h2.len
      clear hlt h1 h2 h3 h4 h5 HTW
      go_wp2_with fail
      refine HVS.out.mono ?_; rintro e w5 ⟨v5, rs5, rfl, hr5, hpl5, ho5⟩
      have HR5 := Lib.hid hr5
      have HP5 := Lib.hid hpl5
      have HO5 := Lib.hid ho5
      have HVS2 := Lib.hid (versionsR w5 t (nv + i) T2 T1 R2 (H2.out.keep ho5) (by unfold NMAX; omega))
      clear hr5 hpl5 ho5 HVS
      go_wp2_with fail
      refine HVS2.out.mono ?_; rintro e w6 ⟨v6, rs6, rfl, hr6, hpl6, ho6⟩
      have hfit : ∀ x ∈ versR R2, x.2.bs.length ≤ 4611686018427387904 := fun x hx => by
        have := HG.out.2.bs x (versR_mem hx)
        omega
      have HVA := versions_alike w6 v5 v6 (versR R2) (versR R2) (by
        have := listAt_vers HR5.out
        rw [HP5.out, HSM.out.vers] at this
        exact this.keep (fun x cs => VerE.keep ho6 x cs) ho6) (by rw [← hpl6]; exact listAt_vers hr6) (by rw [versR_length]; omega) hfit
      rw [decide_eq_true rfl] at HVA
      replace HVA := Lib.hid HVA
      have HO6 := Lib.hid ((HO.out.trans HO5.out).trans ho6)
      clear hr6 hpl6 ho6 HVS2
      go_wp2_with fail
      refine HVA.out.mono ?_; rintro e w7 ⟨rfl, hw7⟩
      have HO7 := Lib.hid (HO6.out.trans (drewN_only hw7))
      clear hw7
      go_wp2_with fail
      go_ret
      exact ⟨rfl, HO7.out⟩

end Go.Proofs.Ytnonnencdhogiaa

/-
  Layer 14's law StoreScans, plain: a Scan is the Gets, and is made of parts.
-/
namespace Go.Proofs.Ytnonnencdhogiaa

theorem scan_get {R : List KV} {fr tt : ByteArray} {st : Int} {p : ByteArray × List UInt8} (h : p ∈ scanR R fr tt st) : found (verR R p.1) st = some p.2 := by
  obtain ⟨k, _, hk⟩ := List.mem_filterMap.1 h
  unfold scanKey at hk
  split at hk
  · cases hk
  · obtain ⟨b, hb, rfl⟩ := Option.map_eq_some_iff.1 hk
    exact hb
theorem empty_list : (⟨#[]⟩ : ByteArray).toList = [] := by rw [ByteArray.toList_eq]
theorem scanKey_key {V : ByteArray → List Ver} {fr tt : ByteArray} {st : Int} {k : List UInt8} {p : ByteArray × List UInt8} (h : scanKey V fr tt st k = some p) : p.1 = keyB k := by
  unfold scanKey at h
  split at h
  · cases h
  · obtain ⟨b, _, rfl⟩ := Option.map_eq_some_iff.1 h
    rfl
theorem scan_rise (R : List KV) (fr tt : ByteArray) (st : Int) : (scanR R fr tt st).Pairwise fun p q => p.1.data.toList < q.1.data.toList := by
  unfold scanR
  refine List.Pairwise.filterMap _ (fun a a' h b hb b' hb' => ?_) (keysR_sorted R)
  rw [scanKey_key hb, scanKey_key hb']
  simpa using h

/-- is it a found key's newest version? -/
def cntP (R : List KV) (st : Int) (p : KV) : Bool := (found (verR R p.1) st).isSome && (match (verR R p.1).getLast? with | some y => y.st == p.2.st | none => false)
theorem count_last : ∀ (xs : List Ver) (b : Ver), (xs ++ [b]).Pairwise (fun a c => a.st < c.st) → (xs ++ [b]).countP (fun x => b.st == x.st) = 1
  | [], b, _ => by simp
  | x :: xs, b, h => by
    rw [List.cons_append, List.pairwise_cons] at h
    rw [List.cons_append, List.countP_cons_of_neg, count_last xs b h.2]
    have := h.1 b (by simp)
    simp
    omega
theorem scan_count {R : List KV} (hg : GoodR R) (st : Int) : (versR R).countP (cntP R st) = (scanR R ⟨#[]⟩ ⟨#[]⟩ st).length := by
  unfold versR scanR
  have hne : ∀ k ∈ keysR R, verR R (keyB k) ≠ [] := fun k hk => verR_ne.2 (keysR_mem.1 hk)
  revert hne
  generalize keysR R = ks
  intro hne
  induction ks with
  | nil => rfl
  | cons k ks ih =>
    rw [List.flatMap_cons, List.countP_append, ih fun k' hk' => hne k' (by simp [hk']), List.filterMap_cons]
    have hsk : scanKey (verR R) ⟨#[]⟩ ⟨#[]⟩ st k = (found (verR R (keyB k)) st).map fun b => (keyB k, b) := by
      unfold scanKey
      rw [if_neg]
      rintro (h | ⟨h, _⟩)
      · have : ∀ k : List UInt8, Op.bytesLess k [] = false := fun k => by cases k <;> rfl
        rw [empty_list, this] at h
        cases h
      · exact h empty_list
    rw [hsk]
    have hc : ((verR R (keyB k)).map fun x => ((keyB k, x) : KV)).countP (cntP R st) = if (found (verR R (keyB k)) st).isSome then 1 else 0 := by
      rw [List.countP_map]
      rcases List.eq_nil_or_concat (verR R (keyB k)) with e | ⟨ys, b, e⟩
      · exact absurd e (hne k (by simp))
      · rw [List.concat_eq_append] at e
        have hr := hg.rise (keyB k)
        split
        · rename_i hs
          have hf : (cntP R st ∘ fun x => ((keyB k, x) : KV)) = fun x => b.st == x.st := by
            funext x
            simp only [Function.comp, cntP, hs, Bool.true_and]
            rw [e]
            simp
          rw [hf, e]
          rw [e] at hr
          exact count_last ys b hr
        · rename_i hs
          have hf : (cntP R st ∘ fun x => ((keyB k, x) : KV)) = fun _ => false := by
            funext x
            simp only [Function.comp, cntP]
            simp [hs]
          rw [hf]
          simp
    rw [hc]
    cases found (verR R (keyB k)) st with
    | none => simp
    | some b => simp; omega

theorem fm_congr {α β : Type} {f g : α → Option β} : ∀ {l : List α}, (∀ x ∈ l, f x = g x) → l.filterMap f = l.filterMap g
  | [], _ => rfl
  | x :: l, h => by rw [List.filterMap_cons, List.filterMap_cons, h x (by simp), fm_congr fun y hy => h y (by simp [hy])]
theorem split_keys {α : Type} (A B C : List UInt8) (g : List UInt8 → Option α) (hAB : ¬ B < A) (hBC : ¬ C < B) : ∀ (ks : List (List UInt8)), ks.Pairwise (· < ·) →
    ks.filterMap (fun k => if k < A ∨ ¬ k < B then none else g k) ++ ks.filterMap (fun k => if k < B ∨ ¬ k < C then none else g k) = ks.filterMap (fun k => if k < A ∨ ¬ k < C then none else g k)
  | [], _ => rfl
  | k :: ks, h => by
    obtain ⟨h1, h2⟩ := List.pairwise_cons.1 h
    by_cases hk : k < B
    · have ih := split_keys A B C g hAB hBC ks h2
      have hkC : k < C := by
        refine Decidable.byContradiction fun hn => hBC ?_
        exact List.lt_of_le_of_lt (List.not_lt.1 hn) hk
      rw [List.filterMap_cons, List.filterMap_cons, List.filterMap_cons]
      have e1 : (if k < B ∨ ¬ k < C then none else g k) = none := if_pos (.inl hk)
      have e2 : (if k < A ∨ ¬ k < B then none else g k) = if k < A ∨ ¬ k < C then none else g k := by simp [hk, hkC]
      rw [e1, e2]
      cases (if k < A ∨ ¬ k < C then none else g k) with
      | none => simpa using ih
      | some y => simpa using ih
    · have hle : ∀ k' ∈ k :: ks, ¬ k' < B := fun k' hk' => by
        rcases List.mem_cons.1 hk' with rfl | hk'
        · exact hk
        · exact List.lt_asymm (List.lt_of_le_of_lt (List.not_lt.1 hk) (h1 k' hk'))
      have hA : ∀ k' ∈ k :: ks, ¬ k' < A := fun k' hk' hn => hAB (List.lt_of_le_of_lt (List.not_lt.1 (hle k' hk')) hn)
      have e0 : (k :: ks).filterMap (fun k => if k < A ∨ ¬ k < B then none else g k) = [] := List.filterMap_eq_nil_iff.2 fun k' hk' => if_pos (.inr (hle k' hk'))
      rw [e0, List.nil_append]
      refine fm_congr fun k' hk' => ?_
      simp [hle k' hk', hA k' hk']

theorem scan_split (R : List KV) (a b c : ByteArray) (st : Int) (hab : Op.bytesLess b.toList a.toList = false) (hbc : Op.bytesLess c.toList b.toList = false) (hb : b.toList ≠ []) (hc : c.toList ≠ []) :
    scanR R a b st ++ scanR R b c st = scanR R a c st := by
  have hk : ∀ fr tt : ByteArray, tt.toList ≠ [] → scanKey (verR R) fr tt st = fun k => if k < fr.toList ∨ ¬ k < tt.toList then none else (found (verR R ⟨k.toArray⟩) st).map fun b => (⟨k.toArray⟩, b) := fun fr tt ht => by
    funext k
    unfold scanKey
    simp only [Go.Proofs.bytesLess_eq]
    simp [ht]
  rw [Go.Proofs.bytesLess_eq] at hab hbc
  unfold scanR
  rw [hk a b hb, hk b c hc, hk a c hc]
  exact split_keys _ _ _ _ (of_decide_eq_false hab) (of_decide_eq_false hbc) _ (keysR_sorted R)

end Go.Proofs.Ytnonnencdhogiaa

/-
  Layer 14's laws: slices.Sort of three texts.
-/
namespace Go.Proofs.Ytnonnencdhogiaa
open Go.RowKit Go.Maps Go.Sort

theorem only_sorted {α : Type} [Inhabited α] (enc : α → Value) (w : World) (n blk off : Nat) (d : Array α) (os : Array Obj) : Only (fun k => k = blk) w (grow (putRow enc (Go.Sort.ahead w n) blk off d) os) := by
  refine ⟨rfl, rfl, rfl, ?_, fun k hk hne => ?_⟩
  · simp [grow, putRow, mapBlock, Go.Sort.ahead]
  · simp only [grow, putRow, mapBlock, Go.Sort.ahead]
    rw [Array.getElem?_append_left (by simpa using hk), Array.getElem?_modify, if_neg (fun e => hne e.symm)]

theorem sort_three (w : World) (blk cap : Nat) (a b c : ByteArray) (h0 : w.cell? ⟨blk, 0, none⟩ = some (.string a) ∧ w.frozen? ⟨blk, 0, none⟩ = false) (h1 : w.cell? ⟨blk, 1, none⟩ = some (.string b) ∧ w.frozen? ⟨blk, 1, none⟩ = false)
    (h2 : w.cell? ⟨blk, 2, none⟩ = some (.string c) ∧ w.frozen? ⟨blk, 2, none⟩ = false) (hb : blk < w.heap.size) :
    Calls Try.prog 27 #[.slice (some ⟨blk, 0, none⟩) 3 cap] w fun e w' => e = .returned (.tuple #[]) ∧ ∃ x y z : ByteArray, w'.cell? ⟨blk, 0, none⟩ = some (.string x) ∧ w'.cell? ⟨blk, 1, none⟩ = some (.string y) ∧ w'.cell? ⟨blk, 2, none⟩ = some (.string z) ∧
      Op.bytesLess y.toList x.toList = false ∧ Op.bytesLess z.toList y.toList = false ∧ Only (fun k => k = blk) w w' := by
  have hH : Go.Sort.Holds encStr w blk 0 [a.data.toList, b.data.toList, c.data.toList].toArray := by
    intro j hj
    have : j = 0 ∨ j = 1 ∨ j = 2 := by simp at hj; omega
    rcases this with rfl | rfl | rfl
    · simpa [keyB_list, encStr] using h0
    · simpa [keyB_list, encStr] using h1
    · simpa [keyB_list, encStr] using h2
  refine (AnyM.slices_Sort_string Try.sort27 blk 0 cap [a.data.toList, b.data.toList, c.data.toList] w hH hb (by simp)).mono ?_
  rintro e w' ⟨rfl, n, os, rfl⟩
  have hlen : ([a.data.toList, b.data.toList, c.data.toList].mergeSort fun x y => decide (x ≤ y)).length = 3 := by rw [List.length_mergeSort]; rfl
  have hsort : ([a.data.toList, b.data.toList, c.data.toList].mergeSort fun x y => decide (x ≤ y)).Pairwise (fun x y => decide (x ≤ y) = true) :=
    List.pairwise_mergeSort (fun x y z h1 h2 => by simp only [decide_eq_true_eq] at *; exact List.le_trans h1 h2) (fun x y => by simp only [Bool.or_eq_true, decide_eq_true_eq]; exact List.le_total x y) _
  generalize ([a.data.toList, b.data.toList, c.data.toList].mergeSort fun x y => decide (x ≤ y)) = l at hlen hsort ⊢
  match l, hlen with
  | [x, y, z], _ =>
    have hp := holds_putRow encStr (Go.Sort.ahead w n) blk 0 _ [x, y, z].toArray (holds_ahead encStr w n blk 0 _ hH) rfl
    have hbs : blk < (putRow encStr (Go.Sort.ahead w n) blk 0 [x, y, z].toArray).heap.size := by simpa [putRow, mapBlock, Go.Sort.ahead] using hb
    have hg := holds_grow encStr _ os blk 0 _ hbs hp
    simp only [List.pairwise_cons] at hsort
    have e1 := hsort.1 y (by simp)
    have e2 := hsort.2.1 z (by simp)
    simp only [decide_eq_true_eq] at e1 e2
    refine ⟨rfl, ⟨x.toArray⟩, ⟨y.toArray⟩, ⟨z.toArray⟩, (hg 0 (by simp)).1, (hg 1 (by simp)).1, (hg 2 (by simp)).1, ?_, ?_, only_sorted _ _ _ _ _ _ _⟩
    · rw [Go.Proofs.bytesLess_eq, ByteArray.toList_eq, ByteArray.toList_eq]
      exact decide_eq_false (List.not_lt.2 e1)
    · rw [Go.Proofs.bytesLess_eq, ByteArray.toList_eq, ByteArray.toList_eq]
      exact decide_eq_false (List.not_lt.2 e2)

end Go.Proofs.Ytnonnencdhogiaa

