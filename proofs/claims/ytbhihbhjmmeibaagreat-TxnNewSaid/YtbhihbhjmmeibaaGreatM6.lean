/-
  Texts of this proof, laid together: T24, T25, T26, T27, S21, Law, Slice, T28.
-/
import Derived.Test.YtbhihbhjmmeibaaGreatM5
import Derived.Maps.AppendAt
import Derived.Test.YtbhihbhjmmeibaaGreatM2
import Derived.Deep.QuietTactic
import Derived.BigQuiet
import Derived.Test.YtbhihbhjmmeibaaGreatM1
import Derived.ProofKit
import Derived.SizedLaws
import Derived.Deep.Fields
import Derived.Deep.Slices
/-
  Layer 17: a transaction's Scan: another place.
-/
namespace Go.Proofs.YtbhihbhjmmeibaaGreat
open Go.RowKit Go.Shelf
attribute [local go_sem] Oper.semAt_some

set_option maxRecDepth 100000 in
set_option maxHeartbeats 8000000 in
theorem txScan_other (w : World) (t p m place N : Nat) (snap : List Int) (ws : List We) (ended : Bool) (U : Nat → Prop) (h : TxR w t p m U place snap ws ended N)  (k0 : Nat) (hkpl : k0 ≠ place) (fr ti : ByteArray) (ln : Nat) (tt : TypeId) (rv : Value) (hc : scanE ended snap k0 fr ti ln = 0)
    {fG fH fS : Nat} (sm : SrcM tt rv fG fH fS) (hz : Int) (cH : ∀ u, Only NoneOf w u → Calls Tryz.prog fH #[rv] u fun e u' => e = .returned (.int .i64 hz) ∧ u = u') (y : Int) (hy : snap[k0]? = some y) (hlt : ¬ y < hz) (S : Nat → Prop) (hSU : ∀ j, S j → U j) (QS : World → World → Prop) (Kp : Nat → Prop) (hKp : ∀ j, Kp j → j < w.heap.size)
    (us : List (ByteArray × List UInt8)) (hus : ∀ x ∈ us, x.1.size ≤ maxLen) (hul : ∀ x ∈ us, x.2.length ≤ 35184372088832)
    (cS : ∀ u, Only NoneOf w u → Calls Tryz.prog fS #[rv, .string fr, .string ti, .int .i64 y] u (SrcIt us Kp S QS u)) :
    Calls Tryz.prog 40 #[.pointer (some ⟨t, 0, none⟩), .int .i64 k0, .string fr, .string ti, .int .i64 ln, .iface tt rv] w (TScanPost us ln S QS w) := by
  obtain ⟨h0, hl, hf, k', y', hkp, hy', hy0⟩ := scanE_zero hc
  obtain rfl : k' = k0 := by omega
  obtain rfl : y' = y := by rw [hy] at hy'; injection hy' with hy'; exact hy'.symm
  have HOP := Lib.hid (fun u (hu : Only NoneOf w u) => open_is u t p m place N snap ws ended U (h.keep hu) (k' : Int))
  rw [h0] at HOP
  have HTX := Lib.hid h
  obtain ⟨A, c, h1, h2, h3⟩ := h.blk
  obtain ⟨g, off, rfl, hg, hcc⟩ := h2 k' y' hy
  have HCC := Lib.hid (show CellIs g off k' y' w from ⟨hg, hcc⟩)
  have hSt : ¬ S t := fun e => (h.ult t (hSU t e)).2 rfl
  have hSg : ¬ S g := fun e => (h3 g off rfl).2.2.2 (hSU g e)
  have hSl : ∀ j, S j → j < w.heap.size := fun j hj => (h.ult j (hSU j hj)).1
  have hkn : k' < snap.length := (List.getElem?_eq_some_iff.1 hy).1
  have htl := h1.lt
  have HT := Lib.hid h1
  have hO := Lib.hid (((((Only.refl NoneOf w).alloc (.cells #[.int .i64 ln] 3)).alloc (.cells #[.slice none 0 0] 54)).alloc (.cells #[.bool false] 4)).alloc (.cells #[.int .i64 0] 29))
  have hBX := ScBox.make w ln
  obtain ⟨n, hn⟩ : ∃ n, snap.length = n := ⟨_, rfl⟩
  rw [hn] at hkn HT
  obtain ⟨nf, hnf⟩ : ∃ nf, fr.size = nf := ⟨_, rfl⟩
  obtain ⟨nt, hnt⟩ : ∃ nt, ti.size = nt := ⟨_, rfl⟩
  rw [hnf, hnt] at hf
  have hk1 : ¬ (n : Int) ≤ (k' : Int) := by omega
  have hk2 : ¬ y' < 0 := by omega
  have hl1 : ¬ (ln : Int) < 1 := by omega
  have hl2 : ¬ 100 < (ln : Int) := by omega
  have hl3 : ln ≤ 100 := by omega
  have hf1 : ¬ 255 < nf := by omega
  have hf2 : ¬ 255 < nt := by omega
  have hltd : decide (y' < hz) = false := decide_eq_false hlt
  have mS := sm.mS
  have eS := sm.eS
  have nS := sm.nS
  have HKP := Lib.hid hKp
  have HSL := Lib.hid hSl
  obtain ⟨L, hL⟩ : ∃ L, us = L := ⟨_, rfl⟩
  have hLL : ∀ x ∈ L, x.2.length ≤ 35184372088832 := fun x hx => by
    rw [← hL] at hx
    exact hul x hx
  have HLL := Lib.hid hLL
  have HL := Lib.hid hL
  have HUS := Lib.hid hus
  rw [hL]
  have hpq : ((k' : Int) == (place : Int)) = false := beq_eq_false_iff_ne.2 (fun e => hkpl (by omega))
  clear hc h h1 h2 h3 hn h0 hkp hy hy' hl hf hcc hL hLL hus hul hKp hSl
  refine callsIn_wide (n := 1).1 (callsIn_of_wp_marks Tryz.func40 rfl trivial ?_ rfl)
  simp only [Tryz.ntmps40, List.size_toArray, List.length_cons, List.length_nil, Nat.reduceAdd, Nat.reduceSub, Array.replicate_succ, Array.replicate_zero, List.push_toArray, List.append_toArray, List.nil_append, List.cons_append]
  gi_wp2_with fail
  refine ⟨trivial, (callsIn_wide.2 (HOP.out _ hO.out)).mono ?_⟩; rintro e w1 ⟨rfl, hw1⟩
  have hOw := hO.out
  rw [hw1] at hBX hOw
  have hsw1 : w.heap.size + 4 ≤ w1.heap.size := by rw [← hw1]; simp
  have x10 := hBX.b10.cellv 0 rfl
  have d1 := (HT.out.only hOw (fun h => h)).cellv 1 rfl
  have dcc := HCC.out.keep hOw
  have HBX := Lib.hid hBX
  have HOW := Lib.hid hOw
  clear hw1 hBX hOw
  gi_upto_region 12 with (fail)
  refine wpIn_region_headT 9 112 (ConstT fun i => match i with | 0 => .pointer (some ⟨t, 0, none⟩) | 1 => .pointer (some ⟨t, 0, none⟩) | 2 => .pointer (some ⟨t, 1, none⟩) | 3 => .slice (some ⟨g, off, none⟩) n c | 4 => .int .i64 (k' : Int) | 5 => .pointer (some ⟨g, off + k', none⟩) | 6 => .int .i64 y' | 7 => .iface tt rv | _ => .int .i64 hz) (fun _ => false) rfl (by kernel_rfl) (by kernel_rfl) (fun _ _ _ _ h _ => h) (fun _ _ _ h => by cases h) ?_ ?_
  · intro i o hi ho a u hu hs ht
    have e0 : a.tmps.getD 0 undef = .pointer (some ⟨t, 0, none⟩) := hs 0 (of_decide_eq_true (by kernel_rfl))
    have e1 : a.tmps.getD 1 undef = .int .i64 (k' : Int) := hs 1 (of_decide_eq_true (by kernel_rfl))
    have e5 : a.tmps.getD 5 undef = .iface tt rv := hs 5 (of_decide_eq_true (by kernel_rfl))
    have FB := HT.out.only (HOW.out.trans hu) (fun h => h)
    have c1 := FB.cellv 1 rfl
    have cy := (HCC.out.keep (HOW.out.trans hu))
    have : i = 0 ∨ i = 1 ∨ i = 2 ∨ i = 3 ∨ i = 4 ∨ i = 5 ∨ i = 6 ∨ i = 7 ∨ i = 8 := by omega
    rcases this with rfl | rfl | rfl | rfl | rfl | rfl | rfl | rfl | rfl
    · obtain rfl := Option.some.inj (ho : some _ = some o)
      exact left_value (.pointer (some ⟨t, 0, none⟩)) (by simp [go_sem, e0]) rfl rfl
    · obtain rfl := Option.some.inj (ho : some _ = some o)
      have s0 : a.tmps.getD 57 undef = .pointer (some ⟨t, 0, none⟩) := ht 0 (by omega) (by kernel_rfl)
      exact left_value (.pointer (some ⟨t, 0, none⟩)) (by simp [go_sem, s0]) rfl rfl
    · obtain rfl := Option.some.inj (ho : some _ = some o)
      have s1 : a.tmps.getD 58 undef = .pointer (some ⟨t, 0, none⟩) := ht 1 (by omega) (by kernel_rfl)
      exact left_value (.pointer (some ⟨t, 1, none⟩)) (by simp [go_sem, s1]) rfl rfl
    · obtain rfl := Option.some.inj (ho : some _ = some o)
      have s2 : a.tmps.getD 59 undef = .pointer (some ⟨t, 1, none⟩) := ht 2 (by omega) (by kernel_rfl)
      exact left_value (.slice (some ⟨g, off, none⟩) n c) (by simp [go_sem, s2, c1]) rfl rfl
    · obtain rfl := Option.some.inj (ho : some _ = some o)
      exact left_value (.int .i64 (k' : Int)) (by simp [go_sem, e1]) rfl rfl
    · obtain rfl := Option.some.inj (ho : some _ = some o)
      have s3 : a.tmps.getD 60 undef = .slice (some ⟨g, off, none⟩) n c := ht 3 (by omega) (by kernel_rfl)
      have s4 : a.tmps.getD 61 undef = .int .i64 (k' : Int) := ht 4 (by omega) (by kernel_rfl)
      exact left_value (.pointer (some ⟨g, off + k', none⟩)) (by simp [go_sem, s3, s4, hkn]) rfl rfl
    · obtain rfl := Option.some.inj (ho : some _ = some o)
      have s5 : a.tmps.getD 62 undef = .pointer (some ⟨g, off + k', none⟩) := ht 5 (by omega) (by kernel_rfl)
      exact left_value (.int .i64 y') (by simp [go_sem, s5, cy]) rfl rfl
    · obtain rfl := Option.some.inj (ho : some _ = some o)
      exact left_value (.iface tt rv) (by simp [go_sem, e5]) rfl rfl
    · obtain rfl := Option.some.inj (ho : some _ = some o)
      have s7 : a.tmps.getD 64 undef = .iface tt rv := ht 7 (by omega) (by kernel_rfl)
      refine left_calls fH #[rv] (by simp [go_sem, s7, sm.mH, sm.eH]) ((cH u (HOW.out.trans hu)).mono ?_) rfl
      rintro e u' ⟨rfl, rfl⟩
      exact ⟨_, rfl, rfl, Only.refl _ _⟩
  · intro V' u3 hu hV' _
    have v0 : V' 0 = .pointer (some ⟨t, 0, none⟩) := hV' 0 (by omega)
    have v1 : V' 1 = .pointer (some ⟨t, 0, none⟩) := hV' 1 (by omega)
    have v2 : V' 2 = .pointer (some ⟨t, 1, none⟩) := hV' 2 (by omega)
    have v3 : V' 3 = .slice (some ⟨g, off, none⟩) n c := hV' 3 (by omega)
    have v4 : V' 4 = .int .i64 (k' : Int) := hV' 4 (by omega)
    have v5 : V' 5 = .pointer (some ⟨g, off + k', none⟩) := hV' 5 (by omega)
    have v6 : V' 6 = .int .i64 y' := hV' 6 (by omega)
    have v7 : V' 7 = .iface tt rv := hV' 7 (by omega)
    have v8 : V' 8 = .int .i64 hz := hV' 8 (by omega)
    change wpListIn _ _ _ _ _ _ (Act.put (Act.put (Act.put (Act.put (Act.put (Act.put (Act.put (Act.put (Act.put _ (some 57) (V' 0)) (some 58) (V' 1)) (some 59) (V' 2)) (some 60) (V' 3)) (some 61) (V' 4)) (some 62) (V' 5)) (some 63) (V' 6)) (some 64) (V' 7)) (some 65) (V' 8)) _
    rw [v0, v1, v2, v3, v4, v5, v6, v7, v8]
    simp only [Act.put, List.setIfInBounds_toArray, List.set_cons_zero, List.set_cons_succ]
    simp only [List.drop_succ_cons, List.drop_zero]
    clear hV' v0 v1 v2 v3 v4 v5 v6 v7 v8
    have hsu := hu.size
    have HBX3 := Lib.hid (HBX.out.keep hu)
    have HF := Lib.hid (HOW.out.trans hu)
    clear hu
    gi_upto_region 14 with (fail)
    refine wpIn_region_head2T 14 112 [] (fun _ => none) (fun i => match i with | 13 => some 0 | _ => none) S (GtG u3 S (fun a b => QS a b ∧ Only S a b)) (TScT t k' fr ti (.iface tt rv) (some ⟨g, off, none⟩) n c ⟨g, off + k', none⟩ y' us Kp S) rfl (by kernel_rfl) (by kernel_rfl) ?hskip ?hgv (TScT_keep _ _ _ _ _ _ _ _ _ _ _ _ _) ((Only.refl _ _).drew) ?hstep ?hend
    case hskip =>
      intro i o hi ho hw k
      have : i = 0 ∨ i = 1 ∨ i = 2 ∨ i = 3 ∨ i = 4 ∨ i = 5 ∨ i = 6 ∨ i = 7 ∨ i = 8 ∨ i = 9 ∨ i = 10 ∨ i = 11 ∨ i = 12 ∨ i = 13 := by omega
      rcases this with rfl | rfl | rfl | rfl | rfl | rfl | rfl | rfl | rfl | rfl | rfl | rfl | rfl | rfl
      · rfl
      · rfl
      · rfl
      · rfl
      · rfl
      · rfl
      · rfl
      · rfl
      · rfl
      · rfl
      · rfl
      · rfl
      · rfl
      · obtain rfl := Option.some.inj (ho : some _ = some o); exact absurd (show true = false from hw) (by decide)
    case hgv =>
      intro g hg v w h
      cases hg
    case hstep =>
      intro i o hi ho a u k hk hik hs ht
      have e0 : a.tmps.getD 0 undef = .pointer (some ⟨t, 0, none⟩) := hs 0 (of_decide_eq_true (by kernel_rfl))
      have e1 : a.tmps.getD 1 undef = .int .i64 (k' : Int) := hs 1 (of_decide_eq_true (by kernel_rfl))
      have e2 : a.tmps.getD 2 undef = .string fr := hs 2 (of_decide_eq_true (by kernel_rfl))
      have e3 : a.tmps.getD 3 undef = .string ti := hs 3 (of_decide_eq_true (by kernel_rfl))
      have e5 : a.tmps.getD 5 undef = .iface tt rv := hs 5 (of_decide_eq_true (by kernel_rfl))
      have FO := hk.only
      have FB := (HT.out.only HF.out (fun h => h)).only FO hSt
      have c1 := FB.cellv 1 rfl
      have cy := (FO.cell (p := ⟨g, off + k', none⟩) (Nat.lt_of_lt_of_le HCC.out.1 HF.out.size) hSg).trans (HCC.out.keep HF.out)
      have : i = 0 ∨ i = 1 ∨ i = 2 ∨ i = 3 ∨ i = 4 ∨ i = 5 ∨ i = 6 ∨ i = 7 ∨ i = 8 ∨ i = 9 ∨ i = 10 ∨ i = 11 ∨ i = 12 ∨ i = 13 := by omega
      rcases this with rfl | rfl | rfl | rfl | rfl | rfl | rfl | rfl | rfl | rfl | rfl | rfl | rfl | rfl
      · obtain rfl := Option.some.inj (ho : some _ = some o)
        rw [if_pos (by decide)]
        exact left2_value (.iface tt rv) (by simp [go_sem, e5]) rfl rfl hk
      · obtain rfl := Option.some.inj (ho : some _ = some o)
        rw [if_pos (by decide)]
        exact left2_value (.string fr) (by simp [go_sem, e2]) rfl rfl hk
      · obtain rfl := Option.some.inj (ho : some _ = some o)
        rw [if_pos (by decide)]
        exact left2_value (.string ti) (by simp [go_sem, e3]) rfl rfl hk
      · obtain rfl := Option.some.inj (ho : some _ = some o)
        rw [if_pos (by decide)]
        exact left2_value (.pointer (some ⟨t, 0, none⟩)) (by simp [go_sem, e0]) rfl rfl hk
      · obtain rfl := Option.some.inj (ho : some _ = some o)
        rw [if_pos (by decide)]
        have s3 : a.tmps.getD 70 undef = .pointer (some ⟨t, 0, none⟩) := ht 3 (by omega) (by kernel_rfl)
        exact left2_value (.pointer (some ⟨t, 0, none⟩)) (by simp [go_sem, s3]) rfl rfl hk
      · obtain rfl := Option.some.inj (ho : some _ = some o)
        rw [if_pos (by decide)]
        have s4 : a.tmps.getD 71 undef = .pointer (some ⟨t, 0, none⟩) := ht 4 (by omega) (by kernel_rfl)
        exact left2_value (.pointer (some ⟨t, 1, none⟩)) (by simp [go_sem, s4]) rfl rfl hk
      · obtain rfl := Option.some.inj (ho : some _ = some o)
        rw [if_pos (by decide)]
        have s5 : a.tmps.getD 72 undef = .pointer (some ⟨t, 1, none⟩) := ht 5 (by omega) (by kernel_rfl)
        exact left2_value (.slice (some ⟨g, off, none⟩) n c) (by simp [go_sem, s5, c1]) rfl rfl hk
      · obtain rfl := Option.some.inj (ho : some _ = some o)
        rw [if_pos (by decide)]
        exact left2_value (.int .i64 (k' : Int)) (by simp [go_sem, e1]) rfl rfl hk
      · obtain rfl := Option.some.inj (ho : some _ = some o)
        rw [if_pos (by decide)]
        have s6 : a.tmps.getD 73 undef = .slice (some ⟨g, off, none⟩) n c := ht 6 (by omega) (by kernel_rfl)
        have s7 : a.tmps.getD 74 undef = .int .i64 (k' : Int) := ht 7 (by omega) (by kernel_rfl)
        exact left2_value (.pointer (some ⟨g, off + k', none⟩)) (by simp [go_sem, s6, s7, hkn]) rfl rfl hk
      · obtain rfl := Option.some.inj (ho : some _ = some o)
        rw [if_pos (by decide)]
        have s8 : a.tmps.getD 75 undef = .pointer (some ⟨g, off + k', none⟩) := ht 8 (by omega) (by kernel_rfl)
        exact left2_value (.int .i64 y') (by simp [go_sem, s8, cy]) rfl rfl hk
      · obtain rfl := Option.some.inj (ho : some _ = some o)
        rw [if_pos (by decide)]
        have s0 : a.tmps.getD 67 undef = .iface tt rv := ht 0 (by omega) (by kernel_rfl)
        exact left2_value (.func (.method "Scan") #[.iface tt rv] #[]) (by simp [go_sem, s0]) rfl rfl hk
      · obtain rfl := Option.some.inj (ho : some _ = some o)
        rw [if_pos (by decide)]
        have s10 : a.tmps.getD 77 undef = .func (.method "Scan") #[.iface tt rv] #[] := ht 10 (by omega) (by kernel_rfl)
        exact left2_value (.func (.method "Scan") #[.iface tt rv] #[]) (by simp [go_sem, s10, nS]) rfl rfl hk
      · obtain rfl := Option.some.inj (ho : some _ = some o)
        rw [if_pos (by decide)]
        have s0 : a.tmps.getD 67 undef = .iface tt rv := ht 0 (by omega) (by kernel_rfl)
        have s10 : a.tmps.getD 77 undef = .func (.method "Scan") #[.iface tt rv] #[] := ht 10 (by omega) (by kernel_rfl)
        have s11 : a.tmps.getD 78 undef = .func (.method "Scan") #[.iface tt rv] #[] := ht 11 (by omega) (by kernel_rfl)
        exact left2_value (.iface tt rv) (by simp [go_sem, s0]) rfl rfl hk
      · obtain rfl := Option.some.inj (ho : some _ = some o)
        rw [if_pos (by decide)]
        have s1 : a.tmps.getD 68 undef = .string fr := ht 1 (by omega) (by kernel_rfl)
        have s2 : a.tmps.getD 69 undef = .string ti := ht 2 (by omega) (by kernel_rfl)
        have s9 : a.tmps.getD 76 undef = .int .i64 y' := ht 9 (by omega) (by kernel_rfl)
        have s12 : a.tmps.getD 79 undef = .iface tt rv := ht 12 (by omega) (by kernel_rfl)
        obtain rfl : k = 0 := by
          rcases hik with h | h
          · cases h
          · injection h with h; exact h.symm
        refine left2_turns fS #[rv, .string fr, .string ti, .int .i64 y'] (by simp [go_sem, s1, s2, s9, s12, mS, eS]) ((cS u (HF.out.trans hk)).mono ?_) rfl
        rintro e u' ⟨⟨v, rfl, hv⟩, hq, ho⟩
        exact ⟨_, rfl, hv, ⟨(hk.mono fun _ _ h => h.elim).trans ho, u, u', hk, ⟨hq, ho⟩, ho.size, Only.refl _ _⟩, ho⟩
    case hend =>
      intro V' u4 k hk hkt hV'
      have v0 : V' 0 = .iface tt rv := hV' 0 (by omega)
      have v1 : V' 1 = .string fr := hV' 1 (by omega)
      have v2 : V' 2 = .string ti := hV' 2 (by omega)
      have v3 : V' 3 = .pointer (some ⟨t, 0, none⟩) := hV' 3 (by omega)
      have v4 : V' 4 = .pointer (some ⟨t, 0, none⟩) := hV' 4 (by omega)
      have v5 : V' 5 = .pointer (some ⟨t, 1, none⟩) := hV' 5 (by omega)
      have v6 : V' 6 = .slice (some ⟨g, off, none⟩) n c := hV' 6 (by omega)
      have v7 : V' 7 = .int .i64 (k' : Int) := hV' 7 (by omega)
      have v8 : V' 8 = .pointer (some ⟨g, off + k', none⟩) := hV' 8 (by omega)
      have v9 : V' 9 = .int .i64 y' := hV' 9 (by omega)
      have v10 : V' 10 = .func (.method "Scan") #[.iface tt rv] #[] := hV' 10 (by omega)
      have v11 : V' 11 = .func (.method "Scan") #[.iface tt rv] #[] := hV' 11 (by omega)
      have v12 : V' 12 = .iface tt rv := hV' 12 (by omega)
      obtain ⟨vd, v13⟩ : ∃ v, V' 13 = v := ⟨_, rfl⟩
      have h13 : ItOk us Kp S vd u4 := by rw [← v13]; exact hV' 13 (by omega)
      have hk0 : 0 < k := hkt 13 0 (by omega) rfl
      change wpListIn _ _ _ _ _ _ (Act.put (Act.put (Act.put (Act.put (Act.put (Act.put (Act.put (Act.put (Act.put (Act.put (Act.put (Act.put (Act.put (Act.put _ (some 67) (V' 0)) (some 68) (V' 1)) (some 69) (V' 2)) (some 70) (V' 3)) (some 71) (V' 4)) (some 72) (V' 5)) (some 73) (V' 6)) (some 74) (V' 7)) (some 75) (V' 8)) (some 76) (V' 9)) (some 77) (V' 10)) (some 78) (V' 11)) (some 79) (V' 12)) (some 80) (V' 13)) _
      rw [v0, v1, v2, v3, v4, v5, v6, v7, v8, v9, v10, v11, v12, v13]
      simp only [Act.put, List.setIfInBounds_toArray, List.set_cons_zero, List.set_cons_succ]
      simp only [List.drop_succ_cons, List.drop_zero]
      clear hV' v0 v1 v2 v3 v4 v5 v6 v7 v8 v9 v10 v11 v12 v13
      obtain ⟨u1, u2, hq1, ⟨hq2, hq2s⟩, hq3, hq4⟩ : ∃ u1 u2, Only NoneOf u3 u1 ∧ (QS u1 u2 ∧ Only S u1 u2) ∧ u1.heap.size ≤ u2.heap.size ∧ Only NoneOf u2 u4 := by
        cases k with
        | zero => omega
        | succ k => exact hk.2
      obtain ⟨gf, lb, rfl, eg, hit⟩ := h13
      have hOk := hk.only
      have hsz1 := hq1.size
      have hsz4 := hq4.size
      have hOS : Only S w u4 := (HF.out.mono fun _ _ h => h.elim).trans hOk
      have FB4 := (HT.out.only HF.out (fun h => h)).only hOk hSt
      have f0 := FB4.cellv 0 rfl
      have f2 := FB4.cellv 2 rfl
      have HBX4 := HBX3.out.only hOk (fun j hj => .inl (HSL.out j hj))
      have HQ := Lib.hid hq2
      have HQS := Lib.hid hq2s
      have HQ1 := Lib.hid (HF.out.trans hq1)
      have HQ4 := Lib.hid hq4
      have HIT := Lib.hid hit
      have HOS := Lib.hid hOS
      clear hq1 hq2 hq2s hq4 hit hk hkt hOk FB4 hOS
      have HIT2 := Lib.hid (show ∀ W, Only NoneOf u4 W → IterZ Tryz.prog gf lb PairE L Kp W from fun W hW => by
        rw [← HL.out]
        exact (HIT.out W (hW.mono fun _ _ h => h.elim)).weak fun _ _ _ _ => pairK_E)
      have hBX5 := HBX4
      have eg2 := eg
      have HO5 := HQ4
      gi_wp2_with fail
      rename_i K hK
      have HK := Lib.hid hK
      clear hK
      have hbp := Blk.new' u4 54 #[.slice none 0 0] (n := u4.heap.size) (by omega)
      have hOa : Only NoneOf u4 (u4.alloc (.cells #[.slice none 0 0] 54)) := (Only.refl _ _).alloc _
      have hwz : (u4.alloc (.cells #[.slice none 0 0] 54)).heap.size = u4.heap.size + 1 := by simp; try omega
      have hs5' : u4.heap.size = u4.heap.size := by omega
      obtain ⟨wA, hwA⟩ : ∃ wA, u4.alloc (.cells #[.slice none 0 0] 54) = wA := ⟨_, rfl⟩
      rw [hwA] at hbp hOa hwz ⊢
      have HBP := Lib.hid hbp
      have HBX6 := Lib.hid (hBX5.keep hOa)
      have HO6 := Lib.hid (HO5.out.trans hOa)
      have HIT3 := Lib.hid (fun W (hW : Only NoneOf wA W) => HIT2.out W (hOa.trans hW))
      have hwu : w.heap.size + 4 ≤ u2.heap.size := by omega
      have hub : u2.heap.size ≤ u4.heap.size := by have := HO5.out.size; omega
      have HEG := Lib.hid eg2
      clear hs5'
      clear hbp hOa hwA HIT2 HO5 hBX5 eg eg2 HBX4 x10 d1 dcc f0 f2
      refine with_frame fun FR hFR => ?_
      refine range_ownZ (α := ByteArray × List UInt8) (xs := L) (Enc := PairE) (Kp := Kp) (Nat.le_refl 1) (by rw [hFR]; rfl) HEG.out
        (fun Wn hn _ => HIT3.out Wn hn) (fun n x args A h => by obtain ⟨v, c, rfl, _⟩ := h; rfl) (fun {k} hk hh => by have := HKP.out k hh; omega)
        (fun Z pre A => ScI w u2 ln u4.heap.size wA.heap.size Z pre A ∧ pre.length ≤ ln) (ScX w u2 wA.heap.size ln L)
        (fun Z pre A B hs ho => ⟨hs.1.keep ho, hs.2⟩)
        (fun c Z pre A B hs ho => hs.keep ho)
        (fun Z Z' pre A0 A _ _ hs ho h1 h2 => ⟨hs.1.grow ho h2, hs.2⟩)
        (fun Z B hZ hB ho => ⟨⟨fun k hk => (hZ k hk).1, ⟨hwu, hub, by omega, hB⟩, HBX6.out.keep ho, HO6.out.trans ho, _, [], HBP.out.only ho (fun h => h), BRows.nil _ _, rfl, fun k hk => by
          rcases hk with hk | ⟨r, hr, _⟩
          · simp [Value.ownBlock] at hk
          · cases hr⟩, Nat.zero_le _⟩)
        (fun n x a' A => ∃ bb vA vc, n ≤ bb ∧ wA.heap.size + 2 ≤ n ∧ Blk A bb 98 #[.string x.1, .slice vA x.2.length vc] ∧ BytesAt A vA x.2 ∧ (x.2 ≠ [] → ∀ g off, vA = some ⟨g, off, none⟩ → g ≠ wA.heap.size + 1) ∧ a' = { tmps := (FR.setIfInBounds 96 (.agg #[.string x.1, .slice vA x.2.length vc])).setIfInBounds 18 (.pointer (some ⟨bb, 0, none⟩)), defers := [] })
        (fun n x a' A B hs ho => by
          obtain ⟨bb, vA, vc, h1, h2, h3, h4, h5, h6⟩ := hs
          exact ⟨bb, vA, vc, h1, h2, h3.only ho (by omega), h4.turn ho (fun hne g off hA => h5 hne g off hA), h5, h6⟩)
        ?assign ?body ?done ?stop
      case assign =>
        rintro ⟨key, bs⟩ args A0 Wa Kc hx hsz ⟨rl, hlp⟩ hA0 ⟨vA, vc, rfl, hby⟩ hKc
        simp only at hby ⊢
        rw [hFR]
        gi_wp2
        refine hKc _ _ ((Only.refl _ _).alloc _) ⟨Wa.heap.size, vA, vc, by have := hA0.size; omega, hsz, Blk.new _ _ _, hby.keep ((Only.refl _ _).alloc _), fun hne g' off' hA' e => ?_, by rw [hFR]; rfl⟩
        obtain ⟨g'', off'', hA'', hg'', hc''⟩ := hby 0 _ (List.getElem?_eq_getElem (List.length_pos_iff.2 hne))
        rw [hA'] at hA''
        simp only [Option.some.injEq, Addr.mk.injEq, and_true] at hA''
        rw [← hA''.1, e] at hc''
        unfold World.cell? at hc''
        rw [hlp] at hc''
        simp at hc''
      case body =>
        have HWZ := Lib.hid hwz
        rintro Zu pre ⟨key, bs⟩ a' A0 Wb ⟨rl, hlp⟩ hszA hZu hpre ⟨hI0, hlen⟩ hoAW ⟨bb, vA, vc, hbb, hn, hB, hby, hne, rfl⟩
        have hI := hI0.keep hoAW
        have hle := hI.le
        obtain ⟨v0, rs, hpb, hR, hpl, hng⟩ := hI.pb
        obtain ⟨Aq, cq, rfl⟩ := ownsRow_slice hR.own
        have hrl : rs.length = pre.length := by rw [← hpl, List.length_map]
        simp only at hB hby hne
        have hbl := HLL.out (key, bs) (hpre.subset (by simp))
        simp only at hbl
        obtain ⟨nr, hnr⟩ : ∃ nr, rs.length = nr := ⟨_, rfl⟩
        obtain ⟨nb, hnb⟩ : ∃ nb, bs.length = nb := ⟨_, rfl⟩
        have hpb' := hpb
        rw [hnr] at hpb'
        have b17 := hpb'.cellv 0 rfl
        have b10 := hI.box.b10.cellv 0 rfl
        have z12 := hI.box.b12.free 0
        have z13 := hI.box.b13.free 0
        have z14 := hI.box.b14.free 0
        have y12 := hI.box.b12.cellv 0 rfl
        have y13 := hI.box.b13.cellv 0 rfl
        have y14 := hI.box.b14.cellv 0 rfl
        have HI := Lib.hid hI
        have HAB := Lib.hid hpb'
        have HR := Lib.hid hR
        have HPL := Lib.hid hpl
        have HNG := Lib.hid hng
        have HPRE := Lib.hid hpre
        have HB8 := Lib.hid (show Blk Wb bb 98 #[.string key, .slice vA nb vc] by rw [← hnb]; exact hB)
        have HBY := Lib.hid hby
        have HNR := Lib.hid hnr
        have hnl : nb ≤ 35184372088832 := by omega
        have hNB := Lib.hid hnb
        have HZL := Lib.hid (show ∀ k, Zu k → k < Wb.heap.size from fun k hk => Nat.lt_of_lt_of_le (hZu k hk).2 hoAW.size)
        have HZB := Lib.hid (show ∀ k, Zu k → wA.heap.size + 2 ≤ k from hI.zb)
        rw [hFR]
        simp only [List.setIfInBounds_toArray, List.set_cons_zero, List.set_cons_succ]
        rw [hnb]
        clear hwz hI hI0 hpb hR hpl hng hpre hby hne hB hpb' hlp hZu hoAW
        by_cases hq : nr = ln
        · have hq1 : ((nr : Int) == (ln : Int)) = true := by rw [hq]; simp
          gi_wp2_with fail
          have hwz := HWZ.out
          have hout := HI.out.out HR.out HPL.out HNG.out true
          rw [HNR.out, hq] at hout
          have hpl := HPRE.out.length_le
          rw [List.length_append, List.length_singleton] at hpl
          have hp2 : pre <+: L := (List.prefix_append _ _).trans HPRE.out
          have htk : L.take ln = pre := by rw [List.prefix_iff_eq_take.1 hp2, ← hrl, HNR.out, hq]
          refine ⟨(scRet_only w Wb (.slice Aq ln cq) true 0).mono (S' := Rest (Zw Zu wA.heap.size) Kp) fun j _ hj => ⟨fun hz => ?_, fun hk => ?_⟩, rfl, HZB.out, by omega, by omega, by omega, by rw [htk]; exact hout⟩
          · rcases hz with hz | hz | hz
            · have := HZB.out j hz; omega
            · omega
            · omega
          · have := HKP.out j hk; omega
        · have hq1 : ((nr : Int) == (ln : Int)) = false := beq_eq_false_iff_ne.2 (by omega)
          have hq2 : ¬ (nr : Int) = (ln : Int) := by omega
          obtain ⟨i0, hi, hz0, hz1, hz3⟩ := info_parts info48
          gi_upto_region 22 with (fail)
          obtain ⟨v, hv⟩ : ∃ v, Value.slice Aq nr cq = v := ⟨_, rfl⟩
          rw [hv] at HAB
          refine wpIn_region_head 8 112 (ScR v bb key vA nb vc bs Wb.heap.size) (fun _ => false) rfl (by kernel_rfl) (by kernel_rfl) (by kernel_rfl) (fun ⟨_, _, h⟩ => h) (ScR_keep _ _ _ _ _ _ _ _) (fun _ _ _ h => by cases h) ?_ ?_
          · intro i o hi ho a u hu hs ht
            have e17 : a.tmps.getD 17 undef = .pointer (some ⟨u4.heap.size, 0, none⟩) := hs 17 (of_decide_eq_true (by kernel_rfl))
            have e18 : a.tmps.getD 18 undef = .pointer (some ⟨bb, 0, none⟩) := hs 18 (of_decide_eq_true (by kernel_rfl))
            have F8 := HB8.out.only hu (fun h => h)
            have c0 := F8.cellv 0 rfl
            have c1 := F8.cellv 1 rfl
            have a17 := (HAB.out.only hu (fun h => h)).cellv 0 rfl
            have : i = 0 ∨ i = 1 ∨ i = 2 ∨ i = 3 ∨ i = 4 ∨ i = 5 ∨ i = 6 ∨ i = 7 := by omega
            rcases this with rfl | rfl | rfl | rfl | rfl | rfl | rfl | rfl
            · obtain rfl := Option.some.inj (ho : some _ = some o)
              exact left_value (v) (by simp [go_sem, e17, a17]) rfl rfl
            · obtain rfl := Option.some.inj (ho : some _ = some o)
              exact left_value (.pointer (some ⟨bb, 0, none⟩)) (by simp [go_sem, e18]) rfl rfl
            · obtain rfl := Option.some.inj (ho : some _ = some o)
              have s1 : a.tmps.getD 103 undef = .pointer (some ⟨bb, 0, none⟩) := ht 1 (by omega) (by kernel_rfl)
              exact left_value (.string key) (by simp [go_sem, s1, c0]) rfl rfl
            · obtain rfl := Option.some.inj (ho : some _ = some o)
              exact left_value (.pointer (some ⟨bb, 1, none⟩)) (by simp [go_sem, e18]) rfl rfl
            · obtain rfl := Option.some.inj (ho : some _ = some o)
              have s3 : a.tmps.getD 105 undef = .pointer (some ⟨bb, 1, none⟩) := ht 3 (by omega) (by kernel_rfl)
              exact left_value (.slice vA nb vc) (by simp [go_sem, s3, c1]) rfl rfl
            · obtain rfl := Option.some.inj (ho : some _ = some o)
              have s4 : a.tmps.getD 106 undef = .slice vA nb vc := ht 4 (by omega) (by kernel_rfl)
              refine left_calls 66 #[.slice vA nb vc] (by simp [go_sem, s4]) ((own_ist vA nb vc bs u hnb (HBY.out.keep hu) hnl).mono ?_) rfl
              rintro e u' ⟨v', rfl, hr, ho'⟩
              obtain ⟨A', c', rfl, _⟩ := hr.at
              exact ⟨_, rfl, ⟨A', c', rfl, hr.base hu.size⟩, ho'⟩
            · obtain rfl := Option.some.inj (ho : some _ = some o)
              have s2 : a.tmps.getD 104 undef = .string key := ht 2 (by omega) (by kernel_rfl)
              have s2' : a.tmps[104]?.getD undef = .string key := by simpa using s2
              obtain ⟨A', c', s5, hr⟩ : ∃ A' c', a.tmps.getD 107 undef = .slice A' bs.length c' ∧ RowB u Wb.heap.size (a.tmps.getD 107 undef) bs := ht 5 (by omega) (by kernel_rfl)
              rw [s5] at hr
              have s5' : a.tmps[107]?.getD undef = .slice A' bs.length c' := by simpa using s5
              exact left_value (.agg #[.string key, .slice A' bs.length c']) (by simp [go_sem, s2', s5']) rfl ⟨A', c', rfl, hr⟩
            · obtain rfl := Option.some.inj (ho : some _ = some o)
              obtain ⟨A', c', s6, hr⟩ : ∃ A' c', a.tmps.getD 108 undef = .agg #[.string key, .slice A' bs.length c'] ∧ RowB u Wb.heap.size (.slice A' bs.length c') bs := ht 6 (by omega) (by kernel_rfl)
              have s6' : a.tmps[108]?.getD undef = .agg #[.string key, .slice A' bs.length c'] := by simpa using s6
              exact left_to (.slice (some ⟨u.heap.size, 0, none⟩) 1 1) (u.alloc (.cells #[.string key, .slice A' bs.length c'] 98)) (by simp [go_sem, s6']) rfl ⟨A', c', _, rfl, hr.keep ((Only.refl _ _).alloc _), hu.size, Blk.new _ _ _⟩ ((Only.refl _ _).alloc _)
          · intro V' u hu hV' _
            have v0 : V' 0 = v := hV' 0 (by omega)
            have v1 : V' 1 = .pointer (some ⟨bb, 0, none⟩) := hV' 1 (by omega)
            have v2 : V' 2 = .string key := hV' 2 (by omega)
            have v3 : V' 3 = .pointer (some ⟨bb, 1, none⟩) := hV' 3 (by omega)
            have v4 : V' 4 = .slice vA nb vc := hV' 4 (by omega)
            obtain ⟨A5, c5, v5, _⟩ : ∃ A' c', V' 5 = .slice A' bs.length c' ∧ RowB u Wb.heap.size (V' 5) bs := hV' 5 (by omega)
            obtain ⟨A6, c6, v6, _⟩ : ∃ A' c', V' 6 = .agg #[.string key, .slice A' bs.length c'] ∧ RowB u Wb.heap.size (.slice A' bs.length c') bs := hV' 6 (by omega)
            obtain ⟨A', c', b7, v7, hr, hb7, hN7⟩ : ∃ A' c' b7, V' 7 = .slice (some ⟨b7, 0, none⟩) 1 1 ∧ RowB u Wb.heap.size (.slice A' bs.length c') bs ∧ Wb.heap.size ≤ b7 ∧ Blk u b7 98 #[.string key, .slice A' bs.length c'] := hV' 7 (by omega)
            change wpList _ _ _ _ (Act.put (Act.put (Act.put (Act.put (Act.put (Act.put (Act.put (Act.put _ (some 102) (V' 0)) (some 103) (V' 1)) (some 104) (V' 2)) (some 105) (V' 3)) (some 106) (V' 4)) (some 107) (V' 5)) (some 108) (V' 6)) (some 109) (V' 7)) _
            rw [v0, v1, v2, v3, v4, v5, v6, v7]
            simp only [Act.put, List.setIfInBounds_toArray, List.set_cons_zero, List.set_cons_succ]
            simp only [List.drop_succ_cons, List.drop_zero]
            clear hV' v0 v1 v2 v3 v4 v5 v6 v7
            have hR3 := HR.out.keep hu
            rw [HNR.out, hv] at hR3
            have hV3 := HAB.out.only hu (fun h => h)
            have hne17 : v.ownBlock ≠ some u4.heap.size := fun e => by have := (ownsRow_lt hR3.own e).1; omega
            have hsu' := hu.size
            have HRB := Lib.hid hr
            have HN7 := Lib.hid hN7
            have x9 : ∀ j z, ([.string key, .slice A' bs.length c'] : List Value)[j]? = some z → u.cell? ((⟨b7, 0, none⟩ : Addr).add j) = some z := fun j z hj => by
              have e : (⟨b7, 0, none⟩ : Addr).add j = ⟨b7, j, none⟩ := by unfold Addr.add; split <;> simp_all
              rw [e, HN7.out.cell]
              simpa using hj
            have HU := Lib.hid hu
            clear hr hN7 hu
            refine wpList_append_own_at (w := u) rfl (.tmp 102) (.tmp 109) 54 rfl (wA.heap.size + 2) 98 i0 _ 2 40 Tryz.underlying54 hi hz0 hz1 hz3 rfl (by decide) v nr (rs.flatMap PRow.cells) rfl (by have := hR3.own; rwa [HNR.out] at this) ⟨b7, 0, none⟩ 1 1 [.string key, .slice A' bs.length c'] rfl rfl x9 (by simp [Value.oneCell']) (by unfold maxLen; omega) (by omega) (by omega) ?_
            intro v' w3 hown' hgr _ hat
            obtain ⟨g', cap', rfl⟩ := ownsRow_succ hown'
            have hV4 := hV3.only (only_grown hgr) (fun e => hne17 e)
            have y0 := hV4.cellv 0 rfl
            have y1 := hV4.free 0
            simp only [Act.put, List.setIfInBounds_toArray, List.set_cons_zero, List.set_cons_succ]
            go_wp2_with fail
            have hwz := HWZ.out
            have hlo : ∀ k, v.ownBlock = some k → wA.heap.size + 2 ≤ k ∧ ¬ Zu k := fun k hk => ⟨(ownsRow_lt hR3.own hk).1, HNG.out k (.inl (by rw [HNR.out, hv]; exact hk))⟩
            have hput : Only (· = u4.heap.size) w3 (w3.setCell ⟨u4.heap.size, 0, none⟩ (.slice (some ⟨g', 0, none⟩) (nr + 1) cap')) := (Only.refl (· = u4.heap.size) w3).put (.inl rfl) _
            have hgr' : Only (fun k => v.ownBlock = some k) Wb w3 := Only.step (HU.out.mono (fun _ _ h => h.elim)) (only_grown hgr) (fun _ _ h => h)
            have hall : Only (fun k => v.ownBlock = some k ∨ k = u4.heap.size) Wb (w3.setCell ⟨u4.heap.size, 0, none⟩ (.slice (some ⟨g', 0, none⟩) (nr + 1) cap')) := (hgr'.mono fun _ _ h => .inl h).trans (hput.mono fun _ _ h => .inr h)
            have hrbl : ∀ g, (Value.slice A' bs.length c').ownBlock = some g → Wb.heap.size ≤ g := fun g hg => (ownsRow_lt HRB.out hg).1
            have hsn := BRows.snoc (r := (⟨key, .slice A' bs.length c', bs⟩ : PRow)) hR3 (only_grown hgr) (by rw [HNR.out]; exact hown') hat (HRB.out.base (by omega)) (fun g hg' hb' => by
              have h1 := hrbl g hg'
              have h2 := (HR.out.lt (show PBlocks (.slice Aq rs.length cq) rs g by rw [HNR.out, hv]; exact hb')).2
              omega)
            have hvb := fun k hk => bblocks_snoc (val := PRow.val) (v := v) (v' := .slice (some ⟨g', 0, none⟩) (nr + 1) cap') (rs := rs) (r := (⟨key, .slice A' bs.length c', bs⟩ : PRow)) (k := k) hat hk
            have hng' : ∀ k, PBlocks (.slice (some ⟨g', 0, none⟩) (nr + 1) cap') (rs ++ [⟨key, .slice A' bs.length c', bs⟩]) k → ¬ Zu k := fun k hk hz => by
              have hzl := HZL.out k hz
              rcases hvb k hk with h | h | h
              · exact HNG.out k (by rw [HNR.out, hv]; exact h) hz
              · have := hrbl k h; omega
              · omega
            have hHI := HI.out
            refine ⟨hall.mono (S' := Rest (Zw Zu wA.heap.size) Kp) fun k _ hk => ⟨fun hz => ?_, fun hkp => ?_⟩, ⟨hHI.zb, ⟨hwu, hub, by omega, ?_⟩, hHI.box.only hall (fun j hj => ?_), hHI.only.step hall (fun j hj hj2 => ?_), _, _, hV4.put 0 _, hsn.only hput (fun k hk e => by have := (hsn.lt hk).1; omega), by rw [List.map_append, HPL.out]; rfl, hng'⟩, ?_⟩
            · rcases hk with hk | rfl
              · have := hlo k hk
                rcases hz with hz | hz | hz
                · exact this.2 hz
                · omega
                · omega
              · rcases hz with hz | hz | hz
                · have := HZB.out _ hz; omega
                · omega
                · omega
            · have := HKP.out k hkp
              rcases hk with hk | rfl
              · have := hlo k hk; omega
              · omega
            · have := hall.size; omega
            · rcases hj with hj | rfl
              · have := hlo j hj; omega
              · omega
            · rcases hj2 with hj2 | rfl
              · have := hlo j hj2; omega
              · omega
            · rw [List.length_append, List.length_singleton, ← hrl, HNR.out]
              have := HNR.out
              omega
      case done =>
        rintro Zu Wd hZu hsz ⟨hI, hlen⟩ hD
        have hle := hI.le
        obtain ⟨v0, rs, hpb, hR, hpl, hng⟩ := hI.pb
        obtain ⟨Aq, cq, rfl⟩ := ownsRow_slice hR.own
        have b17 := hpb.cellv 0 rfl
        have z12 := hI.box.b12.free 0
        have z13 := hI.box.b13.free 0
        have z14 := hI.box.b14.free 0
        have y12 := hI.box.b12.cellv 0 rfl
        have y13 := hI.box.b13.cellv 0 rfl
        have y14 := hI.box.b14.cellv 0 rfl
        have hout := hI.out hR hpl hng false
        have hDr := (scRet_only w Wd (.slice Aq rs.length cq) false 0).block wA.heap.size (Array.getElem?_eq_some_iff.1 hD).1 (by omega)
        have HOUT := Lib.hid hout
        have HDR := Lib.hid (hDr.trans hD)
        have HLEN := Lib.hid hlen
        have HWZ := Lib.hid hwz
        clear hwz hout hDr hpl hR hng hpb hI hD
        refine HK.out _ _ ?_
        rw [hFR]
        gi_wp2_with fail
        try change bodyPostM _ _ _ _ _ _ _ (scRet w Wd (.slice Aq rs.length cq) false 0)
        refine ⟨by simp, .inl ⟨_, _, rfl, run_takeDeferred HDR.out, ?_⟩⟩
        have hwz := HWZ.out
        obtain ⟨v, rs', x1, x2, x3, x4, x5, x6⟩ := HOUT.out.post hwu (by omega)
        have hll := HLEN.out
        refine ⟨.tuple #[v, .bool false, .int .i64 0], by simp [results, Tryz.results40, go_sem, x1, x2, x3], ⟨v, rs', by rw [decide_eq_false (by omega)], x4, by rw [x5, List.take_of_length_le hll]⟩, u1, u2, HQ1.out, HQ.out, HQS.out, hq3, x6.mono fun j _ hj => ⟨hj.1, by omega⟩⟩
      case stop =>
        rintro Zu cd pre Wd hZu hpre ⟨rfl, hz, hw4, hu2, hlt, hout⟩ hD
        have HOUT := Lib.hid hout
        have HDR := Lib.hid hD
        have HWZ := Lib.hid hwz
        clear hwz hout hD
        rw [hFR]
        gi_wp2_with fail
        refine ⟨by simp, .inl ⟨_, _, rfl, run_takeDeferred HDR.out, ?_⟩⟩
        have hwz := HWZ.out
        obtain ⟨v, rs', x1, x2, x3, x4, x5, x6⟩ := HOUT.out.post hwu hu2
        refine ⟨.tuple #[v, .bool true, .int .i64 0], by simp [results, Tryz.results40, go_sem, x1, x2, x3], ⟨v, rs', by rw [decide_eq_true hlt], x4, x5⟩, u1, u2, HQ1.out, HQ.out, HQS.out, hq3, x6.mono fun j _ hj => ⟨hj.1, by omega⟩⟩

end Go.Proofs.YtbhihbhjmmeibaaGreat

/-
  Layer 17: what stands beside one another in a law: accounts, transactions, sources; a step of one of them.
-/
namespace Go.Proofs.YtbhihbhjmmeibaaGreat
open Go.RowKit Go.Shelf
open Qa (Ac AcIs AcPost)

/-- as many entries as writes -/
theorem SetR.tight {w : World} {p m N : Nat} {U : Nat → Prop} {ws : List We} (h : SetR w p m U ws N) : SetR w p m U ws ws.length := by
  obtain ⟨n, D, at', hs, _⟩ := h
  have hp := hs.keysPerm.length_eq
  have hmap := hs.map
  obtain ⟨es, clock, hb, F, hle, hD⟩ := hmap
  have hsz : (strKeys D).length = es.size := by
    rw [hD]
    show (List.map _ _).length = es.size
    rw [List.length_map, length_read]
  rw [List.length_map] at hp
  exact ⟨ws.length, D, at', ⟨hs.blk, ⟨es, clock, hb, F, by omega, hD⟩, hs.keys, hs.vals, hs.apart, hs.rise, hs.good, Nat.le_refl _, hs.pm, hs.ult⟩, Nat.le_refl _⟩
theorem TxR.tight {w : World} {t p m place N : Nat} {snap : List Int} {ws : List We} {ended : Bool} {U : Nat → Prop} (h : TxR w t p m U place snap ws ended N) : TxR w t p m U place snap ws ended ws.length :=
  ⟨h.blk, h.set.tight, h.ult, h.pl, h.sn, h.few⟩
theorem TxR.up {w : World} {t p m place N N' : Nat} {snap : List Int} {ws : List We} {ended : Bool} {U : Nat → Prop} (h : TxR w t p m U place snap ws ended N) (hN : N ≤ N') : TxR w t p m U place snap ws ended N' :=
  ⟨h.blk, h.set.more hN, h.ult, h.pl, h.sn, h.few⟩

/-- a transaction's numbers -/
structure Tx where
  t : Nat
  p : Nat
  m : Nat
  place : Nat
  snap : List Int
  ws : List We
  ended : Bool
/-- a source's numbers -/
structure Sr where
  s : Nat
  st : Nat
  R : List KV
  N : Nat
  H : Int
  asked : Int

inductive Ob where
  | ac (b : Nat) (a : Ac)
  | tx (x : Tx)
  | sr (x : Sr)
/-- it stands in w; F: the blocks that its calls turn; U: those that others' calls turn -/
def Ob.Is (w : World) (F U : Nat → Prop) : Ob → Prop
  | .ac b a => AcIs w b a ∧ a.Ok ∧ (∀ k, F k ↔ k = b) ∧ ∀ k, U k → k < w.heap.size ∧ k ≠ b
  | .tx x => TxR w x.t x.p x.m U x.place x.snap x.ws x.ended x.ws.length ∧ ∀ k, F k ↔ k = x.t ∨ k = x.p ∨ k = x.m
  | .sr x => ∃ T, SrcR w x.s x.st T U x.R x.N x.H x.asked ∧ ∀ k, F k ↔ k = x.s ∨ T k
theorem Ob.Is.lt {w : World} {F U : Nat → Prop} : ∀ {o : Ob}, o.Is w F U → ∀ k, F k → k < w.heap.size
  | .ac b a, ⟨h1, _, h3, _⟩, k, hk => by
    rw [(h3 k).1 hk]
    exact Blk.lt (w := w) h1
  | .tx x, ⟨h1, h2⟩, k, hk => by
    obtain ⟨A, c, hb, _⟩ := h1.blk
    rcases (h2 k).1 hk with e | e | e
    · rw [e]; exact hb.lt
    · rw [e]; exact h1.set.lts.1
    · rw [e]; exact h1.set.lts.2
  | .sr x, ⟨T, h1, h2⟩, k, hk => by
    rcases (h2 k).1 hk with e | e
    · rw [e]; exact h1.blk.lt
    · exact h1.sto.lt e
theorem Ob.Is.other {w w' : World} {F U U' S : Nat → Prop} : ∀ {o : Ob}, o.Is w F U → Only S w w' → (∀ k, S k → U k) → (∀ k, U' k → k < w'.heap.size ∧ (U k ∨ w.heap.size ≤ k)) → o.Is w' F U'
  | .ac b a, ⟨h1, h2, h3, h4⟩, ho, hS, hU => ⟨h1.only ho (fun e => (h4 b (hS b e)).2 rfl), h2, h3, fun k hk => ⟨(hU k hk).1, fun e => by
      rcases (hU k hk).2 with h | h
      · exact (h4 k h).2 e
      · have := Blk.lt (w := w) h1; omega⟩⟩
  | .tx x, ⟨h1, h2⟩, ho, hS, hU => ⟨h1.other ho hS hU, h2⟩
  | .sr x, ⟨T, h1, h2⟩, ho, hS, hU => ⟨T, h1.other ho hS hU, h2⟩

/-- the blocks of the others -/
def Oth (n : Nat) (F : Nat → Nat → Prop) (i : Nat) : Nat → Prop := fun k => ∃ j, j < n ∧ j ≠ i ∧ F j k
/-- n things beside one another -/
def Scene (n : Nat) (os : Nat → Ob) (F : Nat → Nat → Prop) (w : World) : Prop := ∀ i, i < n → (os i).Is w (F i) (Oth n F i)
def setAt {α : Type} (f : Nat → α) (i : Nat) (x : α) : Nat → α := fun j => if j = i then x else f j
theorem setAt_same {α : Type} (f : Nat → α) (i : Nat) (x : α) : setAt f i x i = x := if_pos rfl
theorem setAt_ne {α : Type} (f : Nat → α) (x : α) {i j : Nat} (h : j ≠ i) : setAt f i x j = f j := if_neg h

theorem Oth.lt {n : Nat} {os : Nat → Ob} {F : Nat → Nat → Prop} {w : World} (h : Scene n os F w) {i k : Nat} (hk : Oth n F i k) : k < w.heap.size := by
  obtain ⟨j, hj, _, hf⟩ := hk
  exact (h j hj).lt k hf
theorem Scene.keep {n : Nat} {os : Nat → Ob} {F : Nat → Nat → Prop} {w w' : World} (h : Scene n os F w) (ho : Only NoneOf w w') : Scene n os F w' := fun i hi =>
  (h i hi).other ho (fun _ h => h.elim) (fun _ hk => ⟨Nat.lt_of_lt_of_le (Oth.lt h hk) ho.size, .inl hk⟩)
/-- one of them has turned -/
theorem Scene.step {n : Nat} {os : Nat → Ob} {F : Nat → Nat → Prop} {w w' : World} (h : Scene n os F w) {i : Nat} (hi : i < n) (ho : Only (F i) w w') {o' : Ob} {F' : Nat → Prop} (ho' : o'.Is w' F' (Oth n F i)) (hF : ∀ k, F' k → F i k ∨ w.heap.size ≤ k) :
    Scene n (setAt os i o') (setAt F i F') w' := fun j hj => by
  by_cases e : j = i
  · subst e
    rw [setAt_same, setAt_same]
    have : Oth n (setAt F j F') j = Oth n F j := by
      funext k
      apply propext
      constructor
      · rintro ⟨j', h1, h2, h3⟩
        rw [setAt_ne _ _ h2] at h3
        exact ⟨j', h1, h2, h3⟩
      · rintro ⟨j', h1, h2, h3⟩
        exact ⟨j', h1, h2, by rw [setAt_ne _ _ h2]; exact h3⟩
    rw [this]
    exact ho'
  · rw [setAt_ne _ _ e, setAt_ne _ _ e]
    refine (h j hj).other ho (fun k hk => ⟨i, hi, fun e' => e e'.symm, hk⟩) (fun k hk => ?_)
    obtain ⟨j', h1, h2, h3⟩ := hk
    by_cases e' : j' = i
    · subst e'
      rw [setAt_same] at h3
      refine ⟨ho'.lt k h3, (hF k h3).imp_left fun h4 => ⟨j', h1, h2, h4⟩⟩
    · rw [setAt_ne _ _ e'] at h3
      exact ⟨Nat.lt_of_lt_of_le ((h j' h1).lt k h3) ho.size, .inl ⟨j', h1, h2, h3⟩⟩
theorem setAt_self {α : Type} (f : Nat → α) (i : Nat) : setAt f i (f i) = f := by
  funext j
  unfold setAt
  split
  · rename_i h; rw [h]
  · rfl
/-- one of them has turned, its blocks are the same -/
theorem Scene.turn {n : Nat} {os : Nat → Ob} {F : Nat → Nat → Prop} {w w' : World} (h : Scene n os F w) {i : Nat} (hi : i < n) (ho : Only (F i) w w') {o' : Ob} (ho' : o'.Is w' (F i) (Oth n F i)) : Scene n (setAt os i o') F w' := by
  have := h.step hi ho ho' (fun k hk => .inl hk)
  rwa [setAt_self] at this
/-- two of them have turned, their blocks are the same -/
theorem Scene.turn2 {n : Nat} {os : Nat → Ob} {F : Nat → Nat → Prop} {w w' : World} (h : Scene n os F w) {i j : Nat} (hi : i < n) (hj : j < n) (hij : i ≠ j) (ho : Only (fun k => F i k ∨ F j k) w w') {o' o2 : Ob} (ho' : o'.Is w' (F i) (Oth n F i)) (ho2 : o2.Is w' (F j) (Oth n F j)) : Scene n (setAt (setAt os i o') j o2) F w' := fun l hl => by
  by_cases e : l = j
  · subst e
    rw [setAt_same]
    exact ho2
  · rw [setAt_ne _ _ e]
    by_cases e2 : l = i
    · subst e2
      rw [setAt_same]
      exact ho'
    · rw [setAt_ne _ _ e2]
      refine (h l hl).other ho (fun k hk => ?_) (fun k hk => ⟨Nat.lt_of_lt_of_le (Oth.lt h hk) ho.size, .inl hk⟩)
      rcases hk with hk | hk
      · exact ⟨i, hi, fun e' => e2 e'.symm, hk⟩
      · exact ⟨j, hj, fun e' => e e'.symm, hk⟩
/-- a thing more -/
theorem Scene.more {n : Nat} {os : Nat → Ob} {F : Nat → Nat → Prop} {w w' : World} (h : Scene n os F w) (ho : Only NoneOf w w') {o' : Ob} {F' : Nat → Prop} (ho' : o'.Is w' F' (fun k => ∃ j, j < n ∧ F j k)) (hF : ∀ k, F' k → w.heap.size ≤ k) : Scene (n + 1) (setAt os n o') (setAt F n F') w' := fun j hj => by
  by_cases e : j = n
  · subst e
    rw [setAt_same, setAt_same]
    have : Oth (j + 1) (setAt F j F') j = fun k => ∃ i, i < j ∧ F i k := by
      funext k
      apply propext
      constructor
      · rintro ⟨i, h1, h2, h3⟩
        rw [setAt_ne _ _ h2] at h3
        exact ⟨i, by omega, h3⟩
      · rintro ⟨i, h1, h3⟩
        exact ⟨i, by omega, by omega, by rw [setAt_ne _ _ (by omega)]; exact h3⟩
    rw [this]
    exact ho'
  · rw [setAt_ne _ _ e, setAt_ne _ _ e]
    refine (h j (by omega)).other ho (fun _ h => h.elim) (fun k hk => ?_)
    obtain ⟨i, h1, h2, h3⟩ := hk
    by_cases e' : i = n
    · subst e'
      rw [setAt_same] at h3
      exact ⟨ho'.lt k h3, .inr (hF k h3)⟩
    · rw [setAt_ne _ _ e'] at h3
      exact ⟨Nat.lt_of_lt_of_le ((h i (by omega)).lt k h3) ho.size, .inl ⟨i, by omega, h2, h3⟩⟩
theorem Scene.start (os : Nat → Ob) (F : Nat → Nat → Prop) (w : World) : Scene 0 os F w := fun i hi => absurd hi (by omega)

end Go.Proofs.YtbhihbhjmmeibaaGreat

/-
  Layer 17: a transaction's calls among what stands beside it.
-/
namespace Go.Proofs.YtbhihbhjmmeibaaGreat
open Go.RowKit Go.Shelf
open Qa (Ac AcIs AcPost)

def readY (x : Tx) (pl : Int) : Int := (x.snap[pl.toNat]?).getD 0
/-- what Get answers: the bytes, whether, the number; how often it asks -/
def getA (x : Tx) (s : Sr) (pl : Int) (key : ByteArray) : (List UInt8 × Bool × Int) × Int :=
  if getE x.ended x.snap pl key ≠ 0 then (([], false, getE x.ended x.snap pl key), 0)
  else match (if pl = (x.place : Int) then look x.ws key.data.toList else none) with
    | some e => ((e.bs, !e.dead, 0), 0)
    | none => if readY x pl < s.H then (([], false, 172), 0) else (((found (verR s.R key) (readY x pl)).getD [], (found (verR s.R key) (readY x pl)).isSome, 0), 1)
def scanL (x : Tx) (s : Sr) (pl : Int) (fr ti : ByteArray) : List (ByteArray × List UInt8) :=
  if pl = (x.place : Int) then overW x.ws fr ti (scanR s.R fr ti (readY x pl)) else scanR s.R fr ti (readY x pl)
/-- what Scan answers -/
def scanA (x : Tx) (s : Sr) (pl : Int) (fr ti : ByteArray) (lim : Int) : (List (ByteArray × List UInt8) × Bool × Int) × Int :=
  if scanE x.ended x.snap pl fr ti lim ≠ 0 then (([], false, scanE x.ended x.snap pl fr ti lim), 0)
  else if readY x pl < s.H then (([], false, 172), 0) else (((scanL x s pl fr ti).take lim.toNat, decide (lim.toNat < (scanL x s pl fr ti).length), 0), 1)
def TSc (ps : List (ByteArray × List UInt8)) (is : Bool) (c : Int) (w : World) (e : Ending) (w' : World) : Prop := ∃ v rs, e = .returned (.tuple #[v, .bool is, .int .i64 c]) ∧ PRows w' w.heap.size v rs ∧ rs.map PRow.plain = ps

section
variable {n : Nat} {os : Nat → Ob} {F : Nat → Nat → Prop} {w : World} {i j : Nat} {x : Tx} {s : Sr} {b : Nat} {a : Ac}
theorem Scene.tx (h : Scene n os F w) (hi : i < n) (ei : os i = .tx x) : TxR w x.t x.p x.m (Oth n F i) x.place x.snap x.ws x.ended x.ws.length ∧ ∀ k, F i k ↔ k = x.t ∨ k = x.p ∨ k = x.m := by
  have := h i hi
  rw [ei] at this
  exact this
theorem Scene.sr (h : Scene n os F w) (hi : i < n) (ei : os i = .sr s) : ∃ T, SrcR w s.s s.st T (Oth n F i) s.R s.N s.H s.asked ∧ ∀ k, F i k ↔ k = s.s ∨ T k := by
  have := h i hi
  rw [ei] at this
  exact this
theorem Scene.ac (h : Scene n os F w) (hi : i < n) (ei : os i = .ac b a) : AcIs w b a ∧ a.Ok ∧ (∀ k, F i k ↔ k = b) ∧ ∀ k, Oth n F i k → k < w.heap.size ∧ k ≠ b := by
  have := h i hi
  rw [ei] at this
  exact this
theorem readY_at {k : Nat} {y : Int} (h : x.snap[k]? = some y) : readY x k = y := by
  unfold readY
  rw [Int.toNat_natCast, h]
  rfl

/-- the scene behind a question -/
theorem Scene.asks (h : Scene n os F w) (hj : j < n) {w' : World} {T : Nat → Prop} (hF : ∀ k, F j k ↔ k = s.s ∨ T k) (hs : SrcR w' s.s s.st T (Oth n F j) s.R s.N s.H (s.asked + 1)) (ho : Only (· = s.s) w w') : Scene n (setAt os j (.sr { s with asked := s.asked + 1 })) F w' :=
  h.turn hj (ho.mono fun k _ hk => (hF k).2 (.inl hk)) ⟨T, hs, hF⟩
theorem Scene.same (h : Scene n os F w) (ej : os j = .sr s) {w' : World} (ho : Only NoneOf w w') : Scene n (setAt os j (.sr { s with asked := s.asked + 0 })) F w' := by
  have e : setAt os j (.sr { s with asked := s.asked + 0 }) = os := by rw [show Ob.sr { s with asked := s.asked + 0 } = os j by rw [ej, Int.add_zero], setAt_self]
  rw [e]
  exact h.keep ho

set_option maxHeartbeats 1000000 in
theorem sc_get (h : Scene n os F w) (hi : i < n) (hj : j < n) (hij : i ≠ j) (ei : os i = .tx x) (ej : os j = .sr s) (ha : s.asked < 4611686018427387904) (pl : Int) (key : ByteArray) (hkl : key.size ≤ maxLen) :
    Calls Tryz.prog 38 #[.pointer (some ⟨x.t, 0, none⟩), .int .i64 pl, .string key, .iface 50 (.pointer (some ⟨s.s, 0, none⟩))] w fun e w' =>
      TGet (getA x s pl key).1.1 (getA x s pl key).1.2.1 (getA x s pl key).1.2.2 w e w' ∧ Scene n (setAt os j (.sr { s with asked := s.asked + (getA x s pl key).2 })) F w' ∧ Only (· = s.s) w w' := by
  obtain ⟨hx, hxF⟩ := h.tx hi ei
  obtain ⟨T, hs, hsF⟩ := h.sr hj ej
  have hSU : ∀ k, k = s.s → Oth n F i k := fun k hk => ⟨j, hj, hij.symm, (hsF k).2 (.inl hk)⟩
  have none_s : ∀ {w w' : World}, Only NoneOf w w' → Only (· = s.s) w w' := fun h => h.mono fun _ _ h => h.elim
  have cH : ∀ u, Only NoneOf w u → Calls Tryz.prog 150 #[.pointer (some ⟨s.s, 0, none⟩)] u fun e u' => e = .returned (.int .i64 s.H) ∧ u = u' := fun u hu => horizon_is u s.s s.st s.N T _ s.R s.H s.asked (hs.keep hu)
  by_cases he : getE x.ended x.snap pl key ≠ 0
  · have e : getA x s pl key = (([], false, getE x.ended x.snap pl key), 0) := by unfold getA; rw [if_pos he]
    rw [e]
    refine (txGet_early w x.t x.p x.m x.place _ x.snap x.ws x.ended _ hx pl key 50 _ he).mono ?_
    rintro e w' ⟨h1, rfl⟩
    exact ⟨h1, h.same ej (Only.refl _ _), Only.refl _ _⟩
  · have he0 : getE x.ended x.snap pl key = 0 := by omega
    obtain ⟨h0, hk, k, y, rfl, hy, hy0⟩ := getE_zero he0
    have eg : getA x s k key = match (if (k : Int) = (x.place : Int) then look x.ws key.data.toList else none) with
        | some e => ((e.bs, !e.dead, 0), 0)
        | none => if y < s.H then (([], false, 172), 0) else (((found (verR s.R key) y).getD [], (found (verR s.R key) y).isSome, 0), 1) := by
      unfold getA
      rw [if_neg he, readY_at hy]
    have hcase : (k = x.place ∧ ∃ e, look x.ws key.data.toList = some e) ∨ ((if (k : Int) = (x.place : Int) then look x.ws key.data.toList else none) = none ∧ ((look x.ws key.data.toList).isSome = false ∨ k ≠ x.place)) := by
      by_cases hp : (k : Int) = (x.place : Int)
      · cases hl : look x.ws key.data.toList with
        | none => exact .inr ⟨by rw [if_pos hp], .inl rfl⟩
        | some e => exact .inl ⟨by omega, e, rfl⟩
      · exact .inr ⟨by rw [if_neg hp], .inr (by omega)⟩
    rcases hcase with ⟨rfl, e, hl⟩ | ⟨hn, hno⟩
    · rw [if_pos rfl, hl] at eg
      rw [eg]
      refine (txGet_own w x.t x.p x.m x.place _ x.snap x.ws x.ended _ hx key hkl 50 _ he0 e hl).mono ?_
      rintro e w' ⟨h1, h2⟩
      exact ⟨h1, h.same ej h2, none_s h2⟩
    · rw [hn] at eg
      by_cases hlt : y < s.H
      · simp only [if_pos hlt] at eg
        rw [eg]
        refine (txGet_old w x.t x.p x.m x.place _ x.snap x.ws x.ended _ hx k key hkl 50 _ he0 hno (source_m ⟨s.s, 0, none⟩) s.H cH y hy hlt).mono ?_
        rintro e w' ⟨h1, h2⟩
        exact ⟨h1, h.same ej h2, none_s h2⟩
      · simp only [if_neg hlt] at eg
        rw [eg]
        refine (txGet_src w x.t x.p x.m x.place _ x.snap x.ws x.ended _ hx k key hkl 50 _ he0 hno (source_m ⟨s.s, 0, none⟩) s.H cH y hy hlt (found (verR s.R key) y) (· = s.s) hSU (fun u u' => SrcR u' s.s s.st T (Oth n F j) s.R s.N s.H (s.asked + 1) ∧ Only (· = s.s) u u') (fun u hu => (sget_is u s.s s.st s.N T _ s.R s.H s.asked (hs.keep hu) ha key hkl y).mono ?_)).mono ?_
        · rintro e u' ⟨h1, h2, h3⟩
          refine ⟨?_, ⟨h2, h3⟩, h3⟩
          cases hf : found (verR s.R key) y with
          | none =>
            rw [hf] at h1
            exact ⟨_, h1, rfl⟩
          | some bs =>
            rw [hf] at h1
            obtain ⟨A, c, rfl, hb, hl⟩ := h1
            refine ⟨_, rfl, A, c, rfl, hb, by omega, fun hne g off hA e => ?_⟩
            obtain ⟨g', off', hA', _, hc⟩ := hb 0 _ (List.getElem?_eq_getElem (List.length_pos_iff.2 hne))
            rw [hA] at hA'
            simp only [Option.some.injEq, Addr.mk.injEq, and_true] at hA'
            rw [← hA'.1, e, h2.blk.cell, ← hA'.2, Nat.add_zero] at hc
            match off, hc with
            | 0, hc => simp [byteV] at hc
            | 1, hc => simp [byteV] at hc
            | 2, hc => simp [byteV] at hc
            | m + 3, hc => simp at hc
        · rintro e w' ⟨h1, u, u', h2, ⟨h3, h4⟩, h5, h6⟩
          have ho : Only (· = s.s) w w' := ((none_s h2).trans h4).trans (none_s h6)
          exact ⟨h1, h.asks hj hsF (h3.keep h6) ho, ho⟩

theorem scanR_mem {R : List KV} (hg : GoodR R) {fr ti : ByteArray} {y : Int} {p : ByteArray × List UInt8} (h : p ∈ scanR R fr ti y) : p.1.size ≤ 255 ∧ p.2.length ≤ 4096 := by
  obtain ⟨k, hk, hp⟩ := List.mem_filterMap.1 h
  obtain ⟨v, hv⟩ := keysR_mem.1 hk
  unfold scanKey at hp
  split at hp
  · cases hp
  · obtain ⟨bs, hf, rfl⟩ := Option.map_eq_some_iff.1 hp
    obtain ⟨z, hz, rfl⟩ := found_mem hf
    exact ⟨(hg.key _ hv).2, hg.bs _ (verR_mem.1 hz)⟩

set_option maxHeartbeats 1000000 in
theorem sc_scan (h : Scene n os F w) (hi : i < n) (hj : j < n) (hij : i ≠ j) (ei : os i = .tx x) (ej : os j = .sr s) (ha : s.asked < 4611686018427387904) (hN : s.N ≤ NMAX) (hq : x.ws.length ≤ 1048576) (pl : Int) (fr ti : ByteArray) (lim : Int) :
    Calls Tryz.prog 40 #[.pointer (some ⟨x.t, 0, none⟩), .int .i64 pl, .string fr, .string ti, .int .i64 lim, .iface 50 (.pointer (some ⟨s.s, 0, none⟩))] w fun e w' =>
      TSc (scanA x s pl fr ti lim).1.1 (scanA x s pl fr ti lim).1.2.1 (scanA x s pl fr ti lim).1.2.2 w e w' ∧ Scene n (setAt os j (.sr { s with asked := s.asked + (scanA x s pl fr ti lim).2 })) F w' ∧ Only (· = s.s) w w' := by
  obtain ⟨hx, hxF⟩ := h.tx hi ei
  obtain ⟨T, hs, hsF⟩ := h.sr hj ej
  have hSU : ∀ k, k = s.s → Oth n F i k := fun k hk => ⟨j, hj, hij.symm, (hsF k).2 (.inl hk)⟩
  have none_s : ∀ {w w' : World}, Only NoneOf w w' → Only (· = s.s) w w' := fun h => h.mono fun _ _ h => h.elim
  have cH : ∀ u, Only NoneOf w u → Calls Tryz.prog 150 #[.pointer (some ⟨s.s, 0, none⟩)] u fun e u' => e = .returned (.int .i64 s.H) ∧ u = u' := fun u hu => horizon_is u s.s s.st s.N T _ s.R s.H s.asked (hs.keep hu)
  by_cases he : scanE x.ended x.snap pl fr ti lim ≠ 0
  · have e : scanA x s pl fr ti lim = (([], false, scanE x.ended x.snap pl fr ti lim), 0) := by unfold scanA; rw [if_pos he]
    rw [e]
    refine (txScan_early w x.t x.p x.m x.place _ x.snap x.ws x.ended _ hx pl fr ti lim 50 _ he).mono ?_
    rintro e w' ⟨rfl, h2⟩
    exact ⟨⟨_, [], rfl, BRows.nil _ _, rfl⟩, h.same ej h2, none_s h2⟩
  · have he0 : scanE x.ended x.snap pl fr ti lim = 0 := by omega
    obtain ⟨h0, hl, hf, k, y, rfl, hy, hy0⟩ := scanE_zero he0
    have eg : scanA x s k fr ti lim = if y < s.H then (([], false, 172), 0) else (((scanL x s k fr ti).take lim.toNat, decide (lim.toNat < (scanL x s k fr ti).length), 0), 1) := by
      unfold scanA
      rw [if_neg he, readY_at hy]
    by_cases hlt : y < s.H
    · rw [if_pos hlt] at eg
      rw [eg]
      refine (txScan_old w x.t x.p x.m x.place _ x.snap x.ws x.ended _ hx k fr ti lim 50 _ he0 (source_m ⟨s.s, 0, none⟩) s.H cH y hy hlt).mono ?_
      rintro e w' ⟨rfl, h2⟩
      exact ⟨⟨_, [], rfl, BRows.nil _ _, rfl⟩, h.same ej h2, none_s h2⟩
    · rw [if_neg hlt] at eg
      rw [eg]
      obtain ⟨ln, rfl⟩ : ∃ ln : Nat, lim = ln := ⟨lim.toNat, by omega⟩
      rw [Int.toNat_natCast]
      have hgood := hs.sto.good
      have hLe : scanL x s k fr ti = if k = x.place then overW x.ws fr ti (scanR s.R fr ti y) else scanR s.R fr ti y := by
        unfold scanL
        rw [readY_at hy]
        by_cases hp : k = x.place
        · rw [if_pos hp, if_pos (by omega)]
        · rw [if_neg hp, if_neg (by omega)]
      have hus : ∀ p ∈ scanR s.R fr ti y, p.1.size ≤ maxLen := fun p hp => by have := (scanR_mem hgood hp).1; unfold maxLen; omega
      have hul : ∀ p ∈ scanR s.R fr ti y, p.2.length ≤ 35184372088832 := fun p hp => by have := (scanR_mem hgood hp).2; omega
      have hmk : ∀ u, Only NoneOf w u → SrcR u s.s s.st T (fun k => Oth n F j k ∨ (w.heap.size ≤ k ∧ k < u.heap.size)) s.R s.N s.H s.asked := fun u hu =>
        hs.other hu (fun _ h => h.elim) (fun k hk => by
          rcases hk with hk | hk
          · exact ⟨Nat.lt_of_lt_of_le (Oth.lt h hk) hu.size, .inl hk⟩
          · exact ⟨hk.2, .inr hk.1⟩)
      have cS : ∀ u, Only NoneOf w u → Calls Tryz.prog 151 #[.pointer (some ⟨s.s, 0, none⟩), .string fr, .string ti, .int .i64 y] u (SrcIt (scanR s.R fr ti y) NoneOf (· = s.s) (fun u u' => SrcR u' s.s s.st T (fun k => Oth n F j k ∨ (w.heap.size ≤ k ∧ k < u.heap.size)) s.R s.N s.H (s.asked + 1)) u) := fun u hu =>
        sscan_z u s.s s.st s.N T _ s.R s.H s.asked (hmk u hu) ha hN fr ti y
      have fin : ∀ e w', TScanPost (scanL x s k fr ti) ln (· = s.s) (fun u u' => SrcR u' s.s s.st T (fun k => Oth n F j k ∨ (w.heap.size ≤ k ∧ k < u.heap.size)) s.R s.N s.H (s.asked + 1)) w e w' →
          TSc ((scanL x s k fr ti).take ln) (decide (ln < (scanL x s k fr ti).length)) 0 w e w' ∧ Scene n (setAt os j (.sr { s with asked := s.asked + 1 })) F w' ∧ Only (· = s.s) w w' := by
        rintro e w' ⟨h1, u, u', h2, h3, h4, h5, h6⟩
        have ho : Only (· = s.s) w w' := ((none_s h2).trans h4).step h6 (fun k hk hk2 => by omega)
        refine ⟨h1, h.asks hj hsF (h3.other h6 (fun k hk => .inr hk) (fun k hk => ⟨Nat.lt_of_lt_of_le (Oth.lt h hk) ho.size, .inl (.inl hk)⟩)) ho, ho⟩
      by_cases hp : k = x.place
      · subst hp
        rw [if_pos rfl] at hLe
        rw [hLe] at fin ⊢
        exact (txScan_own w x.t x.p x.m x.place _ x.snap x.ws x.ended _ hx hq fr ti ln 50 _ he0 (source_m ⟨s.s, 0, none⟩) s.H cH y hy hlt (· = s.s) hSU _ NoneOf (fun _ h => h.elim) _ hus hul cS).mono fin
      · rw [if_neg hp] at hLe
        rw [hLe] at fin ⊢
        exact (txScan_other w x.t x.p x.m x.place _ x.snap x.ws x.ended _ hx k hp fr ti ln 50 _ he0 (source_m ⟨s.s, 0, none⟩) s.H cH y hy hlt (· = s.s) hSU _ NoneOf (fun _ h => h.elim) _ hus hul cS).mono fin

/-- the transaction and the account behind a write -/
def wrX (x : Tx) (c : Int) (e : We) : Tx := { x with ws := wrW c x.ws e }
theorem wrA_ok (c : Int) (ok : a.Ok) (old now : Int) : (wrA c a old now).Ok := by
  unfold wrA
  split
  · exact (ok.doCharge old now).ok
  · exact ok
theorem Scene.wrote (h : Scene n os F w) (hi : i < n) (hj : j < n) (hij : i ≠ j) (ei : os i = .tx x) (ej : os j = .ac b a) {c : Int} {en : We} {old now : Int} {e : Ending} {w' : World} {N : Nat}
    (hp : WrPost x.t x.p x.m x.place N x.snap x.ws x.ended (Oth n F i) b a c en old now w e w') : e = .returned (.int .i64 c) ∧ Scene n (setAt (setAt os i (.tx (wrX x c en))) j (.ac b (wrA c a old now))) F w' ∧ Only (fun k => F i k ∨ F j k) w w' := by
  obtain ⟨h1, h2, h3, h4⟩ := hp
  obtain ⟨hx, hxF⟩ := h.tx hi ei
  obtain ⟨hA, hok, haF, hau⟩ := h.ac hj ej
  have ho : Only (fun k => F i k ∨ F j k) w w' := h4.mono fun k _ hk => by
    rcases hk with hk | hk | hk
    · exact .inl ((hxF k).2 (.inr (.inl hk)))
    · exact .inl ((hxF k).2 (.inr (.inr hk)))
    · exact .inr ((haF k).2 hk)
  exact ⟨h1, h.turn2 hi hj hij ho ⟨h2.tight, hxF⟩ ⟨h3, wrA_ok c hok old now, haF, fun k hk => ⟨Nat.lt_of_lt_of_le (hau k hk).1 h4.size, (hau k hk).2⟩⟩, ho⟩
/-- Put's number -/
def putC (x : Tx) (a : Ac) (pl : Int) (key : ByteArray) (nb : Nat) : Int := wrC x.ended x.snap.length x.place pl key nb a (weightW x.ws key.data.toList : Nat) ((key.size : Int) + nb)
theorem sc_put (h : Scene n os F w) (hi : i < n) (hj : j < n) (hij : i ≠ j) (ei : os i = .tx x) (ej : os j = .ac b a) (hq : x.ws.length ≤ 1048576) (pl : Int) (key : ByteArray) (hkl : key.size ≤ maxLen) (Av : Option Addr) (nb cv : Nat) (bs : List UInt8) (hnb : bs.length = nb) (hby : BytesAt w Av bs)
    (hvb : bs ≠ [] → ∀ g off, Av = some ⟨g, off, none⟩ → g ≠ b) (hbl : nb ≤ 4611686018427387904) (hkb : key.size ≤ 4611686018427387903) :
    Calls Tryz.prog 39 #[.pointer (some ⟨x.t, 0, none⟩), .int .i64 pl, .string key, .slice Av nb cv, .pointer (some ⟨b, 0, none⟩)] w fun e w' => e = .returned (.int .i64 (putC x a pl key nb)) ∧
      Scene n (setAt (setAt os i (.tx (wrX x (putC x a pl key nb) ⟨key.data.toList, bs, false⟩))) j (.ac b (wrA (putC x a pl key nb) a (weightW x.ws key.data.toList : Nat) ((key.size : Int) + nb)))) F w' ∧ Only (fun k => F i k ∨ F j k) w w' := by
  obtain ⟨hx, hxF⟩ := h.tx hi ei
  obtain ⟨hA, hok, haF, hau⟩ := h.ac hj ej
  refine (txPut_is w x.t x.p x.m x.place _ x.snap x.ws x.ended _ hx (by omega) b a hA hok ⟨j, hj, hij.symm, (haF b).2 rfl⟩ pl key hkl Av nb cv bs hnb hby hvb hbl hkb).mono fun e w' hp => ?_
  exact h.wrote hi hj hij ei ej hp
/-- Delete's number -/
def delC (x : Tx) (a : Ac) (pl : Int) (key : ByteArray) : Int := wrC x.ended x.snap.length x.place pl key 0 a (weightW x.ws key.data.toList : Nat) (key.size : Int)
theorem sc_del (h : Scene n os F w) (hi : i < n) (hj : j < n) (hij : i ≠ j) (ei : os i = .tx x) (ej : os j = .ac b a) (hq : x.ws.length ≤ 1048576) (pl : Int) (key : ByteArray) (hkl : key.size ≤ maxLen) :
    Calls Tryz.prog 43 #[.pointer (some ⟨x.t, 0, none⟩), .int .i64 pl, .string key, .pointer (some ⟨b, 0, none⟩)] w fun e w' => e = .returned (.int .i64 (delC x a pl key)) ∧
      Scene n (setAt (setAt os i (.tx (wrX x (delC x a pl key) ⟨key.data.toList, [], true⟩))) j (.ac b (wrA (delC x a pl key) a (weightW x.ws key.data.toList : Nat) (key.size : Int)))) F w' ∧ Only (fun k => F i k ∨ F j k) w w' := by
  obtain ⟨hx, hxF⟩ := h.tx hi ei
  obtain ⟨hA, hok, haF, hau⟩ := h.ac hj ej
  refine (txDel_is w x.t x.p x.m x.place _ x.snap x.ws x.ended _ hx (by omega) b a hA hok ⟨j, hj, hij.symm, (haF b).2 rfl⟩ pl key hkl).mono fun e w' hp => ?_
  exact h.wrote hi hj hij ei ej hp
theorem sc_end (h : Scene n os F w) (hi : i < n) (hj : j < n) (hij : i ≠ j) (ei : os i = .tx x) (ej : os j = .ac b a) :
    Calls Tryz.prog 41 #[.pointer (some ⟨x.t, 0, none⟩), .pointer (some ⟨b, 0, none⟩)] w fun e w' => e = .returned (.int .i64 (endC x.ended a (bytesW x.ws))) ∧
      Scene n (setAt (setAt os i (.tx { x with ended := x.ended || decide (endC x.ended a (bytesW x.ws) = 0) })) j (.ac b (endA x.ended a (bytesW x.ws)))) F w' ∧ Only (fun k => F i k ∨ F j k) w w' := by
  obtain ⟨hx, hxF⟩ := h.tx hi ei
  obtain ⟨hA, hok, haF, hau⟩ := h.ac hj ej
  refine (txEnd_is w x.t x.p x.m x.place _ x.snap x.ws x.ended _ hx b a hA hok ⟨j, hj, hij.symm, (haF b).2 rfl⟩).mono ?_
  rintro e w' ⟨h1, h2, h3, h4⟩
  have ho : Only (fun k => F i k ∨ F j k) w w' := h4.mono fun k _ hk => by
    rcases hk with hk | hk
    · exact .inl ((hxF k).2 (.inl hk))
    · exact .inr ((haF k).2 hk)
  have hokE : (endA x.ended a (bytesW x.ws)).Ok := by
    unfold endA
    split
    · exact hok
    · exact (hok.doEnd _).ok
  exact ⟨h1, h.turn2 hi hj hij ho ⟨h2, hxF⟩ ⟨h3, hokE, haF, fun k hk => ⟨Nat.lt_of_lt_of_le (hau k hk).1 h4.size, (hau k hk).2⟩⟩, ho⟩
theorem sc_writes (h : Scene n os F w) (hi : i < n) (ei : os i = .tx x) (hq : x.ws.length ≤ 1048576) : Calls Tryz.prog 16 #[.pointer (some ⟨x.t, 0, none⟩)] w (VersPost (x.ws.map verW) w) :=
  txWrites_is w x.t x.p x.m x.place _ x.snap x.ws x.ended _ (h.tx hi ei).1 hq
/-- Apply at a source's store -/
theorem sc_apply (h : Scene n os F w) (hj : j < n) (ej : os j = .sr s) (hN : s.N < NMAX) (key : ByteArray) (st : Int) (A : Option Addr) (nn cc : Nat) (dead : Bool) (bs : List UInt8) (hnn : bs.length = nn) (hby : BytesAt w A bs) :
    Calls Tryz.prog 34 #[.pointer (some ⟨s.st, 0, none⟩), .agg (verC key st (.slice A nn cc) dead)] w fun e w' => e = .returned (.int .i64 (codeR s.R key ⟨st, bs, dead⟩)) ∧
      ∃ F', Scene n (setAt os j (.sr { s with R := afterR s.R key ⟨st, bs, dead⟩, N := s.N + 1 })) (setAt F j F') w' ∧ Only (F j) w w' ∧ ∀ k, F' k → F j k ∨ w.heap.size ≤ k := by
  obtain ⟨T, hs, hsF⟩ := h.sr hj ej
  refine (applyR w s.st s.N T _ s.R hs.sto hN key st A nn cc dead bs hnn hby).mono ?_
  rintro e w' ⟨h1, T', h2, h3, h4⟩
  have ho : Only (F j) w w' := h3.mono fun k _ hk => (hsF k).2 (.inr hk)
  have hns : ¬ T s.s := fun ht => by
    obtain ⟨m, n', D, C, _, h5, _⟩ := hs.sto
    exact (h5.2 s.s (.inl rfl)).2 ht
  refine ⟨h1, fun k => k = s.s ∨ T' k, h.step hj ho ⟨T', ⟨hs.blk.only h3 hns, h2, fun k hk => ⟨Nat.lt_of_lt_of_le (hs.ult k hk).1 h3.size, (hs.ult k hk).2⟩, hs.a0⟩, fun k => Iff.rfl⟩ (fun k hk => ?_), ho, fun k hk => ?_⟩ <;>
  · rcases hk with hk | hk
    · exact .inl ((hsF k).2 (.inl hk))
    · exact (h4 k hk).imp_left fun h => (hsF k).2 (.inr h)
/-- the account's numbers -/
theorem sc_pending (h : Scene n os F w) (hj : j < n) (ej : os j = .ac b a) : Calls Tryz.prog 24 #[.pointer (some ⟨b, 0, none⟩)] w fun e w' => e = .returned (.int .i64 a.pending) ∧ w = w' := Qa.pending_has b a w (h.ac hj ej).1
end

end Go.Proofs.YtbhihbhjmmeibaaGreat

/-
  Layer 17's law: txnFixed.
-/
namespace Go.Proofs.YtbhihbhjmmeibaaGreat
open Go.RowKit Go.Shelf
open Qa (Ac AcIs AcPost)

theorem Scene.congr {n : Nat} {os os' : Nat → Ob} {F : Nat → Nat → Prop} {w : World} (h : Scene n os F w) (he : ∀ i, i < n → os i = os' i) : Scene n os' F w := fun i hi => by
  rw [← he i hi]
  exact h i hi

abbrev fxA : ByteArray := ⟨#[97]⟩
abbrev fxX : ByteArray := ⟨#[120]⟩
abbrev fxN : ByteArray := ⟨#[]⟩
abbrev FR1 : List KV := [(fxA, ⟨3, [10], false⟩)]
/-- the transaction, the account, the source of txnFixed -/
def fxTx (t p m : Nat) (ws : List We) (ended : Bool) : Tx := ⟨t, p, m, 1, [4, 7, -1], ws, ended⟩
def fxAc (pend opn : Int) : Ac := ⟨10, 1, 0, pend, opn⟩
def fxSr (s st : Nat) (R : List KV) (N : Nat) (asked : Int) : Sr := ⟨s, st, R, N, 2, asked⟩
abbrev fxW : List We := [⟨[120], [1], false⟩]
/-- three things -/
def os3 (x : Tx) (b : Nat) (a : Ac) (s : Sr) : Nat → Ob
  | 0 => .tx x
  | 1 => .ac b a
  | _ => .sr s
theorem os3_sr (x : Tx) (b : Nat) (a : Ac) (s s' : Sr) : ∀ i, i < 3 → setAt (os3 x b a s) 2 (.sr s') i = os3 x b a s' i
  | 0, _ => rfl
  | 1, _ => rfl
  | 2, _ => rfl
  | n + 3, h => absurd h (by omega)
theorem os3_tx (x x' : Tx) (b : Nat) (a a' : Ac) (s : Sr) : ∀ i, i < 3 → setAt (setAt (os3 x b a s) 0 (.tx x')) 1 (.ac b a') i = os3 x' b a' s i
  | 0, _ => rfl
  | 1, _ => rfl
  | 2, _ => rfl
  | n + 3, h => absurd h (by omega)

theorem fx_code : codeR [] fxA ⟨3, [10], false⟩ = 0 := by decide
theorem fx_after : afterR [] fxA ⟨3, [10], false⟩ = FR1 := by unfold afterR; rw [if_pos fx_code]; rfl
theorem fx_get0 (t p m s st : Nat) (N : Nat) (k : Int) : getA (fxTx t p m [] false) (fxSr s st FR1 N k) 0 fxA = (([10], true, 0), 1) := by
  unfold getA
  have h1 : getE (fxTx t p m [] false).ended (fxTx t p m [] false).snap 0 fxA = 0 := by
    show getE false [4, 7, -1] 0 fxA = 0
    decide
  have h2 : readY (fxTx t p m [] false) 0 = 4 := rfl
  have h3 : found (verR FR1 fxA) 4 = some [10] := by decide
  have h4 : ¬ (0 : Int) = ((fxTx t p m [] false).place : Int) := by show ¬ (0 : Int) = ((1 : Nat) : Int); decide
  rw [h1, h2, if_neg (by decide), if_neg h4, if_neg (show ¬ (4 : Int) < (fxSr s st FR1 N k).H by show ¬ (4 : Int) < 2; decide), show (fxSr s st FR1 N k).R = FR1 from rfl, h3]
  rfl
theorem fx_get2 (t p m s st : Nat) (ws : List We) (N : Nat) (k : Int) : getA (fxTx t p m ws false) (fxSr s st FR1 N k) 2 fxA = (([], false, 170), 0) := by
  unfold getA
  have h1 : getE (fxTx t p m ws false).ended (fxTx t p m ws false).snap 2 fxA = 170 := by
    show getE false [4, 7, -1] 2 fxA = 170
    decide
  rw [h1, if_pos (by decide)]
theorem fx_put1 (t p m : Nat) : putC (fxTx t p m [] false) (fxAc 0 1) 1 fxX 1 = 0 := by
  show wrC false 3 1 1 fxX 1 (fxAc 0 1) (weightW [] fxX.data.toList : Nat) ((fxX.size : Int) + 1) = 0
  decide
theorem fx_put0 (t p m : Nat) : putC (fxTx t p m fxW false) (fxAc 2 1) 0 fxX 0 = 171 := by
  show wrC false 3 1 0 fxX 0 (fxAc 2 1) (weightW fxW fxX.data.toList : Nat) ((fxX.size : Int) + 0) = 171
  decide
theorem fx_scan (t p m s st : Nat) (N : Nat) (k : Int) : scanA (fxTx t p m fxW false) (fxSr s st FR1 N k) 1 fxN fxN 1 = (([(fxA, [10])], true, 0), 1) := by
  have hk : keysR FR1 = [[97]] := by
    unfold keysR
    simp [dedup]
  have hs : scanR FR1 fxN fxN 7 = [(fxA, [10])] := by
    unfold scanR
    rw [hk]
    decide +kernel
  have hL : scanL (fxTx t p m fxW false) (fxSr s st FR1 N k) 1 fxN fxN = [(fxA, [10]), (fxX, [1])] := by
    unfold scanL
    rw [if_pos (show (1 : Int) = ((fxTx t p m fxW false).place : Int) from rfl)]
    show overW fxW fxN fxN (scanR FR1 fxN fxN 7) = _
    rw [hs]
    decide +kernel
  unfold scanA
  have h1 : scanE (fxTx t p m fxW false).ended (fxTx t p m fxW false).snap 1 fxN fxN 1 = 0 := by
    show scanE false [4, 7, -1] 1 fxN fxN 1 = 0
    decide
  have h2 : readY (fxTx t p m fxW false) 1 = 7 := rfl
  rw [h1, h2, if_neg (by decide), if_neg (show ¬ (7 : Int) < (fxSr s st FR1 N k).H by show ¬ (7 : Int) < 2; decide), hL]
  rfl

theorem fx_wr1 (t p m : Nat) : wrX (fxTx t p m [] false) 0 ⟨fxX.data.toList, [1], false⟩ = fxTx t p m fxW false := rfl
theorem fx_ac1 : wrA 0 (fxAc 0 1) (weightW [] fxX.data.toList : Nat) ((fxX.size : Int) + (1 : Nat)) = fxAc 2 1 := rfl
theorem fx_end : endC false (fxAc 2 1) (bytesW fxW) = 0 := by decide
theorem fx_endA : endA false (fxAc 2 1) (bytesW fxW) = fxAc 0 0 := rfl

theorem bytes_one (w : World) (x : UInt8) : BytesAt (w.alloc (.cells #[byteV x] 5)) (some ⟨w.heap.size, 0, none⟩) [x] := fun i c hc => by
  cases i with
  | zero => simp at hc; subst hc; exact ⟨_, 0, rfl, by simp, (Blk.new w 5 #[byteV x]).cellv 0 rfl⟩
  | succ i => simp at hc
theorem ints_three (w : World) (x y z : Int) : IntsAt (w.alloc (.cells #[.int .i64 x, .int .i64 y, .int .i64 z] 3)) (some ⟨w.heap.size, 0, none⟩) [x, y, z] := fun i c hc => by
  have hb := Blk.new w 3 #[.int .i64 x, .int .i64 y, .int .i64 z]
  match i, hc with
  | 0, hc => simp at hc; subst hc; exact ⟨_, 0, rfl, by simp, hb.cellv 0 rfl⟩
  | 1, hc => simp at hc; subst hc; exact ⟨_, 0, rfl, by simp, hb.cellv 1 rfl⟩
  | 2, hc => simp at hc; subst hc; exact ⟨_, 0, rfl, by simp, hb.cellv 2 rfl⟩
  | i + 3, hc => simp at hc

theorem sc_begin {n : Nat} {os : Nat → Ob} {F : Nat → Nat → Prop} {w : World} {j b : Nat} {a : Ac} (h : Scene n os F w) (hj : j < n) (ej : os j = .ac b a) : Calls Tryz.prog 37 #[.pointer (some ⟨b, 0, none⟩)] w fun e w' => e = .returned (.int .i64 a.doBegin.2) ∧ Scene n (setAt os j (.ac b a.doBegin.1)) F w' ∧ Only (F j) w w' := by
  obtain ⟨hA, hok, haF, hau⟩ := h.ac hj ej
  refine (Qa.begin_is b a w hA hok).mono ?_
  rintro e w' ⟨h1, h2, h3⟩
  have ho : Only (F j) w w' := h3.mono fun k _ hk => (haF k).2 hk
  exact ⟨h1, h.turn hj ho ⟨h2, hok.doBegin.ok, haF, fun k hk => ⟨Nat.lt_of_lt_of_le (hau k hk).1 h3.size, (hau k hk).2⟩⟩, ho⟩
/-- a transaction begins a scene -/
theorem Scene.addTx {n : Nat} {os : Nat → Ob} {F : Nat → Nat → Prop} {w w' : World} (h : Scene n os F w) {k : Nat} {snap : List Int} {t p m : Nat} (ht : TxR w' t p m (fun k => ∃ j, j < n ∧ F j k) k snap [] false 0) (ho : Only NoneOf w w') (h1 : w.heap.size ≤ t) (h2 : w.heap.size ≤ p) (h3 : w.heap.size ≤ m) :
    ∃ F', Scene (n + 1) (setAt os n (.tx ⟨t, p, m, k, snap, [], false⟩)) (setAt F n F') w' ∧ ∀ k, F' k → w.heap.size ≤ k :=
  have hF : ∀ k, (k = t ∨ k = p ∨ k = m) → w.heap.size ≤ k := fun k hk => by rcases hk with rfl | rfl | rfl <;> assumption
  ⟨fun k => k = t ∨ k = p ∨ k = m, h.more ho ⟨ht, fun _ => Iff.rfl⟩ hF, hF⟩
theorem Scene.addAc {n : Nat} {os : Nat → Ob} {F : Nat → Nat → Prop} {w w' : World} (h : Scene n os F w) {b : Nat} {a : Ac} (ha : AcIs w' b a) (ok : a.Ok) (ho : Only NoneOf w w') (h1 : w.heap.size ≤ b) :
    ∃ F', Scene (n + 1) (setAt os n (.ac b a)) (setAt F n F') w' ∧ ∀ k, F' k → w.heap.size ≤ k :=
  have hF : ∀ k, k = b → w.heap.size ≤ k := fun k hk => by rw [hk]; exact h1
  ⟨fun k => k = b, h.more ho ⟨ha, ok, fun _ => Iff.rfl, fun k ⟨j, hj, hk⟩ => ⟨Nat.lt_of_lt_of_le ((h j hj).lt k hk) ho.size, fun e => by have := (h j hj).lt k hk; omega⟩⟩ hF, hF⟩
theorem Scene.addSr {n : Nat} {os : Nat → Ob} {F : Nat → Nat → Prop} {w w1 : World} (h : Scene n os F w) {st : Nat} {T : Nat → Prop} (hst : StoR w1 st T (fun k => ∃ j, j < n ∧ F j k) [] 0) (ho : Only NoneOf w w1) (hT : ∀ k, T k → w.heap.size ≤ k) (H : Int) :
    ∃ F', Scene (n + 1) (setAt os n (.sr ⟨w1.heap.size, st, [], 0, H, 0⟩)) (setAt F n F') (w1.alloc (.cells #[.pointer (some ⟨st, 0, none⟩), .int .i64 H, .int .i64 0] 53)) ∧ ∀ k, F' k → w.heap.size ≤ k :=
  have hF : ∀ k, (k = w1.heap.size ∨ T k) → w.heap.size ≤ k := fun k hk => by
    rcases hk with rfl | hk
    · exact ho.size
    · exact hT k hk
  have ho2 : Only NoneOf w1 (w1.alloc (.cells #[.pointer (some ⟨st, 0, none⟩), .int .i64 H, .int .i64 0] 53)) := (Only.refl _ _).alloc _
  ⟨fun k => k = w1.heap.size ∨ T k, h.more (ho.trans ho2) ⟨T, ⟨Blk.new _ _ _, hst.other ho2 (fun _ h => h.elim) (fun k hk => by
      rcases hk with rfl | hk
      · exact ⟨by simp, .inr (Nat.le_refl _)⟩
      · exact ⟨by have := hst.ult hk; simp; omega, .inl hk⟩), fun k ⟨j, hj, hk⟩ => ⟨by have := (h j hj).lt k hk; have := ho.size; simp; omega, fun (e : k = w1.heap.size) => by have := (h j hj).lt k hk; have := ho.size; omega⟩, Int.le_refl 0⟩, fun _ => Iff.rfl⟩ hF, hF⟩

set_option maxRecDepth 100000 in
set_option maxHeartbeats 8000000 in
theorem fixedTx_is (w : World) : Calls Tryz.prog 11 #[] w fun e w' => e = .returned (.bool true) ∧ Only NoneOf w w' := by
  go_enter Tryz.func11, Tryz.ntmps11
  go_wp2_with fail
  have hO0 : Only NoneOf w (w.alloc (.cells #[.int .i64 4, .int .i64 7, .int .i64 (-1)] 3)) := (Only.refl _ _).alloc _
  refine (txNew_ok (w.alloc (.cells #[.int .i64 4, .int .i64 7, .int .i64 (-1)] 3)) (fun k => ∃ j, j < 0 ∧ (fun _ _ => False : Nat → Nat → Prop) j k) (fun k ⟨j, hj, _⟩ => absurd hj (by omega)) 1 _ 3 [4, 7, -1] (ints_three w 4 7 (-1)) 7 rfl (by decide) (by decide)).mono ?_
  rintro e w1 ⟨t, p, m, rfl, ht, ho1, ht1, ht2, ht3⟩
  obtain ⟨F0, hs1, hf0⟩ := (Scene.start (fun _ => .tx (fxTx 0 0 0 [] false)) (fun _ _ => False) _).addTx ht ho1 ht1 ht2 ht3
  have HS1 := Lib.hid hs1
  have HO1 := Lib.hid (hO0.trans ho1)
  have HF0 := Lib.hid (fun k hk => Nat.le_trans hO0.size (hf0 k hk))
  clear ht ho1 ht1 ht2 ht3 hs1 hf0 hO0
  go_wp2_with fail
  refine (Qa.new_ok 10 1 0 0 0 w1 (by decide) (by decide) (by decide) (by decide)).mono ?_
  rintro e w2 ⟨b, rfl, hb, ha, ho2⟩
  obtain ⟨F1, hs2, hf1⟩ := HS1.out.addAc ha (by constructor <;> decide) ho2 hb
  have HS2 := Lib.hid hs2
  have HO2 := Lib.hid (HO1.out.trans ho2)
  have HF1 := Lib.hid (fun k hk => Nat.le_trans HO1.out.size (hf1 k hk))
  clear ha ho2 hb hs2 hf1 HS1
  go_wp2_with fail
  refine (sc_begin HS2.out (j := 1) (by decide) rfl).mono ?_
  rintro e w3 ⟨rfl, hs3, ho3⟩
  have HS3 := Lib.hid hs3
  have HO3 := Lib.hid (HO2.out.step ho3 (fun k hk hh => by have := HF1.out k hh; omega))
  clear hs3 ho3 HS2
  go_wp2_with fail
  refine (newR w3 (fun k => ∃ j, j < 2 ∧ (setAt (setAt (fun _ _ => False : Nat → Nat → Prop) 0 F0) 1 F1) j k) (fun k ⟨j, hj, hk⟩ => (HS3.out j hj).lt k hk)).mono ?_
  rintro e w4 ⟨rfl, T, hst, ho4, hT⟩
  obtain ⟨F2, hs4, hf2⟩ := HS3.out.addSr hst ho4 hT 2
  obtain ⟨s, hs⟩ : ∃ s, w4.heap.size = s := ⟨_, rfl⟩
  obtain ⟨st, hst'⟩ : ∃ st, w3.heap.size + 1 = st := ⟨_, rfl⟩
  rw [hs, hst'] at hs4
  obtain ⟨W4, hW4⟩ : ∃ W4, w4.alloc (.cells #[.pointer (some ⟨st, 0, none⟩), .int .i64 2, .int .i64 0] 53) = W4 := ⟨_, rfl⟩
  have hsW : W4.heap.size = s + 1 := by rw [← hW4]; simp [hs]
  have HSW := Lib.hid (show w.heap.size ≤ s by have := HO3.out.size; have := ho4.size; omega)
  have hO4 : Only NoneOf w W4 := by rw [← hW4]; exact (HO3.out.trans ho4).alloc _
  rw [hW4] at hs4
  have hs5 := (hs4.congr (os' := os3 (fxTx t p m [] false) b (fxAc 0 1) (fxSr s st [] 0 0)) (fun i hi => match i, hi with | 0, _ => rfl | 1, _ => rfl | 2, _ => rfl | n + 3, h => absurd h (by omega))).keep ((Only.refl NoneOf W4).alloc (.cells #[byteV 10] 5))
  have hB := bytes_one W4 10
  rw [hsW] at hB
  have HA := Lib.hid (sc_apply hs5 (j := 2) (by decide) rfl (show (0 : Nat) < NMAX by decide) fxA 3 (some ⟨s + 1, 0, none⟩) 1 1 false [10] rfl hB)
  have HO4 := Lib.hid (hO4.alloc (.cells #[byteV 10] 5))
  have HF2 := Lib.hid (fun k hk => Nat.le_trans HO3.out.size (hf2 k hk))
  have HW4 := Lib.hid hW4
  have hcW : W4.cell? ⟨s, 0, none⟩ = some (.pointer (some ⟨st, 0, none⟩)) := by rw [← hW4]; exact (Blk.new' w4 53 #[.pointer (some ⟨st, 0, none⟩), .int .i64 2, .int .i64 0] (n := s) hs.symm).cellv 0 rfl
  clear hst ho4 hT hs4 hf2 HS3 hs5 hO4 hW4 hB hsW
  go_wp2_with fail
  rw [HW4.out]
  refine HA.out.mono ?_
  rintro e w6 ⟨rfl, F3, hs6, ho6, hf6⟩
  have hc6 : codeR (fxSr s st [] 0 0).R fxA ⟨3, [10], false⟩ = 0 := fx_code
  have hs7 := hs6.congr (os' := os3 (fxTx t p m [] false) b (fxAc 0 1) (fxSr s st FR1 1 0)) (fun i hi => match i, hi with | 0, _ => rfl | 1, _ => rfl | 2, _ => by show Ob.sr _ = Ob.sr _; rw [show afterR (fxSr s st [] 0 0).R fxA ⟨3, [10], false⟩ = FR1 from fx_after]; rfl | n + 3, h => absurd h (by omega))
  have HG := Lib.hid (sc_get hs7 (i := 0) (j := 2) (by decide) (by decide) (by decide) rfl rfl (show (0 : Int) < 4611686018427387904 by decide) 0 fxA (by decide))
  have HO6 := Lib.hid (HO4.out.step ho6 (fun k hk hh => by have := HF2.out k hh; omega))
  have HF3 := Lib.hid (show ∀ k, F3 k → w.heap.size ≤ k from fun k hk => by
    rcases hf6 k hk with h | h
    · exact HF2.out k h
    · have := HO4.out.size; omega)
  have HS7 := Lib.hid hs7
  clear HA hs6 ho6 hf6 hs7
  go_wp2_with fail
  refine HG.out.mono ?_
  rintro e w8 ⟨hg, hs8, ho8⟩
  rw [fx_get0] at hg hs8
  replace hg : TGet [10] true 0 w6 e w8 := hg
  obtain ⟨v8, rfl, hr8⟩ := hg
  obtain ⟨A8, c8, rfl, _⟩ := hr8.at
  have hs9 := (hs8.congr (os3_sr _ _ _ _ _)).keep ((Only.refl NoneOf w8).alloc (.cells #[byteV 1] 5))
  have hbw : b < w8.heap.size := (hs8 1 (by decide)).lt b (((hs8.ac (i := 1) (by decide) rfl).2.2.1 b).2 rfl)
  have HP := Lib.hid (sc_put hs9 (i := 0) (j := 1) (by decide) (by decide) (by decide) rfl rfl (show (0 : Nat) ≤ 1048576 by decide) 1 fxX (by decide) (some ⟨w8.heap.size, 0, none⟩) 1 1 [1] rfl (bytes_one w8 1) (fun _ g off hA e => by simp only [Option.some.injEq, Addr.mk.injEq] at hA; omega) (by decide) (by decide))
  have HO8 := Lib.hid ((HO6.out.step ho8 (fun k hk (hh : k = s) => by have := HSW.out; omega)).alloc (.cells #[byteV 1] 5))
  clear HG ho8 hr8 hs8 hs9
  go_wp2_with fail
  refine HP.out.mono ?_
  rintro e w10 ⟨he, hs10, ho10⟩
  rw [show putC (fxTx t p m [] false) (fxAc 0 1) 1 fxX 1 = 0 from fx_put1 t p m] at he hs10
  have hs11 : Scene 3 (os3 (fxTx t p m fxW false) b (fxAc 2 1) (fxSr s st FR1 1 1)) _ w10 := hs10.congr (os3_tx _ _ _ _ _ _)
  have HP2 := Lib.hid (sc_put hs11 (i := 0) (j := 1) (by decide) (by decide) (by decide) rfl rfl (show (1 : Nat) ≤ 1048576 by decide) 0 fxX (by decide) none 0 0 [] rfl (fun i c h => by simp at h) (fun h => absurd rfl h) (by decide) (by decide))
  have HO10 := Lib.hid (HO8.out.step ho10 (fun k hk hh => by
    rcases hh with h | h
    · have := HF0.out k h; omega
    · have := HF1.out k h; omega))
  subst he
  clear HP hs10 hs11 ho10
  go_wp2_with fail
  refine HP2.out.mono ?_
  rintro e w12 ⟨he, hs12, ho12⟩
  rw [show putC (fxTx t p m fxW false) (fxAc 2 1) 0 fxX 0 = 171 from fx_put0 t p m] at he hs12
  have hs13 : Scene 3 (os3 (fxTx t p m fxW false) b (fxAc 2 1) (fxSr s st FR1 1 1)) _ w12 := hs12.congr (os3_tx _ _ _ _ _ _)
  have HG2 := Lib.hid (sc_get hs13 (i := 0) (j := 2) (by decide) (by decide) (by decide) rfl rfl (show (1 : Int) < 4611686018427387904 by decide) 2 fxA (by decide))
  have HO12 := Lib.hid (HO10.out.step ho12 (fun k hk hh => by
    rcases hh with h | h
    · have := HF0.out k h; omega
    · have := HF1.out k h; omega))
  subst he
  clear HP2 hs12 hs13 ho12
  go_wp2_with fail
  refine HG2.out.mono ?_
  rintro e w14 ⟨hg, hs14, ho14⟩
  rw [fx_get2] at hg hs14
  replace hg : TGet [] false 170 w12 e w14 := hg
  obtain ⟨v14, rfl, hr14⟩ := hg
  obtain ⟨A14, c14, rfl, _⟩ := hr14.at
  have hs15 : Scene 3 (os3 (fxTx t p m fxW false) b (fxAc 2 1) (fxSr s st FR1 1 1)) _ w14 := hs14.congr (os3_sr _ _ _ _ _)
  have HC := Lib.hid (sc_scan hs15 (i := 0) (j := 2) (by decide) (by decide) (by decide) rfl rfl (show (1 : Int) < 4611686018427387904 by decide) (show (1 : Nat) ≤ NMAX by decide) (show (1 : Nat) ≤ 1048576 by decide) 1 fxN fxN 1)
  have HO14 := Lib.hid (HO12.out.step ho14 (fun k hk (hh : k = s) => by have := HSW.out; omega))
  clear HG2 hr14 hs14 hs15 ho14
  go_wp2_with fail
  refine HC.out.mono ?_
  rintro e w16 ⟨hg, hs16, ho16⟩
  rw [fx_scan] at hg hs16
  replace hg : TSc [(fxA, [10])] true 0 w14 e w16 := hg
  obtain ⟨v16, rs, rfl, hr16, hpl⟩ := hg
  have hl16 : rs.length = 1 := by have := congrArg List.length hpl; simpa using this
  obtain ⟨r, hr⟩ : ∃ r, rs = [r] := by
    match rs, hl16 with
    | [r], _ => exact ⟨r, rfl⟩
  obtain ⟨A16, c16, rfl, hat⟩ := prows_pat hr16
  obtain ⟨g16, o16, Ab, cb, rfl, hg16, d0, _⟩ := hat 0 r (by rw [hr]; rfl)
  have hkey : r.key = fxA := by rw [hr] at hpl; simpa [PRow.plain] using congrArg (fun l => l.map Prod.fst) hpl
  rw [hl16]
  have hs17 : Scene 3 (os3 (fxTx t p m fxW false) b (fxAc 2 1) (fxSr s st FR1 1 2)) _ w16 := hs16.congr (os3_sr _ _ _ _ _)
  have HPD := Lib.hid (sc_pending hs17 (j := 1) (by decide) rfl)
  have HE := Lib.hid (sc_end hs17 (i := 0) (j := 1) (by decide) (by decide) (by decide) rfl rfl)
  have HO16 := Lib.hid (HO14.out.step ho16 (fun k hk (hh : k = s) => by have := HSW.out; omega))
  rw [hkey, Nat.zero_mul, Nat.add_zero] at d0
  clear HC hr16 hs16 ho16 hat hpl hr hs17 hkey
  go_wp2_with fail
  refine HPD.out.mono ?_
  rintro e w17 ⟨he, rfl⟩
  rw [show (fxAc 2 1).pending = 2 from rfl] at he
  subst he
  go_wp2_with fail
  refine HE.out.mono ?_
  rintro e w18 ⟨he, hs18, ho18⟩
  rw [show endC (fxTx t p m fxW false).ended (fxAc 2 1) (bytesW (fxTx t p m fxW false).ws) = 0 from fx_end] at he hs18
  have hs19 : Scene 3 (os3 (fxTx t p m fxW true) b (fxAc 0 0) (fxSr s st FR1 1 2)) _ w18 := hs18.congr (os3_tx _ _ _ _ _ _)
  have HPD2 := Lib.hid (sc_pending hs19 (j := 1) (by decide) rfl)
  have HEN := Lib.hid (ended_is w18 t p m 1 _ [4, 7, -1] fxW true _ (hs19.tx (i := 0) (by decide) rfl).1)
  have HO18 := Lib.hid (HO16.out.step ho18 (fun k hk hh => by
    rcases hh with h | h
    · have := HF0.out k h; omega
    · have := HF1.out k h; omega))
  subst he
  clear HPD HE hs18 hs19 ho18
  go_wp2_with fail
  refine HPD2.out.mono ?_
  rintro e w20 ⟨he, rfl⟩
  rw [show (fxAc 0 0).pending = 0 from rfl] at he
  subst he
  go_wp2_with fail
  refine HEN.out.mono ?_
  rintro e w21 ⟨rfl, rfl⟩
  go_wp2_with fail
  go_ret
  exact ⟨rfl, HO18.out⟩

end Go.Proofs.YtbhihbhjmmeibaaGreat

/-
  Layer 14's law: bytes, pairs, versions compared.
-/
namespace Go.Proofs.YtbhihbhjmmeibaaGreat
open Go.RowKit

/-- It answers, and turned nothing but the draw. -/
abbrev Told (v : Value) (w : World) (e : Ending) (w' : World) : Prop := e = .returned v ∧ ∃ m, w' = w.drewN m

theorem BytesAt.drewN {w : World} {A : Option Addr} {bs : List UInt8} (h : BytesAt w A bs) (n : Nat) : BytesAt (w.drewN n) A bs := h.keep ((Only.refl NoneOf w).drewN n)

theorem bytes_beq (a b : ByteArray) : (a.toList == b.toList) = decide (a = b) := by
  rw [ByteArray.toList_eq, ByteArray.toList_eq]
  by_cases h : a = b
  · subst h; simp
  · rw [decide_eq_false h]
    refine beq_eq_false_iff_ne.2 fun e => h ?_
    rw [← keyB_list a, ← keyB_list b, e]

theorem take_ne {α : Type} {xs ys : List α} {i : Nat} {x y : α} (hx : xs[i]? = some x) (hy : ys[i]? = some y) (h : x ≠ y) : xs ≠ ys := fun e => by
  subst e
  rw [hx] at hy
  cases hy
  exact h rfl
theorem take_all {α : Type} {xs ys : List α} (hl : xs.length = ys.length) (h : ∀ i, i < xs.length → xs[i]? = ys[i]?) : xs = ys := by
  refine List.ext_getElem? fun i => ?_
  rcases Nat.lt_or_ge i xs.length with hi | hi
  · exact h i hi
  · rw [List.getElem?_eq_none hi, List.getElem?_eq_none (by omega)]

set_option maxRecDepth 100000 in
set_option maxHeartbeats 1000000 in
theorem equal_is (w : World) (A1 A2 : Option Addr) (n1 n2 c1 c2 : Nat) (xs ys : List UInt8) (hn1 : xs.length = n1) (hn2 : ys.length = n2) (h1 : BytesAt w A1 xs) (h2 : BytesAt w A2 ys) (hl : n1 ≤ 4611686018427387904) :
    Calls Tryz.prog 54 #[.slice A1 n1 c1, .slice A2 n2 c2] w (Told (.bool (decide (xs = ys))) w) := by
  by_cases hne : n1 = n2
  · subst hne
    have H1 := Lib.hid h1
    have H2 := Lib.hid h2
    have HN1 := Lib.hid hn1
    have HN2 := Lib.hid hn2
    clear h1 h2 hn1 hn2
    have hq : ((n1 : Int) == (n1 : Int)) = true := by simp
    go_enter Tryz.func54, Tryz.ntmps54
    go_wp2_with fail
    go_loopw [13] (fun v wr => ∃ i m : Nat, v = .int .i64 i ∧ i ≤ n1 ∧ wr = w.drewN m ∧ ∀ j, j < i → xs[j]? = ys[j]?) (fun v _ => n1 - (intOf v).toNat)
    case atStart => exact ⟨0, 0, rfl, by omega, rfl, fun j hj => by omega⟩
    case round =>
      obtain ⟨i, m, rfl, hi, rfl, heq⟩ := hrel
      by_cases hlt : i < n1
      · have hx : xs[i]? = some (xs[i]'(by rw [HN1.out]; exact hlt)) := List.getElem?_eq_getElem _
        have hy : ys[i]? = some (ys[i]'(by rw [HN2.out]; exact hlt)) := List.getElem?_eq_getElem _
        generalize xs[i]'(by rw [HN1.out]; exact hlt) = x at hx
        generalize ys[i]'(by rw [HN2.out]; exact hlt) = y at hy
        obtain ⟨g1, o1, rfl, hg1, k1⟩ := H1.out i x hx
        obtain ⟨g2, o2, rfl, hg2, k2⟩ := H2.out i y hy
        have HEQ := Lib.hid heq
        clear heq
        go_wp2_with fail
        go_quiet (fail)
        cases hbb : ((x.toNat : Int) != (y.toNat : Int))
        · have e : x = y := by
            rcases Decidable.em (x = y) with e | e
            · exact e
            · have := bne_eq_false_iff_eq.1 hbb
              exact UInt8.toNat_inj.1 (by omega)
          go_wp2_with fail
          refine ⟨⟨i + 1, _, by rw [show ((i + 1 : Nat) : Int) = (i : Int) + 1 by omega], by omega, rfl, fun j hj => ?_⟩, by simp [intOf]; omega⟩
          rcases Nat.lt_or_ge j i with h | h
          · exact HEQ.out j h
          · obtain rfl : j = i := by omega
            rw [hx, hy, e]
        · have e : x ≠ y := fun e => by subst e; simp at hbb
          have HD := Lib.hid (show decide (xs = ys) = false from decide_eq_false (take_ne hx hy e))
          go_wp2_with fail
          go_ret
          rw [HD.out]
          exact ⟨rfl, _, World.drewN_drewN _ _ _⟩
      · obtain rfl : i = n1 := by omega
        have HALL := Lib.hid (take_all (by rw [HN1.out, HN2.out]) (fun j hj => heq j (by rw [← HN1.out]; exact hj)))
        go_wp2_with fail
        go_ret
        exact ⟨by rw [decide_eq_true HALL.out]; rfl, m, rfl⟩
  · have hq : ((n1 : Int) == (n2 : Int)) = false := beq_eq_false_iff_ne.2 (by omega)
    have hd : decide (xs = ys) = false := decide_eq_false fun e => hne (by rw [← hn1, ← hn2, e])
    rw [hd]
    clear h1 h2
    go_enter Tryz.func54, Tryz.ntmps54
    go_wp2_with fail
    go_ret
    exact ⟨rfl, 0, rfl⟩

/-- the elements of a slice in memory -/
def ListAt {α : Type} (sz : Nat) (E : World → α → List Value → Prop) (w : World) (v : Value) (xs : List α) : Prop :=
  ∃ A cap, v = .slice A xs.length cap ∧ ∀ (i : Nat) (x : α), xs[i]? = some x → ∃ g off cs, A = some ⟨g, off, none⟩ ∧ g < w.heap.size ∧ (∀ (j : Nat) (c : Value), cs[j]? = some c → w.cell? ⟨g, off + i * sz + j, none⟩ = some c) ∧ cs.length = sz ∧ E w x cs
def PairA (w : World) (x : ByteArray × List UInt8) (cs : List Value) : Prop := ∃ A c, cs = [.string x.1, .slice A x.2.length c] ∧ BytesAt w A x.2
def VerA (w : World) (x : KV) (cs : List Value) : Prop := ∃ A c, cs = [.string x.1, .int .i64 x.2.st, .slice A x.2.bs.length c, .bool x.2.dead] ∧ BytesAt w A x.2.bs

theorem ListAt.keep {α : Type} {sz : Nat} {E : World → α → List Value → Prop} {w w' : World} {v : Value} {xs : List α} (h : ListAt sz E w v xs) (hE : ∀ x cs, E w x cs → E w' x cs) (ho : Only NoneOf w w') : ListAt sz E w' v xs := by
  obtain ⟨A, cap, hv, h⟩ := h
  refine ⟨A, cap, hv, fun i x hx => ?_⟩
  obtain ⟨g, off, cs, hA, hg, hc, hl, he⟩ := h i x hx
  exact ⟨g, off, cs, hA, Nat.lt_of_lt_of_le hg ho.size, fun j c hj => (ho.cell (p := ⟨g, off + i * sz + j, none⟩) hg (fun h => h)).trans (hc j c hj), hl, hE x cs he⟩
theorem PairA.keep {w w' : World} (ho : Only NoneOf w w') (x : ByteArray × List UInt8) (cs : List Value) (h : PairA w x cs) : PairA w' x cs := by
  obtain ⟨A, c, hcs, hb⟩ := h
  exact ⟨A, c, hcs, hb.keep ho⟩
theorem VerA.keep {w w' : World} (ho : Only NoneOf w w') (x : KV) (cs : List Value) (h : VerA w x cs) : VerA w' x cs := by
  obtain ⟨A, c, hcs, hb⟩ := h
  exact ⟨A, c, hcs, hb.keep ho⟩

end Go.Proofs.YtbhihbhjmmeibaaGreat

/-
  From a law's walk to its row's step: whatever the parameters, a law answers true and leaves what was there as it was.
-/
namespace Go.Proofs.YtbhihbhjmmeibaaGreat
open Go.ChangeShapes Go.WideShapes Go.ChangeAt Go.RowKit Go.Deep

/-- How a law ends: true; nothing that was there has turned. -/
def LawPost (w : World) (e : Ending) (w' : World) : Prop := e = .returned (.bool true) ∧ Below w.heap.size w w'

section
variable {H : Type} {enc : TypeId × Value → H} {P : Program}

theorem trodAll_keeps (hl : laidOutB P = true) {W W' : World} (hb : Below W.heap.size W W') (sp : Nat → Bool) :
    ∀ (ts : List TypeId) (vs : List Value) (ds : List (DataW H)) (ps : List MemPlace), (ts.all fun t => P.readableRec t && decide (t < P.types.size)) = true →
      DataW.TrodAll enc P W 0 (fun _ => true) true ts vs ds ps → (∀ p ∈ ps, p.block < W.heap.size) → (∀ p ∈ ps, sp p.block = true) → DataW.TrodAll enc P W' 0 sp true ts vs ds ps
  | [], vs, ds, ps, _, h, _, _ => by cases vs <;> cases ds <;> simp_all [DataW.TrodAll]
  | t :: ts, vs, ds, ps, ht, h, hlt, hsp => by
    obtain ⟨v, vs', d, ds', p, q, rfl, rfl, rfl, h1, h2⟩ := trodAll_cons h
    simp only [List.all_cons, Bool.and_eq_true, decide_eq_true_eq] at ht
    exact ⟨p, q, WideElems.Trod_stays hl ht.1.1 ht.1.2 h1 (fun x hx => hb.same (hlt x (by simp [hx]))) (fun x hx => hsp x (by simp [hx])),
      trodAll_keeps hl hb sp ts vs' ds' q ht.2 h2 (fun x hx => hlt x (by simp [hx])) (fun x hx => hsp x (by simp [hx])), rfl⟩

theorem law_post {f : Func} {s : ChangeSpec} {tb : TypeId} {W W' : World} {args : Array Value} {ds gs : List (DataW H)} {before : List MemPlace}
    (hl : laidOutB P = true) (hr : (f.params.toList.all fun t => P.readableRec t && decide (t < P.types.size)) = true) (hv : s.vars = []) (hrt : f.resultTypes = #[tb]) (hbt : P.underlying tb = some .bool)
    (hs1 : (s.fn H (ds ++ gs)).results = [.lit (.bool true)]) (hs2 : (s.fn H (ds ++ gs)).args = ds) (hs3 : (s.fn H (ds ++ gs)).vars = [])
    (hW : DataW.Whole enc P f.params.toList s.vars false W args.toList ds gs before) (hb : Below W.heap.size W W') :
    s.post enc P f false true false false W args (.bool true) W' := by
  have hlt := hW.lt
  have hW' := hW
  obtain ⟨p, q, hA, hV, rfl, _, _⟩ := hW
  rw [hv] at hV
  obtain ⟨rfl, rfl⟩ := trodVars_none hV
  refine ⟨ds, [], p ++ [], [], p, [], hW', ?_, ?_, ?_, World.keptBut_mono (fun x hx => ⟨hx, ?_⟩) (hb.frame (· ∈ p ++ [])), fun h => by cases h⟩
  · rw [hrt, hs1]
    exact trodAll_mk1 (shut_bool hbt true)
  · rw [hs2]
    exact trodAll_keeps hl hb _ _ _ _ _ hr hA (fun x hx => hlt x (by simpa using hx)) (fun x hx => by simpa using hlt x (by simpa using hx))
  · rw [hv, hs3]
    rfl
  · exact .inr (.inl (by simpa using hx))

theorem law_calls {f : Func} {k : FuncId} {s : ChangeSpec} {tb : TypeId} {W : World} {args : Array Value} {ds gs : List (DataW H)} {before : List MemPlace}
    (hl : laidOutB P = true) (hr : (f.params.toList.all fun t => P.readableRec t && decide (t < P.types.size)) = true) (hv : s.vars = []) (hrt : f.resultTypes = #[tb]) (hbt : P.underlying tb = some .bool)
    (hs1 : (s.fn H (ds ++ gs)).results = [.lit (.bool true)]) (hs2 : (s.fn H (ds ++ gs)).args = ds) (hs3 : (s.fn H (ds ++ gs)).vars = [])
    (hW : DataW.Whole enc P f.params.toList s.vars false W args.toList ds gs before) (walk : Calls P k args W (LawPost W)) :
    Calls P k args W fun e W' => ∃ v, e = .returned v ∧ s.post enc P f false true false false W args v W' :=
  walk.mono fun _ _ ⟨he, hb⟩ => ⟨_, he, law_post hl hr hv hrt hbt hs1 hs2 hs3 hW hb⟩

/-- A struct by value, each field of one cell: its fields, each with its own reading. -/
theorem open_fields {w : World} {base : Nat} {spare : Nat → Bool} {held : Bool} {t : TypeId} {fs : Array Field} {v : Value} {d : DataW H} {p : List MemPlace}
    (hs : P.underlying t = some (.struct fs)) (hone : oneCellFields P fs = true) (hC : P.cellsOf t = fs.size)
    (hv : ∃ cs, v = .agg cs ∧ cs.size = P.cellsOf t) (h : DataW.Trod enc P w base spare held t v d p) :
    ∃ cs : List Value, v = .agg cs.toArray ∧ cs.length = fs.size ∧
      ∀ (j : Nat) (f : Field), fs[j]? = some f → ∃ (c : Value) (y : DataW H × List MemPlace) (n : Nat), cs[j]? = some c ∧ DataW.trod enc P w base spare held n f.type [c] = some y := by
  obtain ⟨cs, rfl, hsz⟩ := hv
  obtain ⟨l⟩ := cs
  obtain ⟨fuel, hf⟩ := h
  obtain ⟨xs, n, _, _, hcl, hlen, hg⟩ := DataW.trod_struct hs hf
  have hl : l.length = fs.size := by rw [← hC]; exact hsz
  refine ⟨l, rfl, hl, fun j f hj => ?_⟩
  obtain ⟨ho, hk⟩ := hone_of hone j f hj
  have hjl : j < fs.size := (Array.getElem?_eq_some_iff.1 hj).1
  have h1 := hg j f hj
  rw [ho, hk] at h1
  have hc : (Value.agg l.toArray).cells.toList = l := by simp [Value.cells]
  rw [hc, List.drop_eq_getElem_cons (by omega)] at h1
  simp only [List.take_succ_cons, List.take_zero] at h1
  exact ⟨l[j]'(by omega), xs[j]'(by omega), n, List.getElem?_eq_getElem _, by rw [h1]; exact List.getElem?_eq_getElem _⟩

/-- The i-th field is an integer. -/
theorem field_int {w : World} {base : Nat} {spare : Nat → Bool} {held : Bool} {n : Nat} {t : TypeId} {k : IntKind} {c : Value} {y : DataW H × List MemPlace} (ht : P.underlying t = some (.int k))
    (h : DataW.trod enc P w base spare held n t [c] = some y) : ∃ x, c = .int k x ∧ (Lit.int k x).wf = true := by
  obtain ⟨x, hx, _, hw⟩ := DataW.trod_int ht h
  exact ⟨x, by simpa using hx, hw⟩
theorem field_bool {w : World} {base : Nat} {spare : Nat → Bool} {held : Bool} {n : Nat} {t : TypeId} {c : Value} {y : DataW H × List MemPlace} (ht : P.underlying t = some .bool)
    (h : DataW.trod enc P w base spare held n t [c] = some y) : ∃ x, c = .bool x := by
  obtain ⟨x, hx, _⟩ := DataW.trod_bool ht h
  exact ⟨x, by simpa using hx⟩
theorem field_string {w : World} {base : Nat} {spare : Nat → Bool} {held : Bool} {n : Nat} {t : TypeId} {c : Value} {y : DataW H × List MemPlace} (ht : P.underlying t = some .string)
    (h : DataW.trod enc P w base spare held n t [c] = some y) : ∃ x : ByteArray, c = .string x ∧ x.size ≤ maxLen := by
  obtain ⟨x, hx, _, hw⟩ := DataW.trod_string ht h
  exact ⟨x, by simpa using hx, hw⟩

theorem int_of {w : World} {base b0 : Nat} {spare : Nat → Bool} {held : Bool} {r : Reach} {t : TypeId} {k : IntKind} {v : Value} {d : DataW H} {p : List MemPlace} (ht : P.underlying t = some (.int k))
    (hv : Value.okWide P w r b0 t v) (h : DataW.Trod enc P w base spare held t v d p) : ∃ x, v = .int k x ∧ (Lit.int k x).wf = true := by
  obtain ⟨x, hx, _, _, hw⟩ := open_int ht hv h
  exact ⟨x, hx, hw⟩
end

theorem ownKnob_none : ownKnob Tryz.prog.godebug = none := by kernel_rfl
theorem laidOut : laidOutB Tryz.prog = true := by kernel_rfl

theorem wf64 {x : Int} (h : (Lit.int .i64 x).wf = true) : -9223372036854775808 ≤ x ∧ x ≤ 9223372036854775807 := by
  simpa [Lit.wf, IntKind.min, IntKind.max, IntKind.signed, IntKind.bits] using h

end Go.Proofs.YtbhihbhjmmeibaaGreat

/-
  A slice that comes in, opened to the cells of its elements.
-/
namespace Go.Proofs.YtbhihbhjmmeibaaGreat
open Go.ChangeShapes Go.WideShapes Go.ChangeAt Go.RowKit Go.Deep

section
variable {H : Type} {enc : TypeId × Value → H} {P : Program} {w : World} {base : Nat} {spare : Nat → Bool} {held : Bool}

theorem cell_place {w : World} {a : Addr} {v : Value} (h : w.cell? a = some v) : a = ⟨a.block, a.off, none⟩ := by
  obtain ⟨b, o, s⟩ := a
  cases s with
  | none => rfl
  | some x =>
    unfold World.cell? at h
    simp only at h
    split at h <;> simp at h

/-- A slice's elements, each as the row of its cells. 'sz' is the element's number of cells. -/
theorem open_elems {t e : TypeId} {sz : Nat} {v : Value} {d : DataW H} {p : List MemPlace} (ht : P.underlying t = some (.slice e)) (hsz : P.cellsOf e = sz) (h0 : 0 < sz)
    (hv : ∃ a len cap, v = .slice a len cap) (h : DataW.Trod enc P w 0 (fun _ => true) held t v d p) :
    ∃ (A : Option Addr) (len cap : Nat), v = .slice A len cap ∧ len ≤ cap ∧ cap ≤ maxLen ∧
      (A = none ∧ len = 0 ∧ cap = 0 ∨ ∃ D S, d = .slice D S ∧ D.length = len ∧ D.length + S.length = cap) ∧
      ∀ i, i < len → ∃ (blk off : Nat) (cs : List Value) (n : Nat) (x : DataW H × List MemPlace), A = some ⟨blk, off, none⟩ ∧ blk < w.heap.size ∧ cs.length = sz ∧
        (∀ j v, cs[j]? = some v → w.cell? ⟨blk, off + i * sz + j, none⟩ = some v) ∧ DataW.trod enc P w 0 (fun _ => true) held n e cs = some x := by
  obtain ⟨A, len, cap, rfl⟩ := hv
  obtain ⟨fuel, hf⟩ := h
  have hc1 : (Value.slice A len cap).cells.toList = [Value.slice A len cap] := by simp [Value.cells]
  rw [hc1] at hf
  rcases open_slice ht hf with ⟨h1, h2⟩ | ⟨a, len', cap', m, n, D, Pl, h1, _, hl, hm, hmm, hx, hi⟩
  · simp only [List.cons.injEq, Value.slice.injEq, and_true] at h1
    obtain ⟨rfl, rfl, rfl⟩ := h1
    exact ⟨none, 0, 0, rfl, Nat.le_refl _, Nat.zero_le _, .inl ⟨rfl, rfl, rfl⟩, fun i hi => absurd hi (by omega)⟩
  · simp only [List.cons.injEq, Value.slice.injEq, and_true] at h1
    obtain ⟨rfl, rfl, rfl⟩ := h1
    simp only [if_true] at hmm
    simp only [Prod.mk.injEq] at hx
    refine ⟨some a, len, cap, rfl, hl, hm, .inr ⟨_, _, hx.1, by simp, by simp; omega⟩, fun i hlt => ?_⟩
    obtain ⟨cs, hcs, htr⟩ := hi i (by omega)
    rw [hsz] at hcs
    obtain ⟨_, hlen, hat⟩ := World.cells?_some hcs
    have hcell : ∀ j v, cs[j]? = some v → w.cell? (a.add (i * sz + j)) = some v := by
      intro j v hj
      have hjl : j < sz := by rw [← hlen]; exact (List.getElem?_eq_some_iff.1 hj).1
      have := hat j hjl
      rw [Go.Deep.add_add, hj] at this
      exact this
    have h00 : cs[0]? = some (cs[0]'(by omega)) := List.getElem?_eq_getElem (by omega)
    have hc0 := hcell 0 _ h00
    have hadd : ∀ k, (a.add k).block = a.block := fun k => by unfold Addr.add; split <;> rfl
    have hb : a.block < w.heap.size := by
      have hbl := World.block_lt_of_cell? _ _ hc0
      rw [hadd] at hbl
      exact hbl
    have hsp : a.spot = none := by
      obtain ⟨cs0, hcs0, _⟩ := hi 0 (by omega)
      rw [hsz] at hcs0
      obtain ⟨_, hlen0, hat0⟩ := World.cells?_some hcs0
      have e0 := hat0 0 h0
      rw [Go.Deep.add_add, List.getElem?_eq_getElem (by omega)] at e0
      have e1 : (a.add (0 * sz + 0)) = a := by simp [Addr.add]
      rw [e1] at e0
      have := cell_place e0
      exact congrArg Addr.spot this
    refine ⟨a.block, a.off, cs, n, _, ?_, hb, hlen, fun j v hj => ?_, htr⟩
    · obtain ⟨x, y, z⟩ := a
      simp only at hsp
      rw [hsp]
    · have := hcell j v hj
      have e : a.add (i * sz + j) = ⟨a.block, a.off + i * sz + j, none⟩ := by
        unfold Addr.add
        split
        · rename_i hz
          obtain ⟨x, y, z⟩ := a
          simp only at hsp
          subst hsp
          simp only [Addr.mk.injEq, and_true, true_and]
          omega
        · simp only [Addr.mk.injEq, and_true, true_and]
          omega
      rw [e] at this
      exact this

/-- A struct's row of cells, each field of one cell. -/
theorem fields_of {t : TypeId} {fs : Array Field} {cs : List Value} {fuel : Nat} {x : DataW H × List MemPlace} (hs : P.underlying t = some (.struct fs)) (hone : oneCellFields P fs = true) (hC : P.cellsOf t = fs.size)
    (h : DataW.trod enc P w base spare held fuel t cs = some x) :
    cs.length = fs.size ∧ ∀ (j : Nat) (f : Field), fs[j]? = some f → ∃ (c : Value) (y : DataW H × List MemPlace) (n : Nat), cs[j]? = some c ∧ DataW.trod enc P w base spare held n f.type [c] = some y := by
  obtain ⟨xs, n, _, _, hcl, hlen, hg⟩ := DataW.trod_struct hs h
  have hl : cs.length = fs.size := by rw [← hC]; exact hcl
  refine ⟨hl, fun j f hj => ?_⟩
  obtain ⟨ho, hk⟩ := hone_of hone j f hj
  have hjl : j < fs.size := (Array.getElem?_eq_some_iff.1 hj).1
  have h1 := hg j f hj
  rw [ho, hk, List.drop_eq_getElem_cons (by omega)] at h1
  simp only [List.take_succ_cons, List.take_zero] at h1
  exact ⟨cs[j]'(by omega), xs[j]'(by omega), n, List.getElem?_eq_getElem _, by rw [h1]; exact List.getElem?_eq_getElem _⟩
end
end Go.Proofs.YtbhihbhjmmeibaaGreat

/-
  Layer 17's laws: what comes in, opened.
-/
namespace Go.Proofs.YtbhihbhjmmeibaaGreat
open Go.ChangeShapes Go.WideShapes Go.ChangeAt Go.RowKit Go.Deep

/-- It answers, and nothing of w has turned. -/
abbrev AnsN (v : Value) (w : World) (e : Ending) (w' : World) : Prop := e = .returned v ∧ Only NoneOf w w'
theorem lawPost {f : FuncId} {args : Array Value} {w : World} (h : Calls Tryz.prog f args w (AnsN (.bool true) w)) : Calls Tryz.prog f args w (LawPost w) :=
  h.mono fun _ _ ⟨he, ho⟩ => ⟨he, ho.below (fun _ h => h.elim) (Nat.le_refl _)⟩

theorem list_of {α : Type} {P : Nat → α → Prop} : ∀ n : Nat, (∀ i, i < n → ∃ x, P i x) → ∃ s : List α, s.length = n ∧ ∀ i x, s[i]? = some x → P i x
  | 0, _ => ⟨[], rfl, fun i x h => by simp at h⟩
  | n + 1, h => by
    obtain ⟨s, hs, hp⟩ := list_of n (fun i hi => h i (by omega))
    obtain ⟨x, hx⟩ := h n (by omega)
    refine ⟨s ++ [x], by simp [hs], fun i y hy => ?_⟩
    by_cases hi : i < s.length
    · rw [List.getElem?_append_left hi] at hy; exact hp i y hy
    · have hil : i < (s ++ [x]).length := (List.getElem?_eq_some_iff.1 hy).1
      have : i = s.length := by simp at hil; omega
      subst this
      have e : y = x := by simpa using hy.symm
      rw [e, hs]; exact hx

section
variable {H : Type} {enc : TypeId × Value → H} {w : World} {held : Bool}

theorem field_bytes {n : Nat} {c : Value} {y : DataW H × List MemPlace} (h : DataW.trod enc Tryz.prog w 0 (fun _ => true) held n 45 [c] = some y) : ∃ A cap, ∃ bs : List UInt8, c = .slice A bs.length cap ∧ BytesAt w A bs := by
  have hs : ∃ a len cap, c = .slice a len cap := by
    rcases open_slice Tryz.underlying45 h with ⟨h1, _⟩ | ⟨a, len, cap, _, _, _, _, h1, _⟩
    · exact ⟨none, 0, 0, by simpa using h1⟩
    · exact ⟨some a, len, cap, by simpa using h1⟩
  obtain ⟨a, len, cap, rfl⟩ := hs
  obtain ⟨A, n', cap', hv, _, _, _, hi⟩ := open_elems (sz := 1) (v := .slice a len cap) Tryz.underlying45 (by kernel_rfl) (by omega) ⟨_, _, _, rfl⟩ ⟨n, by simpa [Value.cells] using h⟩
  injection hv with h1 h2 h3
  subst h1; subst h2; subst h3
  have hx : ∀ i, i < len → ∃ b : UInt8, ∃ g off, a = some ⟨g, off, none⟩ ∧ g < w.heap.size ∧ w.cell? ⟨g, off + i, none⟩ = some (byteV b) := by
    intro i hlt
    obtain ⟨blk, off, cs, m, y, hA, hb, hlen, hc, ht⟩ := hi i hlt
    match cs, hlen with
    | [c], _ =>
      obtain ⟨x, rfl, hw⟩ := field_int Tryz.underlying5 ht
      have hr : 0 ≤ x ∧ x ≤ 255 := by simpa [Lit.wf, IntKind.min, IntKind.max, IntKind.signed, IntKind.bits] using hw
      refine ⟨UInt8.ofNat x.toNat, blk, off, hA, hb, ?_⟩
      have h0 := hc 0 _ rfl
      rw [Nat.mul_one, Nat.add_zero] at h0
      rw [h0]
      have hn : (UInt8.ofNat x.toNat).toNat = x.toNat := by rw [UInt8.toNat_ofNat']; omega
      simp only [byteV, hn]
      congr 2
      omega
  obtain ⟨bs, hbs, hp⟩ := list_of len hx
  refine ⟨a, cap, bs, by rw [hbs], fun i c hc => ?_⟩
  obtain ⟨g, off, h1, h2, h3⟩ := hp i c hc
  exact ⟨g, off, h1, h2, h3⟩

/-- four cells of a version -/
theorem ver_cells {n : Nat} {cs : List Value} {x : DataW H × List MemPlace} (h : DataW.trod enc Tryz.prog w 0 (fun _ => true) held n 47 cs = some x) :
    ∃ (key : ByteArray) (st : Int) (A : Option Addr) (cap : Nat) (bs : List UInt8) (dead : Bool), cs = [.string key, .int .i64 st, .slice A bs.length cap, .bool dead] ∧ key.size ≤ maxLen ∧ BytesAt w A bs := by
  obtain ⟨hl, hf⟩ := fields_of Tryz.underlying47 (by kernel_rfl) (by kernel_rfl) h
  obtain ⟨c0, _, _, h0, t0⟩ := hf 0 _ rfl
  obtain ⟨c1, _, _, h1, t1⟩ := hf 1 _ rfl
  obtain ⟨c2, _, _, h2, t2⟩ := hf 2 _ rfl
  obtain ⟨c3, _, _, h3, t3⟩ := hf 3 _ rfl
  obtain ⟨key, rfl, hk⟩ := field_string Tryz.underlying9 t0
  obtain ⟨st, rfl, _⟩ := field_int Tryz.underlying3 t1
  obtain ⟨A, cap, bs, rfl, hb⟩ := field_bytes t2
  obtain ⟨dead, rfl⟩ := field_bool Tryz.underlying4 t3
  refine ⟨key, st, A, cap, bs, dead, ?_, hk, hb⟩
  have hl4 : cs.length = 4 := hl
  match cs, hl4 with
  | [a, b, c, d], _ =>
    simp only [List.getElem?_cons_zero, List.getElem?_cons_succ, Option.some.injEq] at h0 h1 h2 h3
    rw [h0, h1, h2, h3]

/-- a list of versions in memory -/
def VersAt (w : World) (A : Option Addr) (xs : List KV) : Prop := ∀ (i : Nat) (x : KV), xs[i]? = some x → ∃ g off Ab cap, A = some ⟨g, off, none⟩ ∧ g < w.heap.size ∧ w.cell? ⟨g, off + i * 4, none⟩ = some (.string x.1) ∧ w.cell? ⟨g, off + i * 4 + 1, none⟩ = some (.int .i64 x.2.st) ∧
    w.cell? ⟨g, off + i * 4 + 2, none⟩ = some (.slice Ab x.2.bs.length cap) ∧ w.cell? ⟨g, off + i * 4 + 3, none⟩ = some (.bool x.2.dead) ∧ BytesAt w Ab x.2.bs ∧ x.1.size ≤ maxLen

theorem VersAt.keep {w w' : World} {A : Option Addr} {xs : List KV} (h : VersAt w A xs) (ho : Only NoneOf w w') : VersAt w' A xs := fun i x hx => by
  obtain ⟨g, off, Ab, cap, hA, h0, h1, h2, h3, h4, h5, h6⟩ := h i x hx
  have hc := fun j => ho.cell (p := ⟨g, j, none⟩) h0 (fun h => h)
  exact ⟨g, off, Ab, cap, hA, Nat.lt_of_lt_of_le h0 ho.size, (hc _).trans h1, (hc _).trans h2, (hc _).trans h3, (hc _).trans h4, h5.keep ho, h6⟩

theorem open_vers {v : Value} {d : DataW H} {p : List MemPlace} (hv : ∃ a len cap, v = .slice a len cap) (h : DataW.Trod enc Tryz.prog w 0 (fun _ => true) held 23 v d p) :
    ∃ A cap, ∃ s : List KV, v = .slice A s.length cap ∧ (A = none ∧ s.length = 0 ∧ cap = 0 ∨ ∃ D S, d = .slice D S ∧ D.length = s.length ∧ D.length + S.length = cap) ∧ VersAt w A s := by
  obtain ⟨A, n, cap, rfl, hl, hm, hdd, hi⟩ := open_elems (sz := 4) Tryz.underlying23 (by kernel_rfl) (by omega) hv h
  have hx : ∀ i, i < n → ∃ x : KV, ∃ g off Ab cap', A = some ⟨g, off, none⟩ ∧ g < w.heap.size ∧ w.cell? ⟨g, off + i * 4, none⟩ = some (.string x.1) ∧ w.cell? ⟨g, off + i * 4 + 1, none⟩ = some (.int .i64 x.2.st) ∧
    w.cell? ⟨g, off + i * 4 + 2, none⟩ = some (.slice Ab x.2.bs.length cap') ∧ w.cell? ⟨g, off + i * 4 + 3, none⟩ = some (.bool x.2.dead) ∧ BytesAt w Ab x.2.bs ∧ x.1.size ≤ maxLen := by
    intro i hlt
    obtain ⟨blk, off, cs, m, x, hA, hb, hlen, hc, ht⟩ := hi i hlt
    obtain ⟨key, st, Ab, cap', bs, dead, rfl, hk, hby⟩ := ver_cells ht
    exact ⟨(key, ⟨st, bs, dead⟩), blk, off, Ab, cap', hA, hb, hc 0 _ rfl, hc 1 _ rfl, hc 2 _ rfl, hc 3 _ rfl, hby, hk⟩
  obtain ⟨s, hs, hp⟩ := list_of n hx
  subst hs
  exact ⟨A, cap, s, rfl, hdd, hp⟩


/-- a step of a script -/
structure Stx where
  kind : Int
  place : Int
  n : Int
  key : ByteArray
  tt : ByteArray
  vk : ByteArray
  st : Int
  bs : List UInt8
  dead : Bool
  none : Bool
/-- a step's cells at a place -/
def StxAt (w : World) (g o : Nat) (x : Stx) (A : Option Addr) (cap : Nat) : Prop :=
  g < w.heap.size ∧ (w.cell? ⟨g, o, none⟩ = some (.int .i64 x.kind) ∧ w.cell? ⟨g, o + 1, none⟩ = some (.int .i64 x.place) ∧ w.cell? ⟨g, o + 2, none⟩ = some (.int .i64 x.n) ∧ w.cell? ⟨g, o + 3, none⟩ = some (.string x.key) ∧ w.cell? ⟨g, o + 4, none⟩ = some (.string x.tt) ∧
    w.cell? ⟨g, o + 5, none⟩ = some (.string x.vk) ∧ w.cell? ⟨g, o + 6, none⟩ = some (.int .i64 x.st) ∧ w.cell? ⟨g, o + 7, none⟩ = some (.slice A x.bs.length cap) ∧ w.cell? ⟨g, o + 8, none⟩ = some (.bool x.dead) ∧ w.cell? ⟨g, o + 9, none⟩ = some (.bool x.none)) ∧ BytesAt w A x.bs ∧ x.key.size ≤ maxLen ∧ x.tt.size ≤ maxLen ∧ x.vk.size ≤ maxLen
/-- a script in memory -/
def StxsAt (w : World) (A : Option Addr) (xs : List Stx) : Prop := ∀ (i : Nat) (x : Stx), xs[i]? = some x → ∃ g off Ab cap, A = some ⟨g, off, none⟩ ∧ StxAt w g (off + i * 10) x Ab cap
theorem StxsAt.keep {w w' : World} {A : Option Addr} {xs : List Stx} (h : StxsAt w A xs) (ho : Only NoneOf w w') : StxsAt w' A xs := fun i x hx => by
  obtain ⟨g, off, Ab, cap, hA, h0, ⟨h1, h2, h3, h4, h5, h6, h7, h8, h9, h10⟩, h11, h12⟩ := h i x hx
  have hc := fun j => ho.cell (p := ⟨g, j, none⟩) h0 (fun h => h)
  exact ⟨g, off, Ab, cap, hA, Nat.lt_of_lt_of_le h0 ho.size, ⟨(hc _).trans h1, (hc _).trans h2, (hc _).trans h3, (hc _).trans h4, (hc _).trans h5, (hc _).trans h6, (hc _).trans h7, (hc _).trans h8, (hc _).trans h9, (hc _).trans h10⟩, h11.keep ho, h12⟩

theorem open_stxs {v : Value} {d : DataW H} {p : List MemPlace} (hv : ∃ a len cap, v = .slice a len cap) (h : DataW.Trod enc Tryz.prog w 0 (fun _ => true) held 38 v d p) :
    ∃ A cap, ∃ s : List Stx, v = .slice A s.length cap ∧ (A = none ∧ s.length = 0 ∧ cap = 0 ∨ ∃ D S, d = .slice D S ∧ D.length = s.length ∧ D.length + S.length = cap) ∧ StxsAt w A s := by
  obtain ⟨A, n, cap, rfl, hl, hm, hdd, hi⟩ := open_elems (sz := 10) Tryz.underlying38 (by kernel_rfl) (by omega) hv h
  have hx : ∀ i, i < n → ∃ x : Stx, ∃ g off Ab cap', A = some ⟨g, off, none⟩ ∧ StxAt w g (off + i * 10) x Ab cap' := by
    intro i hlt
    obtain ⟨blk, off, cs, m, x, hA, hb, hlen, hc, ht⟩ := hi i hlt
    match cs, hlen with
    | [k0, k1, k2, k3, k4, k5, k6, k7, k8, k9], _ =>
      obtain ⟨xs, n', _, _, hcl, hxl, hg⟩ := DataW.trod_struct Tryz.underlying49 ht
      have e3 : Tryz.prog.cellsOf 3 = 1 := by kernel_rfl
      have e31 : Tryz.prog.cellsOf 47 = 4 := by kernel_rfl
      have e9 : Tryz.prog.cellsOf 9 = 1 := by kernel_rfl
      have e4 : Tryz.prog.cellsOf 4 = 1 := by kernel_rfl
      have g0 : DataW.trod enc Tryz.prog w 0 (fun _ => true) held n' 3 (([k0, k1, k2, k3, k4, k5, k6, k7, k8, k9].drop 0).take (Tryz.prog.cellsOf 3)) = xs[0]? := hg 0 _ rfl
      have g1 : DataW.trod enc Tryz.prog w 0 (fun _ => true) held n' 3 (([k0, k1, k2, k3, k4, k5, k6, k7, k8, k9].drop 1).take (Tryz.prog.cellsOf 3)) = xs[1]? := hg 1 _ rfl
      have g2 : DataW.trod enc Tryz.prog w 0 (fun _ => true) held n' 3 (([k0, k1, k2, k3, k4, k5, k6, k7, k8, k9].drop 2).take (Tryz.prog.cellsOf 3)) = xs[2]? := hg 2 _ rfl
      have g3 : DataW.trod enc Tryz.prog w 0 (fun _ => true) held n' 9 (([k0, k1, k2, k3, k4, k5, k6, k7, k8, k9].drop 3).take (Tryz.prog.cellsOf 9)) = xs[3]? := hg 3 _ rfl
      have g4 : DataW.trod enc Tryz.prog w 0 (fun _ => true) held n' 9 (([k0, k1, k2, k3, k4, k5, k6, k7, k8, k9].drop 4).take (Tryz.prog.cellsOf 9)) = xs[4]? := hg 4 _ rfl
      have g5 : DataW.trod enc Tryz.prog w 0 (fun _ => true) held n' 47 (([k0, k1, k2, k3, k4, k5, k6, k7, k8, k9].drop 5).take (Tryz.prog.cellsOf 47)) = xs[5]? := hg 5 _ rfl
      have g6 : DataW.trod enc Tryz.prog w 0 (fun _ => true) held n' 4 (([k0, k1, k2, k3, k4, k5, k6, k7, k8, k9].drop 9).take (Tryz.prog.cellsOf 4)) = xs[6]? := hg 6 _ rfl
      rw [e3] at g0 g1 g2
      rw [e9] at g3 g4
      rw [e31] at g5
      rw [e4] at g6
      simp only [List.drop_succ_cons, List.drop_zero, List.take_succ_cons, List.take_zero] at g0 g1 g2 g3 g4 g5 g6
      have hx3 : xs.length = 7 := hxl
      match xs, hx3 with
      | [x0, x1, x2, x3, x4, x5, x6], _ =>
        obtain ⟨kind, rfl, _⟩ := field_int Tryz.underlying3 g0
        obtain ⟨place, rfl, _⟩ := field_int Tryz.underlying3 g1
        obtain ⟨nn, rfl, _⟩ := field_int Tryz.underlying3 g2
        obtain ⟨key, rfl, hk⟩ := field_string Tryz.underlying9 g3
        obtain ⟨tt, rfl, ht'⟩ := field_string Tryz.underlying9 g4
        obtain ⟨vk, st, Ab, cap', bs, dead, hcs, hvk, hby⟩ := ver_cells g5
        obtain ⟨non, rfl⟩ := field_bool Tryz.underlying4 g6
        simp only [List.cons.injEq, and_true] at hcs
        obtain ⟨rfl, rfl, rfl, rfl⟩ := hcs
        exact ⟨⟨kind, place, nn, key, tt, vk, st, bs, dead, non⟩, blk, off, Ab, cap', hA, hb, ⟨hc 0 _ rfl, hc 1 _ rfl, hc 2 _ rfl, hc 3 _ rfl, hc 4 _ rfl, hc 5 _ rfl, hc 6 _ rfl, hc 7 _ rfl, hc 8 _ rfl, hc 9 _ rfl⟩, hby, hk, ht', hvk⟩
  obtain ⟨s, hs, hp⟩ := list_of n hx
  subst hs
  exact ⟨A, cap, s, rfl, hdd, hp⟩

/-- an Account's numbers by value -/
theorem open_acc {base : Nat} {spare : Nat → Bool} {v : Value} {d : DataW H} {p : List MemPlace} (hv : ∃ cs, v = .agg cs ∧ cs.size = Tryz.prog.cellsOf 44) (h : DataW.Trod enc Tryz.prog w base spare held 44 v d p) : ∃ q o x y z, v = .agg #[.int .i64 q, .int .i64 o, .int .i64 x, .int .i64 y, .int .i64 z] := by
  obtain ⟨cs, rfl, hl, hf⟩ := open_fields Tryz.underlying44 (by kernel_rfl) (by kernel_rfl) hv h
  match cs, hl with
  | [c0, c1, c2, c3, c4], _ =>
    obtain ⟨x0, y0, n0, e0, h0⟩ := hf 0 _ rfl
    obtain ⟨x1, y1, n1, e1, h1⟩ := hf 1 _ rfl
    obtain ⟨x2, y2, n2, e2, h2⟩ := hf 2 _ rfl
    obtain ⟨x3, y3, n3, e3, h3⟩ := hf 3 _ rfl
    obtain ⟨x4, y4, n4, e4, h4⟩ := hf 4 _ rfl
    obtain ⟨a0, rfl, _⟩ := field_int Tryz.underlying3 h0
    obtain ⟨a1, rfl, _⟩ := field_int Tryz.underlying3 h1
    obtain ⟨a2, rfl, _⟩ := field_int Tryz.underlying3 h2
    obtain ⟨a3, rfl, _⟩ := field_int Tryz.underlying3 h3
    obtain ⟨a4, rfl, _⟩ := field_int Tryz.underlying3 h4
    simp at e0 e1 e2 e3 e4
    subst e0 e1 e2 e3 e4
    exact ⟨a0, a1, a2, a3, a4, rfl⟩
end

theorem open_value {H : Type} {enc : TypeId × Value → H} {w : World} {held : Bool} {v : Value} {d : DataW H} {p : List MemPlace} (hv : ∃ a len cap, v = .slice a len cap) (h : DataW.Trod enc Tryz.prog w 0 (fun _ => true) held 45 v d p) :
    ∃ A cap, ∃ bs : List UInt8, v = .slice A bs.length cap ∧ (A = none ∧ bs.length = 0 ∧ cap = 0 ∨ ∃ D S, d = .slice D S ∧ D.length = bs.length ∧ D.length + S.length = cap) ∧ BytesAt w A bs := by
  obtain ⟨A, n, cap, rfl, hl, _, hdd, hi⟩ := open_elems (sz := 1) Tryz.underlying45 (by kernel_rfl) (by omega) hv h
  have hx : ∀ i, i < n → ∃ b : UInt8, ∃ g off, A = some ⟨g, off, none⟩ ∧ g < w.heap.size ∧ w.cell? ⟨g, off + i, none⟩ = some (byteV b) := by
    intro i hlt
    obtain ⟨blk, off, cs, m, y, hA, hb, hlen, hc, ht⟩ := hi i hlt
    match cs, hlen with
    | [c], _ =>
      obtain ⟨x, rfl, hw⟩ := field_int Tryz.underlying5 ht
      have hr : 0 ≤ x ∧ x ≤ 255 := by simpa [Lit.wf, IntKind.min, IntKind.max, IntKind.signed, IntKind.bits] using hw
      refine ⟨UInt8.ofNat x.toNat, blk, off, hA, hb, ?_⟩
      have h0 := hc 0 _ rfl
      rw [Nat.mul_one, Nat.add_zero] at h0
      rw [h0]
      have hn : (UInt8.ofNat x.toNat).toNat = x.toNat := by rw [UInt8.toNat_ofNat']; omega
      simp only [byteV, hn]
      congr 2
      omega
  obtain ⟨bs, hbs, hp⟩ := list_of n hx
  subst hbs
  exact ⟨A, cap, bs, rfl, hdd, fun i c hc => by
    obtain ⟨g, off, h1, h2, h3⟩ := hp i c hc
    exact ⟨g, off, h1, h2, h3⟩⟩

theorem vers_few {H : Type} {ts : List TypeId} {ds : List (DataW H)} {A : Option Addr} {n cap : Nat} {d : DataW H} (j : Nat) (h : (DataW.weightsEach Tryz.prog ts ds).all (· ≤ reachBytes) = true) (ht : ts[j]? = some 23) (hj : ds[j]? = some d)
    (hd : A = none ∧ n = 0 ∧ cap = 0 ∨ ∃ D S, d = .slice D S ∧ D.length = n ∧ D.length + S.length = cap) : n ≤ 2513169434843 := by
  rcases hd with ⟨_, h0, _⟩ | ⟨D, S, rfl, hD, _⟩
  · omega
  · have := sized_slice h ht hj Tryz.underlying23
    rw [show Tryz.prog.bytesOf 47 = 56 by kernel_rfl] at this
    unfold reachBytes at this
    omega

theorem stxs_few {H : Type} {ts : List TypeId} {ds : List (DataW H)} {A : Option Addr} {n cap : Nat} {d : DataW H} (j : Nat) (h : (DataW.weightsEach Tryz.prog ts ds).all (· ≤ reachBytes) = true) (ht : ts[j]? = some 38) (hj : ds[j]? = some d)
    (hd : A = none ∧ n = 0 ∧ cap = 0 ∨ ∃ D S, d = .slice D S ∧ D.length = n ∧ D.length + S.length = cap) : n ≤ 1759218604390 := by
  rcases hd with ⟨_, h0, _⟩ | ⟨D, S, rfl, hD, _⟩
  · omega
  · have := sized_slice h ht hj Tryz.underlying38
    rw [show Tryz.prog.bytesOf 49 = 120 by kernel_rfl] at this
    unfold reachBytes at this
    omega

end Go.Proofs.YtbhihbhjmmeibaaGreat

