/-
  Layer 14's law StoreWalk walked.
-/
import Derived.Test.YtnonnencdhogiaaStoreWalkX3
namespace Go.Proofs.Ytnonnencdhogiaa
open Go.RowKit Go.Shelf
attribute [local go_sem] Oper.semAt_some

set_option maxRecDepth 100000 in
set_option maxHeartbeats 8000000 in
theorem walk_walk (A : Option Addr) (cap : Nat) (vs : List KV) (st at_ stop : Int) (A3 : Option Addr) (cap3 : Nat) (xs : List Stp) (w : World)
    (hV : VersAt w A vs) (hX : StepsAt w A3 xs) (hfew : vs.length + xs.length ≤ 2513169434843) :
    Calls Try.prog 9 #[.slice A vs.length cap, .int .i64 st, .int .i64 at_, .int .i64 stop, .slice A3 xs.length cap3] w (Ans (.bool true) w) := by
  have HV := Lib.hid hV
  have HX := Lib.hid hX
  obtain ⟨n, hn⟩ : ∃ n, xs.length = n := ⟨_, rfl⟩
  have HN := Lib.hid hn
  rw [hn] at hfew ⊢
  obtain ⟨nv, hnv⟩ : ∃ nv, vs.length = nv := ⟨_, rfl⟩
  have HNV := Lib.hid hnv
  rw [hnv] at hfew ⊢
  clear hV hX hn hnv
  have HFX := fun u => Lib.hid (fixed_is u)
  have hfn := func_nil62
  refine callsIn_wide (n := 1).1 (callsIn_of_wp_marks Try.func9 rfl trivial ?_ rfl)
  simp only [Try.ntmps9, List.size_toArray, List.length_cons, List.length_nil, Nat.reduceAdd, Nat.reduceSub, Array.replicate_succ, Array.replicate_zero, List.push_toArray, List.append_toArray, List.nil_append, List.cons_append]
  gi_wp2_with fail
  obtain ⟨W0, hW0⟩ : ∃ W0, ((((w.alloc (.cells #[.int .i64 at_] 3)).alloc (.cells #[.int .i64 stop] 3)).alloc (.cells #[.slice A3 n cap3] 23)).alloc (.cells #[.bool false] 4)) = W0 := ⟨_, rfl⟩
  have HO0 := Lib.hid (show Only NoneOf w W0 by rw [← hW0]; exact ((((Only.refl _ _).alloc _).alloc _).alloc _).alloc _)
  have K0 : Kc W0 [(w.heap.size + 1 + 1 + 1, 4, #[.bool false]), (w.heap.size + 1 + 1, 23, #[.slice A3 n cap3]), (w.heap.size + 1, 3, #[.int .i64 stop]), (w.heap.size, 3, #[.int .i64 at_])] := by
    rw [← hW0]
    exact ((((Kc.nil _).cons ((((Blk.new w 3 #[.int .i64 at_]).alloc (.cells #[.int .i64 stop] 3)).alloc (.cells #[.slice A3 n cap3] 23)).alloc (.cells #[.bool false] 4))).cons
      (((Blk.new' (w.alloc (.cells #[.int .i64 at_] 3)) 3 #[.int .i64 stop] (n := w.heap.size + 1) (by simp)).alloc (.cells #[.slice A3 n cap3] 23)).alloc (.cells #[.bool false] 4))).cons
      ((Blk.new' ((w.alloc (.cells #[.int .i64 at_] 3)).alloc (.cells #[.int .i64 stop] 3)) 23 #[.slice A3 n cap3] (n := w.heap.size + 1 + 1) (by simp)).alloc (.cells #[.bool false] 4))).cons
      (Blk.new' (((w.alloc (.cells #[.int .i64 at_] 3)).alloc (.cells #[.int .i64 stop] 3)).alloc (.cells #[.slice A3 n cap3] 23)) 4 #[.bool false] (n := w.heap.size + 1 + 1 + 1) (by simp))
  have hz0 : W0.heap.size = w.heap.size + 4 := by rw [← hW0]; simp
  rw [hW0]
  have HK0 := Lib.hid K0
  clear hW0 K0
  refine ⟨trivial, (callsIn_wide.2 (HFX _).out).mono ?_⟩; rintro e w1 ⟨rfl, ho1⟩
  have HO1 := Lib.hid (HO0.out.trans ho1)
  have HK1 := Lib.hid (HK0.out.only ho1)
  have hz1 := ho1.size
  have HF1 := filled_is w1 A cap vs NoneOf (HV.out.keep HO1.out) (by rw [HNV.out]; omega) (fun _ h => h.elim)
  rw [HNV.out] at HF1
  replace HF1 := Lib.hid HF1
  clear ho1 HK0 HFX HV
  gi_wp2_with fail
  refine ⟨trivial, (callsIn_wide.2 HF1.out).mono ?_⟩; rintro e w2 ⟨s, T1, rfl, h1, ho2, ht1⟩
  obtain ⟨R, hR⟩ : ∃ R, fillR vs = R := ⟨_, rfl⟩
  rw [hR] at h1
  rw [HNV.out] at h1
  have hsl := h1.at
  have HT1 := Lib.hid (fun k (hk : T1 k) => (⟨ht1 k hk, h1.lt hk⟩ : w1.heap.size ≤ k ∧ k < w2.heap.size))
  have HS2 := Lib.hid h1
  have HO2 := Lib.hid (HO1.out.trans ho2)
  have HK2 := Lib.hid (HK1.out.only ho2)
  have hz2 := ho2.size
  clear h1 ho2 ht1 HF1 hR HK1 HNV HO1 HO0
  gi_wp2_with fail
  have HW2 := Lib.hid ((Only.refl NoneOf w2).alloc (.cells #[.pointer (some ⟨s, 0, none⟩)] 24))
  have hz3 : (w2.alloc (.cells #[.pointer (some ⟨s, 0, none⟩)] 24)).heap.size = w2.heap.size + 1 := by simp
  have HB3 := Lib.hid (Blk.new w2 24 #[.pointer (some ⟨s, 0, none⟩)])
  generalize w2.alloc (.cells #[.pointer (some ⟨s, 0, none⟩)] 24) = w3 at *
  refine ⟨trivial, (callsIn_wide.2 (scannedR w3 s nv T1 NoneOf R (HS2.out.keep HW2.out) (by unfold NMAX; omega) ⟨#[]⟩ ⟨#[]⟩ st)).mono ?_⟩
  rintro e w4 ⟨v, rs, rfl, hr, hpl, ho4⟩
  have hrl : rs.length = (scanR R ⟨#[]⟩ ⟨#[]⟩ st).length := by rw [← hpl, List.length_map]
  obtain ⟨Aw, cw, rfl⟩ := ownsRow_slice hr.own
  rw [hrl] at hr ⊢
  have HPI := PIn.of hr hpl
  have HO4 := Lib.hid ho4
  have hz4 := ho4.size
  obtain ⟨L, hL⟩ : ∃ L, scanR R ⟨#[]⟩ ⟨#[]⟩ st = L := ⟨_, rfl⟩
  rw [hL] at HPI ⊢
  replace HPI := Lib.hid HPI
  have HL := Lib.hid hL
  have hLb : L.length ≤ nv := by
    have h1 : (scanR R ⟨#[]⟩ ⟨#[]⟩ st).length ≤ (keysR R).length := List.length_filterMap_le _ _
    have h2 := keysR_length R
    have h3 := HS2.out.len
    rw [hL] at h1
    omega
  have HFITL : Hid (∀ p ∈ L, p.2.length ≤ 4611686018427387904) := Lib.hid fun p hp => by
    rw [← hL] at hp
    obtain ⟨y, hy, e⟩ := found_mem (scan_get hp)
    have := HS2.out.good.bs _ (verR_mem.1 hy)
    rw [← e]
    simp only at this
    omega
  obtain ⟨nl, hnl⟩ : ∃ nl, L.length = nl := ⟨_, rfl⟩
  have HNL := Lib.hid hnl
  rw [hnl] at hLb ⊢
  clear hr hpl ho4 hL hrl hnl
  have HB4 := Lib.hid ((HB3.out.only HO4.out (fun h => h)).alloc (.cells #[.slice Aw nl cw] 30))
  have c11 := HB4.out.cellv 0 rfl
  gi_wp2_with fail
  have HW4 := Lib.hid ((Only.refl NoneOf w4).alloc (.cells #[.slice Aw nl cw] 30))
  have hz5 : (w4.alloc (.cells #[.slice Aw nl cw] 30)).heap.size = w4.heap.size + 1 := by simp
  have HB5 := Lib.hid (Blk.new w4 30 #[.slice Aw nl cw])
  generalize w4.alloc (.cells #[.slice Aw nl cw] 30) = w5 at *
  refine ⟨trivial, (callsIn_wide.2 (scan_is w5 _ ⟨#[]⟩ ⟨#[]⟩ st)).mono ?_⟩
  rintro e w6 ⟨rfl, hw6⟩
  have HK6 : Hid (Kc w6 [(w5.heap.size + 1 + 2, 3, #[.int .i64 st]), (w5.heap.size + 1 + 1, 9, #[.string ⟨#[]⟩]), (w5.heap.size + 1, 9, #[.string ⟨#[]⟩]), (w5.heap.size, 24, #[.pointer (some ⟨s, 0, none⟩)])]) := by
    subst hw6
    exact Lib.hid (((((Kc.nil _).cons ((((Blk.new w5 24 #[.pointer (some ⟨s, 0, none⟩)]).alloc (.cells #[.string ⟨#[]⟩] 9)).alloc (.cells #[.string ⟨#[]⟩] 9)).alloc (.cells #[.int .i64 st] 3))).cons
      (((Blk.new' (w5.alloc (.cells #[.pointer (some ⟨s, 0, none⟩)] 24)) 9 #[.string ⟨#[]⟩] (n := w5.heap.size + 1) (by simp)).alloc (.cells #[.string ⟨#[]⟩] 9)).alloc (.cells #[.int .i64 st] 3))).cons
      ((Blk.new' ((w5.alloc (.cells #[.pointer (some ⟨s, 0, none⟩)] 24)).alloc (.cells #[.string ⟨#[]⟩] 9)) 9 #[.string ⟨#[]⟩] (n := w5.heap.size + 1 + 1) (by simp)).alloc (.cells #[.int .i64 st] 3))).cons
      (Blk.new' (((w5.alloc (.cells #[.pointer (some ⟨s, 0, none⟩)] 24)).alloc (.cells #[.string ⟨#[]⟩] 9)).alloc (.cells #[.string ⟨#[]⟩] 9)) 3 #[.int .i64 st] (n := w5.heap.size + 1 + 2) (by simp)))
  have HW5 : Hid (Only NoneOf w5 w6) := by subst hw6; exact Lib.hid ((((((Only.refl _ _).alloc _).alloc _).alloc _).alloc _))
  have hz6 : w6.heap.size = w5.heap.size + 4 := by subst hw6; simp [scanBoxes]
  have HB6a := Lib.hid (HB4.out.only HW5.out (fun h => h))
  have HB6b := Lib.hid (HB5.out.only HW5.out (fun h => h))
  clear hw6 c11 HB4 HB5 HB3
  gi_wp2_with fail
  have hz7 : (w6.alloc (.cells #[.int .i64 0] 3)).heap.size = w4.heap.size + 1 + 4 + 1 := by simp; omega
  have HW7 := Lib.hid ((Only.refl NoneOf w6).alloc (.cells #[.int .i64 0] 3))
  have HB7 := Lib.hid (Blk.new' w6 3 #[.int .i64 0] (n := w4.heap.size + 1 + 4) (by omega))
  generalize w6.alloc (.cells #[.int .i64 0] 3) = W7 at *
  have HO24 := Lib.hid (((HW2.out.trans HO4.out).trans HW4.out).trans HW5.out)
  have K7 := Lib.hid ((show Kc W7 ([(w5.heap.size + 1 + 2, 3, #[.int .i64 st]), (w5.heap.size + 1 + 1, 9, #[.string ⟨#[]⟩]), (w5.heap.size + 1, 9, #[.string ⟨#[]⟩]), (w5.heap.size, 24, #[.pointer (some ⟨s, 0, none⟩)]), (w4.heap.size, 30, #[.slice Aw nl cw]), (w2.heap.size, 24, #[.pointer (some ⟨s, 0, none⟩)]),
      (w.heap.size + 1 + 1 + 1, 4, #[.bool false]), (w.heap.size + 1 + 1, 23, #[.slice A3 n cap3]), (w.heap.size + 1, 3, #[.int .i64 stop]), (w.heap.size, 3, #[.int .i64 at_])] : List Cl) from fun c hc => by
    have h6 := HK6.out.only HW7.out
    have h2 := HK2.out.only (HO24.out.trans HW7.out)
    have ha := HB6a.out.only HW7.out (fun h => h)
    have hb := HB6b.out.only HW7.out (fun h => h)
    simp only [List.mem_cons, List.not_mem_nil, or_false] at hc
    rcases hc with rfl | rfl | rfl | rfl | rfl | rfl | rfl | rfl | rfl | rfl
    · exact h6.get 0 rfl
    · exact h6.get 1 rfl
    · exact h6.get 2 rfl
    · exact h6.get 3 rfl
    · exact hb
    · exact ha
    · exact h2.get 0 rfl
    · exact h2.get 1 rfl
    · exact h2.get 2 rfl
    · exact h2.get 3 rfl))
  rw [hz5] at K7
  have HCL : Hid (∀ c ∈ ([(w4.heap.size + 1 + 1 + 2, 3, #[.int .i64 st]), (w4.heap.size + 1 + 1 + 1, 9, #[.string ⟨#[]⟩]), (w4.heap.size + 1 + 1, 9, #[.string ⟨#[]⟩]), (w4.heap.size + 1, 24, #[.pointer (some ⟨s, 0, none⟩)]), (w4.heap.size, 30, #[.slice Aw nl cw]), (w2.heap.size, 24, #[.pointer (some ⟨s, 0, none⟩)]),
      (w.heap.size + 1 + 1 + 1, 4, #[.bool false]), (w.heap.size + 1 + 1, 23, #[.slice A3 n cap3]), (w.heap.size + 1, 3, #[.int .i64 stop]), (w.heap.size, 3, #[.int .i64 at_])] : List Cl), (c.1 < w1.heap.size ∨ w2.heap.size ≤ c.1) ∧ c.1 < w4.heap.size + 1 + 4) := Lib.hid (by
    intro c hc
    simp only [List.mem_cons, List.not_mem_nil, or_false] at hc
    rcases hc with rfl | rfl | rfl | rfl | rfl | rfl | rfl | rfl | rfl | rfl <;> simp only <;> omega)
  have HS7 := Lib.hid (HS2.out.other (U' := fun k => w2.heap.size ≤ k ∧ k < W7.heap.size) (HO24.out.trans HW7.out) (fun _ h => h.elim) (fun k hk => ⟨hk.2, .inr hk.1⟩))
  have HPI7 := Lib.hid (((HPI.out.only HW4.out (fun _ _ _ h => h)).only HW5.out (fun _ _ _ h => h)).only HW7.out (fun _ _ _ h => h))
  have HO7 := Lib.hid (HO2.out.trans (HO24.out.trans HW7.out))
  have hbn : w2.heap.size ≤ w4.heap.size + 1 + 4 ∧ w4.heap.size + 1 + 4 < W7.heap.size := ⟨by omega, by omega⟩
  generalize hcs : ([(w4.heap.size + 1 + 1 + 2, 3, #[.int .i64 st]), (w4.heap.size + 1 + 1 + 1, 9, #[.string ⟨#[]⟩]), (w4.heap.size + 1 + 1, 9, #[.string ⟨#[]⟩]), (w4.heap.size + 1, 24, #[.pointer (some ⟨s, 0, none⟩)]), (w4.heap.size, 30, #[.slice Aw nl cw]), (w2.heap.size, 24, #[.pointer (some ⟨s, 0, none⟩)]),
      (w.heap.size + 1 + 1 + 1, 4, #[.bool false]), (w.heap.size + 1 + 1, 23, #[.slice A3 n cap3]), (w.heap.size + 1, 3, #[.int .i64 stop]), (w.heap.size, 3, #[.int .i64 at_])] : List Cl) = cs at *
  have HCS := Lib.hid hcs
  have hz24 : w2.heap.size ≤ w4.heap.size := by omega
  have hz37 : w3.heap.size = w2.heap.size + 1 := hz3
  have hlohi : w2.heap.size ≤ w3.heap.size ∧ w4.heap.size ≤ w4.heap.size + 1 + 4 ∧ w1.heap.size ≤ w2.heap.size := ⟨by omega, by omega, by omega⟩
  have HZ7 := Lib.hid hz7
  have hne8 : w.heap.size + 1 < w4.heap.size := by omega
  have HZ0 := Lib.hid (show w.heap.size + 4 ≤ w1.heap.size by omega)
  clear hz7 hz6 hz5 hz4 hz3 hz2 hz1 hz0 hz24 hz37
  clear hcs HK6 HK2 HB6a HB6b HPI HW2 HO4 HW4 HW5 HW7 HO24 HS2 HO2
  refine cut_block ({ tmps := #[.slice A nv cap, .int .i64 st, .int .i64 at_, .int .i64 stop, .slice A3 n cap3, undef, undef, .pointer (some ⟨w.heap.size, 0, none⟩), .pointer (some ⟨w.heap.size + 1, 0, none⟩), .pointer (some ⟨w.heap.size + 1 + 1, 0, none⟩), .pointer (some ⟨w.heap.size + 1 + 1 + 1, 0, none⟩), .pointer (some ⟨w2.heap.size, 0, none⟩), .pointer (some ⟨w4.heap.size, 0, none⟩), .func (.func 56) #[] (scanFn (w4.heap.size + 1)), .pointer (some ⟨w4.heap.size + 1 + 4, 0, none⟩), undef, undef, undef, undef, undef, .bool true, .bool false, .slice A nv cap, .pointer (some ⟨s, 0, none⟩), .pointer (some ⟨s, 0, none⟩), .int .i64 st, .slice Aw nl cw, .pointer (some ⟨s, 0, none⟩), .int .i64 st, .func (.func 56) #[] (scanFn (w4.heap.size + 1)), .func (.func 56) #[] (scanFn (w4.heap.size + 1)), .bool false, .func (.func 56) #[] (scanFn (w4.heap.size + 1)), undef, undef, undef, undef, undef, undef, undef, undef, undef, undef, undef, undef, undef, undef, undef, undef, undef, undef, undef, undef, undef, undef, undef, undef, undef, undef, undef, undef, undef, undef, undef, undef, undef, undef, undef, undef, undef, undef, undef, undef, undef, undef, undef, undef, undef, undef, undef, undef, undef, undef, undef, undef, undef, undef, undef, undef, undef, undef, undef, undef, undef, undef, undef, undef, undef, undef, undef, undef, undef, undef, undef, undef, undef, undef, undef, undef], defers := [{ target := .collected W7.heap.size, args := #[] }] }) (fun w' => ∃ E j, WSt W7 s w1.heap.size w2.heap.size (w4.heap.size + 1 + 4) nv n (-1) E j w' ∧ ((0 ≤ stop ∧ stop < (nl : Int) ∧ (j : Int) = stop + 1) ∨ (¬ (0 ≤ stop ∧ stop < (nl : Int)) ∧ j = nl)) ∧ w'.heap[W7.heap.size]? = some (.deferred (some []))) ?range ?tail
  case range =>
    refine range_ownM (α := ByteArray × List UInt8) (xs := L) (Enc := PairEnc) (Kp := NoneOf) (Nat.le_refl 1) rfl (fun _ _ => by kernel_rfl)
      (fun Wn hn _ => by
        have k7 := K7.out.only hn
        have := scanIter Wn (w4.heap.size + 1) s nv T1 _ R ⟨#[]⟩ ⟨#[]⟩ st (HS7.out.keep hn) (by unfold NMAX; omega) ((k7.get 3 (by rw [← HCS.out]; rfl)).cellv 0 rfl) ((k7.get 2 (by rw [← HCS.out]; rfl)).cellv 0 rfl) ((k7.get 1 (by rw [← HCS.out]; rfl)).cellv 0 rfl) ((k7.get 0 (by rw [← HCS.out]; rfl)).cellv 0 rfl)
        rw [HL.out] at this
        exact this)
      (fun n x args A h => by obtain ⟨v, rfl, _⟩ := h; rfl) (fun {k} _ hh => hh)
      (WI W7 s w1.heap.size w2.heap.size (w4.heap.size + 1 + 4) nv n at_ stop)
      (WIx W7 s w1.heap.size w2.heap.size (w4.heap.size + 1 + 4) nv n at_ stop)
      (fun E pre A B hs ho => ⟨hs.1.zone hbn ho, hs.2⟩)
      (fun cd E pre A B hs ho => ⟨hs.1, hs.2.1.zone hbn ho, hs.2.2⟩)
      (fun E B hE hB ho => ⟨WSt.start hE hB ho HB7.out HS7.out HT1.out, fun j hj => by simp at hj⟩)
      (fun m x a' B => W7.heap.size + 2 ≤ m ∧ ∃ b v, m ≤ b ∧ Blk B b 48 #[.string x.1, v] ∧ RowB B m v x.2 ∧ v.ownBlock ≠ some b ∧ a' = { tmps := #[.slice A nv cap, .int .i64 st, .int .i64 at_, .int .i64 stop, .slice A3 n cap3, undef, undef, .pointer (some ⟨w.heap.size, 0, none⟩), .pointer (some ⟨w.heap.size + 1, 0, none⟩), .pointer (some ⟨w.heap.size + 1 + 1, 0, none⟩), .pointer (some ⟨w.heap.size + 1 + 1 + 1, 0, none⟩), .pointer (some ⟨w2.heap.size, 0, none⟩), .pointer (some ⟨w4.heap.size, 0, none⟩), .func (.func 56) #[] (scanFn (w4.heap.size + 1)), .pointer (some ⟨w4.heap.size + 1 + 4, 0, none⟩), .pointer (some ⟨b, 0, none⟩), undef, undef, undef, undef, .bool true, .bool false, .slice A nv cap, .pointer (some ⟨s, 0, none⟩), .pointer (some ⟨s, 0, none⟩), .int .i64 st, .slice Aw nl cw, .pointer (some ⟨s, 0, none⟩), .int .i64 st, .func (.func 56) #[] (scanFn (w4.heap.size + 1)), .func (.func 56) #[] (scanFn (w4.heap.size + 1)), .bool false, .func (.func 56) #[] (scanFn (w4.heap.size + 1)), .agg #[.string x.1, v], undef, undef, undef, undef, undef, undef, undef, undef, undef, undef, undef, undef, undef, undef, undef, undef, undef, undef, undef, undef, undef, undef, undef, undef, undef, undef, undef, undef, undef, undef, undef, undef, undef, undef, undef, undef, undef, undef, undef, undef, undef, undef, undef, undef, undef, undef, undef, undef, undef, undef, undef, undef, undef, undef, undef, undef, undef, undef, undef, undef, undef, undef, undef, undef, undef, undef, undef, undef, undef, undef, undef, undef, undef, undef, undef], defers := [] })
      (fun m x a' A B hs ho => by
        obtain ⟨hn, b, v, h1, h2, h3, h4, h5⟩ := hs
        exact ⟨hn, b, v, h1, h2.only ho (by omega), h3.only ho (fun g hg e => by have := (ownsRow_lt h3 hg).1; omega), h4, h5⟩)
      ?assign ?body ?done ?stop
    case assign =>
      rintro ⟨key, bs⟩ args A0 Wa K hx hsz hA0 ⟨v, rfl, hv⟩ hK
      obtain ⟨Av, cv, rfl⟩ := ownsRow_slice hv
      simp only at hv ⊢
      gi_wp2
      exact hK _ _ ((Only.refl _ _).alloc _) ⟨hsz, Wa.heap.size, _, hA0.size, Blk.new _ _ _, hv.keep ((Only.refl _ _).alloc _), fun e => by have := (ownsRow_lt hv e).2; omega, rfl⟩
    case body =>
      rintro E pre ⟨key, bs⟩ a' A0 Wb hloop hE hEA hpre ⟨hw0, hst0⟩ hoAW ⟨hnE, b, vv, hb, hB, hvv, hne, rfl⟩
      have hj : L[pre.length]? = some (key, bs) := by
        obtain ⟨r, hr⟩ := hpre
        rw [← hr, List.append_assoc]
        simp
      obtain ⟨j, hjl⟩ : ∃ j, pre.length = j := ⟨_, rfl⟩
      rw [hjl] at hj hw0 hst0
      have HLEN := Lib.hid (show (pre ++ [(key, bs)]).length = j + 1 by simp [hjl])
      have HFIT := Lib.hid (HFITL.out _ (List.mem_of_getElem? hj))
      simp only at HFIT
      have hw := hw0.zone hbn hoAW
      have hlt : j < nl := by rw [← HNL.out]; exact (List.getElem?_eq_some_iff.1 hj).1
      have hp := hw.told HPI7.out ⟨hlohi.1, hlohi.2.1⟩
      rw [HNL.out] at hp
      obtain ⟨gw, e, hll, hlc, hcm⟩ := hp.form hj
      subst e
      have HPA := hp.list
      have hcs := hw.cells K7.out HCL.out
      have HC7 := Lib.hid (hcs.get 9 (by rw [← HCS.out]; rfl))
      have HC8 := Lib.hid (hcs.get 8 (by rw [← HCS.out]; rfl))
      have HC9 := Lib.hid (hcs.get 7 (by rw [← HCS.out]; rfl))
      have HC11 := Lib.hid (hcs.get 5 (by rw [← HCS.out]; rfl))
      have HC12 := Lib.hid (hcs.get 4 (by rw [← HCS.out]; rfl))
      have HC14 := Lib.hid hw.cnt
      have HB15 := Lib.hid hB
      have HVV := Lib.hid hvv
      have HW := Lib.hid hw
      have HST0 := Lib.hid hst0
      obtain ⟨gw', offw, e, hgw, hone⟩ := HPA.one (c' := cw - j) hj
      injection e with e
      injection e with e1 e2 _
      subst e1; subst e2
      rw [Nat.zero_add] at hone
      have HONE := Lib.hid hone
      have hge : decide ((nl : Int) ≤ (j : Int)) = false := decide_eq_false (by omega)
      have hge2 : decide (nl ≤ j) = false := decide_eq_false (by omega)
      have hwr : IntKind.i64.wrap ((j : Int) + 1) = (j : Int) + 1 := by rw [IntKind.wrap_i64]; omega
      clear hw0 hst0 hw hp HPA hcs hB hvv hj hone hpre hoAW hloop
      gi_wp2_with fail
      refine wpIn_region_head2R 15 109 [4] (fun g => match g with | 4 => some false | _ => none) (fun _ => none) NoneOf (fun _ => Only NoneOf Wb) (WalkT j nl gw cw key vv) rfl (by kernel_rfl) (by kernel_rfl) (by kernel_rfl) ?hskip ?hgv (WalkT_keep j nl gw cw key vv) ((Only.refl _ _).drew) ?hstep ?hend
      case hskip =>
        intro i o hi ho hw k
        have : i = 0 ∨ i = 1 ∨ i = 2 ∨ i = 3 ∨ i = 4 ∨ i = 5 ∨ i = 6 ∨ i = 7 ∨ i = 8 ∨ i = 9 ∨ i = 10 ∨ i = 11 ∨ i = 12 ∨ i = 13 ∨ i = 14 := by omega
        rcases this with rfl | rfl | rfl | rfl | rfl | rfl | rfl | rfl | rfl | rfl | rfl | rfl | rfl | rfl | rfl
        · rfl
        · rfl
        · rfl
        · rfl
        · rfl
        · rfl
        · rfl
        · rfl
        · rfl
        · rfl
        · rfl
        · rfl
        · rfl
        · rfl
        · rfl
      case hgv =>
        intro g hg v w h
        have : g = 4 := by simpa using hg
        rcases this with rfl
        · obtain rfl : v = .bool false := h; rfl
      case hstep =>
        intro i o hi ho a u k hk hik hs ht
        have e12 : a.tmps.getD 12 undef = .pointer (some ⟨w4.heap.size, 0, none⟩) := hs 12 (of_decide_eq_true (by kernel_rfl))
        have e14 : a.tmps.getD 14 undef = .pointer (some ⟨w4.heap.size + 1 + 4, 0, none⟩) := hs 14 (of_decide_eq_true (by kernel_rfl))
        have e15 : a.tmps.getD 15 undef = .pointer (some ⟨b, 0, none⟩) := hs 15 (of_decide_eq_true (by kernel_rfl))
        have c14 := (HC14.out.only hk (fun h => h)).cellv 0 rfl
        have c12 := (HC12.out.only hk (fun h => h)).cellv 0 rfl
        have : i = 0 ∨ i = 1 ∨ i = 2 ∨ i = 3 ∨ i = 4 ∨ i = 5 ∨ i = 6 ∨ i = 7 ∨ i = 8 ∨ i = 9 ∨ i = 10 ∨ i = 11 ∨ i = 12 ∨ i = 13 ∨ i = 14 := by omega
        rcases this with rfl | rfl | rfl | rfl | rfl | rfl | rfl | rfl | rfl | rfl | rfl | rfl | rfl | rfl | rfl
        · obtain rfl := Option.some.inj (ho : some _ = some o)
          rw [if_pos (by decide)]
          exact left2_value (.int .i64 (j : Int)) (by simp [go_sem, e14, c14]) rfl rfl hk
        · obtain rfl := Option.some.inj (ho : some _ = some o)
          rw [if_pos (by decide)]
          exact left2_value (.slice (some ⟨gw, 0, none⟩) nl cw) (by simp [go_sem, e12, c12]) rfl rfl hk
        · obtain rfl := Option.some.inj (ho : some _ = some o)
          rw [if_pos (by decide)]
          have s1 : a.tmps.getD 35 undef = .slice (some ⟨gw, 0, none⟩) nl cw := ht 1 (by omega) (by kernel_rfl)
          exact left2_value (.int .i64 (nl : Int)) (by simp [go_sem, s1]) rfl rfl hk
        · obtain rfl := Option.some.inj (ho : some _ = some o)
          rw [if_pos (by decide)]
          have s0 : a.tmps.getD 34 undef = .int .i64 (j : Int) := ht 0 (by omega) (by kernel_rfl)
          have s2 : a.tmps.getD 36 undef = .int .i64 (nl : Int) := ht 2 (by omega) (by kernel_rfl)
          exact left2_value (.bool false) (by simp [go_sem, s0, s2, hge2]) rfl rfl hk
        · obtain rfl := Option.some.inj (ho : some _ = some o)
          rw [if_pos (by decide)]
          have s3 : a.tmps.getD 37 undef = .bool false := ht 3 (by omega) (by kernel_rfl)
          exact left2_value (.bool false) (by simp [go_sem, s3]) rfl rfl hk
        · obtain rfl := Option.some.inj (ho : some _ = some o)
          rw [if_pos (by decide)]
          exact left2_load 48 (.tmp 15) b 48 _ _ rfl e15 (HB15.out.only hk (fun h => h)) Try.underlying48 rfl (by kernel_rfl) rfl rfl hk
        · obtain rfl := Option.some.inj (ho : some _ = some o)
          rw [if_pos (by decide)]
          have s5 : a.tmps.getD 39 undef = .agg #[.string key, vv] := ht 5 (by omega) (by kernel_rfl)
          have s5' : a.tmps[39]?.getD undef = .agg #[.string key, vv] := by simpa using s5
          exact left2_new (.slice (some ⟨u.heap.size, 0, none⟩) 1 1) (u.alloc (.cells #[.string key, vv] 48)) (by simp [go_sem, s5']) ((Only.refl _ _).alloc _) ⟨_, rfl, Blk.new _ _ _⟩ rfl (hk.alloc _)
        · obtain rfl := Option.some.inj (ho : some _ = some o)
          rw [if_pos (by decide)]
          exact left2_value (.slice (some ⟨gw, 0, none⟩) nl cw) (by simp [go_sem, e12, c12]) rfl rfl hk
        · obtain rfl := Option.some.inj (ho : some _ = some o)
          rw [if_pos (by decide)]
          exact left2_value (.int .i64 (j : Int)) (by simp [go_sem, e14, c14]) rfl rfl hk
        · obtain rfl := Option.some.inj (ho : some _ = some o)
          rw [if_pos (by decide)]
          exact left2_value (.int .i64 (j : Int)) (by simp [go_sem, e14, c14]) rfl rfl hk
        · obtain rfl := Option.some.inj (ho : some _ = some o)
          rw [if_pos (by decide)]
          have s9 : a.tmps.getD 43 undef = .int .i64 (j : Int) := ht 9 (by omega) (by kernel_rfl)
          exact left2_value (.int .i64 ((j : Int) + 1)) (by simp [go_sem, s9, hwr]) rfl rfl hk
        · obtain rfl := Option.some.inj (ho : some _ = some o)
          rw [if_pos (by decide)]
          have s7 : a.tmps.getD 41 undef = .slice (some ⟨gw, 0, none⟩) nl cw := ht 7 (by omega) (by kernel_rfl)
          have s8 : a.tmps.getD 42 undef = .int .i64 (j : Int) := ht 8 (by omega) (by kernel_rfl)
          have s10 : a.tmps.getD 44 undef = .int .i64 ((j : Int) + 1) := ht 10 (by omega) (by kernel_rfl)
          have s7 : a.tmps.getD 41 undef = .slice (some ⟨gw, 0, none⟩) nl cw := ht 7 (by omega) (by kernel_rfl)
          have s8 : a.tmps.getD 42 undef = .int .i64 (j : Int) := ht 8 (by omega) (by kernel_rfl)
          have s10 : a.tmps.getD 44 undef = .int .i64 ((j : Int) + 1) := ht 10 (by omega) (by kernel_rfl)
          have qs1 : 0 ≤ (j : Int) + 1 ∧ (j : Int) + 1 ≤ (cw : Int) := ⟨by omega, by omega⟩
          have qs2 : ¬ cw = j := by omega
          exact left2_value (.slice (some ⟨gw, j * 2, none⟩) 1 (cw - j)) (by simp [go_sem, s7, s8, s10, qs1, qs2]) rfl rfl hk
        · obtain rfl := Option.some.inj (ho : some _ = some o)
          rw [if_pos (by decide)]
          have s4 : a.tmps.getD 38 undef = .bool false := ht 4 (by omega) (by kernel_rfl)
          have s11 : a.tmps.getD 45 undef = .slice (some ⟨gw, j * 2, none⟩) 1 (cw - j) := ht 11 (by omega) (by kernel_rfl)
          obtain ⟨b6, s6, hb6⟩ : ∃ b, a.tmps.getD 40 undef = .slice (some ⟨b, 0, none⟩) 1 1 ∧ Blk u b 48 #[.string key, vv] := ht 6 (by omega) (by kernel_rfl)
          have s11 : a.tmps.getD 45 undef = .slice (some ⟨gw, j * 2, none⟩) 1 (cw - j) := ht 11 (by omega) (by kernel_rfl)
          have hpa := pairs_alike u _ _ [(key, bs)] [(key, bs)] (listAt_new hb6 (HVV.out.keep hk) 1) (HONE.out.keep (fun x cs => PairE.keep hk x cs) hk) (by simp) (fun x hx => by simp at hx; subst hx; exact HFIT.out)
          rw [decide_eq_true rfl] at hpa
          exact left2_calls 28 #[.slice (some ⟨b6, 0, none⟩) 1 1, .slice (some ⟨gw, j * 2, none⟩) 1 (cw - j)] (by simp [go_sem, s6, s11]) (hpa.mono (fun e w' ⟨he, ho⟩ => ⟨_, he, rfl, drewN_only ho⟩)) rfl (fun w' ho => hk.trans ho)
        · obtain rfl := Option.some.inj (ho : some _ = some o)
          rw [if_pos (by decide)]
          have s12 : a.tmps.getD 46 undef = .bool true := ht 12 (by omega) (by kernel_rfl)
          exact left2_value (.bool false) (by simp [go_sem, s12]) rfl rfl hk
        · obtain rfl := Option.some.inj (ho : some _ = some o)
          rw [if_pos (by decide)]
          have s4 : a.tmps.getD 38 undef = .bool false := ht 4 (by omega) (by kernel_rfl)
          have s13 : a.tmps.getD 47 undef = .bool false := ht 13 (by omega) (by kernel_rfl)
          exact left2_value (.bool false) (by simp [go_sem, s4, s13]) rfl rfl hk
      case hend =>
        intro V' u k hk hkt hV'
        have v0 : V' 0 = .int .i64 (j : Int) := hV' 0 (by omega)
        have v1 : V' 1 = .slice (some ⟨gw, 0, none⟩) nl cw := hV' 1 (by omega)
        have v2 : V' 2 = .int .i64 (nl : Int) := hV' 2 (by omega)
        have v3 : V' 3 = .bool false := hV' 3 (by omega)
        have v4 : V' 4 = .bool false := hV' 4 (by omega)
        have v5 : V' 5 = .agg #[.string key, vv] := hV' 5 (by omega)
        obtain ⟨b6, v6, hb6⟩ : ∃ b, V' 6 = .slice (some ⟨b, 0, none⟩) 1 1 ∧ Blk u b 48 #[.string key, vv] := hV' 6 (by omega)
        have v7 : V' 7 = .slice (some ⟨gw, 0, none⟩) nl cw := hV' 7 (by omega)
        have v8 : V' 8 = .int .i64 (j : Int) := hV' 8 (by omega)
        have v9 : V' 9 = .int .i64 (j : Int) := hV' 9 (by omega)
        have v10 : V' 10 = .int .i64 ((j : Int) + 1) := hV' 10 (by omega)
        have v11 : V' 11 = .slice (some ⟨gw, j * 2, none⟩) 1 (cw - j) := hV' 11 (by omega)
        have v12 : V' 12 = .bool true := hV' 12 (by omega)
        have v13 : V' 13 = .bool false := hV' 13 (by omega)
        have v14 : V' 14 = .bool false := hV' 14 (by omega)
        change wpListIn _ _ _ _ _ _ (Act.put (Act.put (Act.put (Act.put (Act.put (Act.put (Act.put (Act.put (Act.put (Act.put (Act.put (Act.put (Act.put (Act.put (Act.put _ (some 34) (V' 0)) (some 35) (V' 1)) (some 36) (V' 2)) (some 37) (V' 3)) (some 38) (V' 4)) (some 39) (V' 5)) (some 40) (V' 6)) (some 41) (V' 7)) (some 42) (V' 8)) (some 43) (V' 9)) (some 44) (V' 10)) (some 45) (V' 11)) (some 46) (V' 12)) (some 47) (V' 13)) (some 48) (V' 14)) _
        rw [v0, v1, v2, v3, v4, v5, v6, v7, v8, v9, v10, v11, v12, v13, v14]
        simp only [Act.put, List.setIfInBounds_toArray, List.set_cons_zero, List.set_cons_succ]
        simp only [List.drop_succ_cons, List.drop_zero]
        clear hV' v0 v1 v2 v3 v4 v5 v6 v7 v8 v9 v10 v11 v12 v13 v14
        have HWU := Lib.hid (HW.out.keep hk)
        have HOU := Lib.hid hk
        have c14 := (HC14.out.only hk (fun h => h)).cellv 0 rfl
        have f14 := (HC14.out.only hk (fun h => h)).free 0
        have c7 := (HC7.out.only hk (fun h => h)).cellv 0 rfl
        have c8 := (HC8.out.only hk (fun h => h)).cellv 0 rfl
        clear hk hkt hb6 HONE HB15 HC14 HC12
        by_cases hat : (j : Int) = at_
        · have hq : ((j : Int) == at_) = true := beq_iff_eq.2 hat
          have c9 := (HC9.out.only HOU.out (fun h => h)).cellv 0 rfl
          have HC11 := Lib.hid (HC11.out.only HOU.out (fun h => h))
          have HC8 := Lib.hid (HC8.out.only HOU.out (fun h => h))
          have HSC := Lib.hid (HWU.out.script hat)
          have HAT := Lib.hid hat
          clear hat f14
          have HST0' := Lib.hid HST0.out
          clear HC7 HC8 HC9 HC11 HST0 HVV HFIT
          gi_wp2_with fail
          gi_loopw [54] (fun v wr => ScrRel W7 Wb s w1.heap.size w2.heap.size (w4.heap.size + 1 + 4) nv n E j v wr) (fun v _ => n - (intOf v).toNat)
          case atStart => exact ⟨0, rfl, by omega, HSC.out, HOU.out.mono (fun _ _ h => h.elim)⟩
          case round =>
            clear c14 c7 c8 c9 HSC HOU
            obtain ⟨i, rfl, hi, hws, how⟩ := hrel
            have HWS := Lib.hid hws
            have HOW := Lib.hid how
            have hcw := hws.cells K7.out HCL.out
            have c14 := hws.cnt.cellv 0 rfl
            have c8 := (hcw.get 8 (by rw [← HCS.out]; rfl)).cellv 0 rfl
            have c11 := (hcw.get 5 (by rw [← HCS.out]; rfl)).cellv 0 rfl
            have hg11 : w2.heap.size < wr.heap.size := World.block_lt_of_cell? _ _ c11
            have HOWR := Lib.hid (HO7.out.step hws.only (fun k hk hh => by have := HZ0.out; have := HZ7.out; rcases hh with hh | hh <;> omega))
            clear hws how hcw
            by_cases hlt2 : i < n
            · have hx : xs[i]? = some (xs[i]'(by rw [HN.out]; exact hlt2)) := List.getElem?_eq_getElem _
              generalize xs[i]'(by rw [HN.out]; exact hlt2) = x at hx
              obtain ⟨g, off, Ab, cb, rfl, hg, d0, d1, d2, d3, d4, d5, hbx, hks⟩ := (HX.out.keep HOWR.out) i x hx
              have HCA := Lib.hid ((HWS.out.keep ((Only.refl NoneOf wr).alloc (.cells (stepC x.kind x.key x.st (.slice Ab x.bs.length cb) x.dead x.tt) 29))).call ⟨hlohi.2.2, hbn⟩ (by unfold NMAX; omega) x Ab cb hks (hbx.keep ((Only.refl NoneOf wr).alloc (.cells (stepC x.kind x.key x.st (.slice Ab x.bs.length cb) x.dead x.tt) 29))))
              obtain ⟨nb, hnb⟩ : ∃ nb, x.bs.length = nb := ⟨_, rfl⟩
              rw [hnb] at HCA d3
              clear hbx hx hnb
              gi_wp2_with fail
              refine ⟨trivial, rfl, ((callsIn_wide.2 HCA.out).inRound _).mono ?_⟩
              rintro e w9 ⟨⟨v9, rfl⟩, hws9, how9⟩
              have HF9 := Lib.hid (show ScrRel W7 Wb s w1.heap.size w2.heap.size (w4.heap.size + 1 + 4) nv n E j (.int .i64 ((i : Int) + 1)) w9 from ⟨i + 1, by rw [show ((i + 1 : Nat) : Int) = (i : Int) + 1 by omega], by omega, hws9, (HOW.out.alloc _).trans how9⟩)
              clear hws9 how9
              gi_wp2_with fail
              exact ⟨HF9.out, by simp [intOf]; omega⟩
            · obtain rfl : i = n := by omega
              have HFIN := Lib.hid (walk_end (at_ := at_) (stop := stop) (Wb := Wb) (pre := pre ++ [(key, bs)]) HWS.out hbn HOW.out (fun hh => absurd hh (by have := HAT.out; omega)) HLEN.out HST0'.out)
              have f14 := HWS.out.cnt.free 0
              have c8 := c8
              clear hlt2
              by_cases hss : (j : Int) = stop
              · have hq2 : ((j : Int) == stop) = true := beq_iff_eq.2 hss
                have HF := Lib.hid (fun a => (HFIN.out a).1 hss)
                clear hss
                gi_wp2_with fail
                exact HF.out _
              · have hq2 : ((j : Int) == stop) = false := beq_eq_false_iff_ne.2 hss
                have HF := Lib.hid (fun a => (HFIN.out a).2 hss)
                clear hss
                gi_wp2_with fail
                exact HF.out _
        · have hq : ((j : Int) == at_) = false := beq_eq_false_iff_ne.2 hat
          have HFIN := Lib.hid (walk_end (at_ := at_) (stop := stop) (Wb := Wb) (pre := pre ++ [(key, bs)]) HWU.out hbn (HOU.out.mono (fun _ _ h => h.elim)) (by omega) HLEN.out HST0.out)
          clear hat
          by_cases hss : (j : Int) = stop
          · have hq2 : ((j : Int) == stop) = true := beq_iff_eq.2 hss
            have HF := Lib.hid (fun a => (HFIN.out a).1 hss)
            clear hss
            gi_wp2_with fail
            exact HF.out _
          · have hq2 : ((j : Int) == stop) = false := beq_eq_false_iff_ne.2 hss
            have HF := Lib.hid (fun a => (HFIN.out a).2 hss)
            clear hss
            gi_wp2_with fail
            exact HF.out _
    case done =>
      rintro E Wd hE ⟨hw, hst⟩ hD
      rw [HNL.out] at hw hst
      exact ⟨.inl rfl, rfl, E, nl, hw.weak, .inr ⟨fun hh => hst stop.toNat (by omega) (by omega), rfl⟩, hD⟩
    case stop =>
      rintro E cd pre Wd hE hpre ⟨rfl, hw, h1, h2⟩ hD
      have hpl := hpre.length_le
      rw [HNL.out] at hpl
      refine wpIn_exit ⟨.inr rfl, rfl, E, pre.length, hw.weak, .inl ⟨by omega, by omega, h2⟩, hD⟩
  case tail =>
    rintro wd ⟨E, j, hws, hcond, hD⟩
    have hjn : j ≤ nl := by omega
    have hcw := hws.cells K7.out HCL.out
    have c14 := hws.cnt.cellv 0 rfl
    have c8 := (hcw.get 8 (by rw [← HCS.out]; rfl)).cellv 0 rfl
    have c12 := (hcw.get 4 (by rw [← HCS.out]; rfl)).cellv 0 rfl
    have HWS := Lib.hid hws
    have HD := Lib.hid hD
    clear hws hD hcw
    rcases hcond with ⟨h1, h2, h3⟩ | ⟨h1, h2⟩
    · have q1 : decide (0 ≤ stop) = true := decide_eq_true h1
      have q2 : decide (stop < (nl : Int)) = true := decide_eq_true h2
      have q3 : decide (stop < 0) = false := decide_eq_false (by omega)
      have q4 : decide ((nl : Int) ≤ stop) = false := decide_eq_false (by omega)
      gi_wp2_with fail
      clear q1 q2 q3 q4 c14 c8 c12 h1 h2
      obtain ⟨T, Rk, Nk, h5, h6, h7, _⟩ := HWS.out.sto
      have hWA : Only NoneOf wd (wd.alloc (.cells #[.slice none 0 0] 30)) := (Only.refl _ _).alloc _
      have HSK := Lib.hid (h5.other (U' := fun k => k = wd.heap.size) hWA (fun _ h => h.elim) (fun k hk => ⟨by subst hk; simp, .inr (by omega)⟩))
      have K8 := Lib.hid ((HWS.out.cells K7.out HCL.out).only hWA)
      have HB8 := Lib.hid (Blk.new wd 30 #[.slice none 0 0])
      have HOA := Lib.hid ((HO7.out.step HWS.out.only (fun k hk hh => by have := HZ0.out; have := HZ7.out; rcases hh with hh | hh <;> omega)).trans hWA)
      have HDA := Lib.hid ((hWA.block _ (Array.getElem?_eq_some_iff.1 HD.out).1 (fun h => h)).trans HD.out)
      have HDW := Lib.hid (show W7.heap.size < wd.heap.size from (Array.getElem?_eq_some_iff.1 HD.out).1)
      have HDL := Lib.hid (show W7.heap.size < (wd.alloc (.cells #[.slice none 0 0] 30)).heap.size from (Array.getElem?_eq_some_iff.1 HDA.out).1)
      have HBL := Lib.hid HB8.out.lt
      have HW0 := Lib.hid (show w.heap.size + 4 ≤ wd.heap.size by have := HZ0.out; have := HZ7.out; have := HWS.out.only.size; omega)
      have HN0 := Lib.hid (show w.heap.size + 1 + 1 + 1 < W7.heap.size by have := HZ0.out; have := HZ7.out; omega)
      obtain ⟨Wa, hWa⟩ : ∃ Wa, wd.alloc (.cells #[.slice none 0 0] 30) = Wa := ⟨_, rfl⟩
      rw [hWa] at HSK K8 HB8 HOA HDA HDL HBL ⊢
      obtain ⟨L2, hL2⟩ : ∃ L2, scanR Rk ⟨#[]⟩ ⟨#[]⟩ st = L2 := ⟨_, rfl⟩
      have HL2 := Lib.hid hL2
      have hL2b : L2.length ≤ 2513169434843 := by
        have h1 : (scanR Rk ⟨#[]⟩ ⟨#[]⟩ st).length ≤ (keysR Rk).length := List.length_filterMap_le _ _
        have h2 := keysR_length Rk
        have h3 := HSK.out.len
        rw [hL2] at h1
        omega
      have HFT2 : Hid (∀ p ∈ L2, p.2.length ≤ 4611686018427387904) := Lib.hid fun p hp => by
        rw [← hL2] at hp
        obtain ⟨y, hy, e⟩ := found_mem (scan_get hp)
        have := HSK.out.good.bs _ (verR_mem.1 hy)
        rw [← e]
        simp only at this
        omega
      obtain ⟨i0, hi, hz0, hz1, hz3⟩ := info_parts info48
      clear hWA h5 h6 hWa hL2 HWS HD hjn
      refine cut_block ({ tmps := #[.slice A nv cap, .int .i64 st, .int .i64 at_, .int .i64 stop, .slice A3 n cap3, undef, undef, .pointer (some ⟨w.heap.size, 0, none⟩), .pointer (some ⟨w.heap.size + 1, 0, none⟩), .pointer (some ⟨w.heap.size + 1 + 1, 0, none⟩), .pointer (some ⟨w.heap.size + 1 + 1 + 1, 0, none⟩), .pointer (some ⟨w2.heap.size, 0, none⟩), .pointer (some ⟨w4.heap.size, 0, none⟩), .func (.func 56) #[] (scanFn (w4.heap.size + 1)), .pointer (some ⟨w4.heap.size + 1 + 4, 0, none⟩), undef, undef, undef, .pointer (some ⟨wd.heap.size, 0, none⟩), undef, .bool true, .bool false, .slice A nv cap, .pointer (some ⟨s, 0, none⟩), .pointer (some ⟨s, 0, none⟩), .int .i64 st, .slice Aw nl cw, .pointer (some ⟨s, 0, none⟩), .int .i64 st, .func (.func 56) #[] (scanFn (w4.heap.size + 1)), .func (.func 56) #[] (scanFn (w4.heap.size + 1)), .bool false, .func (.func 56) #[] (scanFn (w4.heap.size + 1)), undef, undef, undef, undef, undef, undef, undef, undef, undef, undef, undef, undef, undef, undef, undef, undef, undef, undef, undef, undef, undef, undef, undef, undef, undef, undef, undef, undef, undef, undef, undef, undef, undef, undef, undef, .int .i64 stop, .bool true, .bool true, .int .i64 stop, .slice Aw nl cw, .int .i64 (nl : Int), .bool true, .bool true, .bool true, .int .i64 (stop + 1), .int .i64 stop, .int .i64 (stop + 1), .bool false, .bool false, .bool false, .int .i64 stop, .bool false, .bool false, .int .i64 stop, .slice Aw nl cw, .int .i64 (nl : Int), .bool false, .bool false, .bool false, undef, undef, undef, undef, .bool false, .bool false, .func (.func 56) #[] (scanFn (w4.heap.size + 1)), undef, undef, undef, undef, undef, undef, undef, undef, undef, undef], defers := [{ target := .collected Wa.heap.size, args := #[] }, { target := .collected W7.heap.size, args := #[] }] }) (fun w' => ∃ E, Wa.heap.size + 2 ≤ E ∧ WI2 Wa wd.heap.size W7.heap.size E L2 w' ∧ w'.heap[Wa.heap.size]? = some (.deferred (some []))) ?range2 ?tail2
      case range2 =>
        refine range_ownM (α := ByteArray × List UInt8) (xs := L2) (Enc := PairEnc) (Kp := NoneOf) (Nat.le_refl 1) rfl (fun _ _ => by kernel_rfl)
          (fun Wn hn _ => by
            have k7 := K8.out.only hn
            have := scanIter Wn (w4.heap.size + 1) s Nk T _ Rk ⟨#[]⟩ ⟨#[]⟩ st (HSK.out.keep hn) (by unfold NMAX; omega) ((k7.get 3 (by rw [← HCS.out]; rfl)).cellv 0 rfl) ((k7.get 2 (by rw [← HCS.out]; rfl)).cellv 0 rfl) ((k7.get 1 (by rw [← HCS.out]; rfl)).cellv 0 rfl) ((k7.get 0 (by rw [← HCS.out]; rfl)).cellv 0 rfl)
            rw [HL2.out] at this
            exact this)
          (fun n x args A h => by obtain ⟨v, rfl, _⟩ := h; rfl) (fun {k} _ hh => hh)
          (WI2 Wa wd.heap.size W7.heap.size) (fun cd E pre B => False)
          (fun E pre A B hs ho => hs.zone HBL.out HDL.out ho) (fun cd E pre A B hs ho => hs)
          (fun E B hE hB ho => ⟨hE, ho.mono (fun _ _ h => h.elim), (ho.block _ HDL.out (fun h => h)).trans HDA.out, _, [], HB8.out.only ho (fun h => h), BRows.nil _ _, rfl, fun k hk => by
            rcases hk with hk | ⟨r, hr, _⟩
            · simp [Value.ownBlock] at hk
            · cases hr⟩)
          (fun m x a' B => Wa.heap.size + 2 ≤ m ∧ ∃ b v, m ≤ b ∧ Blk B b 48 #[.string x.1, v] ∧ RowB B m v x.2 ∧ v.ownBlock ≠ some b ∧ a' = { tmps := #[.slice A nv cap, .int .i64 st, .int .i64 at_, .int .i64 stop, .slice A3 n cap3, undef, undef, .pointer (some ⟨w.heap.size, 0, none⟩), .pointer (some ⟨w.heap.size + 1, 0, none⟩), .pointer (some ⟨w.heap.size + 1 + 1, 0, none⟩), .pointer (some ⟨w.heap.size + 1 + 1 + 1, 0, none⟩), .pointer (some ⟨w2.heap.size, 0, none⟩), .pointer (some ⟨w4.heap.size, 0, none⟩), .func (.func 56) #[] (scanFn (w4.heap.size + 1)), .pointer (some ⟨w4.heap.size + 1 + 4, 0, none⟩), undef, undef, undef, .pointer (some ⟨wd.heap.size, 0, none⟩), .pointer (some ⟨b, 0, none⟩), .bool true, .bool false, .slice A nv cap, .pointer (some ⟨s, 0, none⟩), .pointer (some ⟨s, 0, none⟩), .int .i64 st, .slice Aw nl cw, .pointer (some ⟨s, 0, none⟩), .int .i64 st, .func (.func 56) #[] (scanFn (w4.heap.size + 1)), .func (.func 56) #[] (scanFn (w4.heap.size + 1)), .bool false, .func (.func 56) #[] (scanFn (w4.heap.size + 1)), undef, undef, undef, undef, undef, undef, undef, undef, undef, undef, undef, undef, undef, undef, undef, undef, undef, undef, undef, undef, undef, undef, undef, undef, undef, undef, undef, undef, undef, undef, undef, undef, undef, undef, undef, .int .i64 stop, .bool true, .bool true, .int .i64 stop, .slice Aw nl cw, .int .i64 (nl : Int), .bool true, .bool true, .bool true, .int .i64 (stop + 1), .int .i64 stop, .int .i64 (stop + 1), .bool false, .bool false, .bool false, .int .i64 stop, .bool false, .bool false, .int .i64 stop, .slice Aw nl cw, .int .i64 (nl : Int), .bool false, .bool false, .bool false, undef, undef, undef, undef, .bool false, .bool false, .func (.func 56) #[] (scanFn (w4.heap.size + 1)), .agg #[.string x.1, v], undef, undef, undef, undef, undef, undef, undef, undef, undef], defers := [] })
          (fun m x a' A B hs ho => by
            obtain ⟨hn, b, v, h1, h2, h3, h4, h5⟩ := hs
            exact ⟨hn, b, v, h1, h2.only ho (by omega), h3.only ho (fun g hg e => by have := (ownsRow_lt h3 hg).1; omega), h4, h5⟩)
          ?assign ?body ?done ?stop
        case assign =>
          rintro ⟨key, bs⟩ args A0 W9 K hx hsz hA0 ⟨v, rfl, hv⟩ hK
          obtain ⟨Av, cv, rfl⟩ := ownsRow_slice hv
          simp only at hv ⊢
          gi_wp2
          exact hK _ _ ((Only.refl _ _).alloc _) ⟨hsz, W9.heap.size, _, hA0.size, Blk.new _ _ _, hv.keep ((Only.refl _ _).alloc _), fun e => by have := (ownsRow_lt hv e).2; omega, rfl⟩
        case body =>
          rintro E pre ⟨key, bs⟩ a' A0 Wb hloop hE hEA hpre ⟨_, hO0, hDD0, v, rs, hV0, hR0, hpl, hg⟩ hoAW ⟨hn, b, vv, hb, hB, hvv, hne, rfl⟩
          have hdl := HDL.out
          have hbl := HBL.out
          have hV := hV0.only hoAW (fun hh => by have := hh.1; omega)
          have hR := hR0.only hoAW (fun k hk hh => by have := hg k hk; have := hh.2; omega)
          have hO : Only (· = wd.heap.size) Wa Wb := hO0.step hoAW (fun k hk hh => by have := hh.1; omega)
          have hDD := (hoAW.block _ (Array.getElem?_eq_some_iff.1 hDD0).1 (fun hh => by have := hh.1; omega)).trans hDD0
          have hlt : ∀ k, PBlocks v rs k → k < A0.heap.size := fun k hk => (hR0.lt hk).2
          have hsz := hoAW.size
          have hpl1 : rs.length + 1 ≤ L2.length := by
            have h1 := hpre.length_le
            have h2 := congrArg List.length hpl
            simp only [List.length_append, List.length_cons, List.length_nil, List.length_map] at h1 h2
            omega
          obtain ⟨Av, cv, rfl⟩ := ownsRow_slice hvv
          obtain ⟨Aq, cq, rfl⟩ := ownsRow_slice hR.own
          simp only at hB hvv
          have V0 := hV.cellv 0 rfl
          have V1 := hV.free 0
          have hVlt := hV.lt
          have b0 : Wb.cell? ⟨b, 0, none⟩ = some (.string key) := hB.cellv 0 rfl
          have b1 : Wb.cell? ⟨b, 1, none⟩ = some (.slice Av bs.length cv) := hB.cellv 1 rfl
          have hbw := World.block_lt_of_cell? _ _ b0
          have HN9 := Lib.hid (Blk.new Wb 48 #[.string key, .slice Av bs.length cv])
          have HRA := Lib.hid (hR.keep ((Only.refl _ Wb).alloc (.cells #[.string key, .slice Av bs.length cv] 48)))
          have HVA := Lib.hid (hV.alloc (.cells #[.string key, .slice Av bs.length cv] 48))
          have HVV := Lib.hid (hvv.keep ((Only.refl _ Wb).alloc (.cells #[.string key, .slice Av bs.length cv] 48)))
          have hnv : (Value.slice Aq rs.length cq).ownBlock ≠ some wd.heap.size := fun e => by have := hg _ (.inl e); omega
          gi_wp2_with (gi_at_builtin; refine wpListIn_append_own_at _ rfl (.tmp 100) (.tmp 102) 30 rfl 0 48 i0 _ 2 40 Try.underlying30 hi hz0 hz1 hz3 rfl (by decide) (.slice Aq rs.length cq) rs.length (rs.flatMap PRow.cells) rfl HRA.out.own ⟨Wb.heap.size, 0, none⟩ 1 1 [.string key, .slice Av bs.length cv] rfl rfl (World.news_of_block HN9.out) (by simp [Value.oneCell']) (by unfold maxLen; omega) (by omega) (by simp) ?_; intro v' w3 hown' hgr _ hat; obtain ⟨g', cap', rfl⟩ := ownsRow_succ hown'; have hV3 := HVA.out.only (only_grown hgr) hnv; have x0 := hV3.cellv 0 rfl; have x1 := hV3.free 0)
          have hsn := BRows.snoc (r := (⟨key, .slice Av bs.length cv, bs⟩ : PRow)) HRA.out (only_grown hgr) hown' hat (HVV.out.base (by omega)) (fun g hg' hb' => by have := (ownsRow_lt HVV.out hg').1; have := hlt g hb'; omega)
          have hvb := fun k hk => bblocks_snoc (val := PRow.val) (v := .slice Aq rs.length cq) (v' := .slice (some ⟨g', 0, none⟩) (rs.length + 1) cap') (rs := rs) (r := (⟨key, .slice Av bs.length cv, bs⟩ : PRow)) (k := k) hat hk
          have hE' : ∀ k, PBlocks (.slice (some ⟨g', 0, none⟩) (rs.length + 1) cap') (rs ++ [⟨key, .slice Av bs.length cv, bs⟩]) k → E ≤ k := fun k hk => by
            rcases hvb k hk with h | h | h
            · exact hg k h
            · have := (ownsRow_lt HVV.out h).1; omega
            · simp at h; omega
          have hput : Only (· = wd.heap.size) w3 (w3.setCell ⟨wd.heap.size, 0, none⟩ (.slice (some ⟨g', 0, none⟩) (rs.length + 1) cap')) := (Only.refl (· = wd.heap.size) w3).put (.inl rfl) _
          have hgr' : Only (fun k => (Value.slice Aq rs.length cq).ownBlock = some k) Wb w3 := Only.step ((Only.refl _ Wb).alloc _) (only_grown hgr) (fun _ _ h => h)
          have fin1 : Only (Theirs Wa.heap.size E NoneOf) Wb (w3.setCell ⟨wd.heap.size, 0, none⟩ (.slice (some ⟨g', 0, none⟩) (rs.length + 1) cap')) := Only.put (hgr'.mono (fun k _ e => .inr (hg k (.inl e)))) (.inl (.inl ⟨hbl, fun h => h⟩)) _
          have fin2 : Only (· = wd.heap.size) Wa (w3.setCell ⟨wd.heap.size, 0, none⟩ (.slice (some ⟨g', 0, none⟩) (rs.length + 1) cap')) := (hO.step hgr' (fun k hk e => by have := hg k (.inl e); omega)).step hput (fun k hk e => e)
          have hWb : W7.heap.size < Wb.heap.size := (Array.getElem?_eq_some_iff.1 hDD).1
          have fin3 : (w3.setCell ⟨wd.heap.size, 0, none⟩ (.slice (some ⟨g', 0, none⟩) (rs.length + 1) cap')).heap[W7.heap.size]? = some (.deferred (some [])) := by
            rw [Below.heap_setCell _ ⟨wd.heap.size, 0, none⟩ _ W7.heap.size (by show W7.heap.size ≠ wd.heap.size; have := HDW.out; omega), hgr'.block _ hWb (fun e => by have := hg _ (.inl e); omega)]
            exact hDD
          exact ⟨fin1, by omega, fin2, fin3, _, _, hV3.put 0 _, hsn.only hput (fun k hk e => by have := hE' k hk; omega), by rw [List.map_append, hpl]; rfl, hE'⟩
        case done =>
          rintro E W9 hE hI hD9
          exact ⟨.inl rfl, rfl, E, hE, hI, hD9⟩
        case stop =>
          rintro E cd pre W9 hE hpre h hD9
          exact h.elim
      case tail2 =>
        rintro we ⟨E, hE, ⟨_, hO, hDD, v5, rs, hV, hR, hpl, hg⟩, hDE⟩
        have hdl := HDL.out
        have hbl := HBL.out
        have hrl : rs.length = L2.length := by rw [← hpl, List.length_map]
        have HPE := listAt_pairs hR
        rw [hpl] at HPE
        obtain ⟨A5, c5, rfl⟩ := ownsRow_slice hR.own
        obtain ⟨r5, hr5⟩ : ∃ r5, rs.length = r5 := ⟨_, rfl⟩
        rw [hr5] at HPE hV
        replace HPE := Lib.hid HPE
        have HBF := Lib.hid hV
        have HSE := Lib.hid (HSK.out.other (U' := NoneOf) hO (fun k hk => hk) (fun _ h => h.elim))
        have HK9 := Lib.hid (K8.out.onlyS hO (fun c hc e => by have := HCL.out c hc; have := HDW.out; have := HZ7.out; omega))
        have HBE := Lib.hid (HK9.out.get 5 (by rw [← HCS.out]; rfl))
        have HB10 := Lib.hid (HK9.out.get 6 (by rw [← HCS.out]; rfl))
        have HOE := Lib.hid (HOA.out.step hO (fun k hk e => by have := HW0.out; omega))
        have HDD := Lib.hid hDD
        have HDE := Lib.hid hDE
        clear hR hpl hg hV hO hDD hDE hrl hr5
        gi_wp2_with fail
        refine wpIn_region_headT 5 109 (T27 (.slice A5 r5 c5) s st L2) (fun _ => false) rfl (by kernel_rfl) (by kernel_rfl) (T27_keep _ _ _ _) (fun _ _ _ h => by cases h) ?_ ?_
        · intro i o hi ho a u hu hs ht
          have e18 : a.tmps.getD 18 undef = .pointer (some ⟨wd.heap.size, 0, none⟩) := hs 18 (of_decide_eq_true (by kernel_rfl))
          have e11 : a.tmps.getD 11 undef = .pointer (some ⟨w2.heap.size, 0, none⟩) := hs 11 (of_decide_eq_true (by kernel_rfl))
          have e1 : a.tmps.getD 1 undef = .int .i64 st := hs 1 (of_decide_eq_true (by kernel_rfl))
          have cF := (HBF.out.only hu (fun h => h)).cellv 0 rfl
          have cE := (HBE.out.only hu (fun h => h)).cellv 0 rfl
          have : i = 0 ∨ i = 1 ∨ i = 2 ∨ i = 3 ∨ i = 4 := by omega
          rcases this with rfl | rfl | rfl | rfl | rfl
          · obtain rfl := Option.some.inj (ho : some _ = some o)
            exact left_value (.slice A5 r5 c5) (by simp [go_sem, e18, cF]) rfl rfl
          · obtain rfl := Option.some.inj (ho : some _ = some o)
            exact left_value (.pointer (some ⟨s, 0, none⟩)) (by simp [go_sem, e11, cE]) rfl rfl
          · obtain rfl := Option.some.inj (ho : some _ = some o)
            exact left_value (.int .i64 st) (by simp [go_sem, e1]) rfl rfl
          · obtain rfl := Option.some.inj (ho : some _ = some o)
            have s1 : a.tmps.getD 105 undef = .pointer (some ⟨s, 0, none⟩) := ht 1 (by omega) (by kernel_rfl)
            have s2 : a.tmps.getD 106 undef = .int .i64 st := ht 2 (by omega) (by kernel_rfl)
            have s1c : a.tmps.getD 105 undef = .pointer (some ⟨s, 0, none⟩) := ht 1 (by omega) (by kernel_rfl)
            have s2c : a.tmps.getD 106 undef = .int .i64 st := ht 2 (by omega) (by kernel_rfl)
            exact left_calls 22 #[.pointer (some ⟨s, 0, none⟩), .string ⟨#[]⟩, .string ⟨#[]⟩, .int .i64 st] (by simp [go_sem, s1c, s2c]) ((scannedR u s Nk T _ Rk (HSE.out.keep hu) (by unfold NMAX; omega) ⟨#[]⟩ ⟨#[]⟩ st).mono (fun e w' ⟨v, rs, he, hr, hpl, ho⟩ => ⟨v, he, (show ListAt 2 PairE w' v L2 by rw [← HL2.out, ← hpl]; exact listAt_pairs hr), ho⟩)) rfl
          · obtain rfl := Option.some.inj (ho : some _ = some o)
            have s0 : a.tmps.getD 104 undef = .slice A5 r5 c5 := ht 0 (by omega) (by kernel_rfl)
            have s0c : a.tmps.getD 104 undef = .slice A5 r5 c5 := ht 0 (by omega) (by kernel_rfl)
            obtain ⟨pv3, s3c, h3⟩ : ∃ pv, a.tmps.getD 107 undef = pv ∧ ListAt 2 PairE u pv L2 := ⟨_, rfl, ht 3 (by omega) (by kernel_rfl)⟩
            have hpa := pairs_alike u _ _ L2 L2 (HPE.out.keep (fun x cs => PairE.keep hu x cs) hu) h3 (by omega) HFT2.out
            rw [decide_eq_true rfl] at hpa
            exact left_calls 28 #[.slice A5 r5 c5, pv3] (by simp [go_sem, s0c, s3c]) (hpa.mono (fun e w' ⟨he, ho⟩ => ⟨_, he, rfl, drewN_only ho⟩)) rfl
        · intro V' u hu hV' _
          have v0 : V' 0 = .slice A5 r5 c5 := hV' 0 (by omega)
          have v1 : V' 1 = .pointer (some ⟨s, 0, none⟩) := hV' 1 (by omega)
          have v2 : V' 2 = .int .i64 st := hV' 2 (by omega)
          obtain ⟨pv3, v3, h3⟩ : ∃ pv, V' 3 = pv ∧ ListAt 2 PairE u pv L2 := ⟨_, rfl, hV' 3 (by omega)⟩
          have v4 : V' 4 = .bool true := hV' 4 (by omega)
          change wpListIn _ _ _ _ _ _ (Act.put (Act.put (Act.put (Act.put (Act.put _ (some 104) (V' 0)) (some 105) (V' 1)) (some 106) (V' 2)) (some 107) (V' 3)) (some 108) (V' 4)) _
          rw [v0, v1, v2, v3, v4]
          simp only [Act.put, List.setIfInBounds_toArray, List.set_cons_zero, List.set_cons_succ]
          simp only [List.drop_succ_cons, List.drop_zero]
          clear hV' v0 v1 v2 v3 v4
          have c10 := (HB10.out.only hu (fun h => h)).cellv 0 rfl
          have f10 := (HB10.out.only hu (fun h => h)).free 0
          have HBU := Lib.hid (HB10.out.only hu (fun h => h))
          have HOU := Lib.hid (HOE.out.trans hu)
          have HDU := Lib.hid ((hu.block _ (Array.getElem?_eq_some_iff.1 HDD.out).1 (fun h => h)).trans HDD.out)
          have HEU := Lib.hid ((hu.block _ (Array.getElem?_eq_some_iff.1 HDE.out).1 (fun h => h)).trans HDE.out)
          clear h3 hu
          gi_wp2_with fail
          have hn0 := HN0.out
          have hw0 := HW0.out
          have K6 := HBU.out.put 0 (.bool true)
          have hDa : (u.setCell ⟨w.heap.size + 1 + 1 + 1, 0, none⟩ (.bool true)).heap[Wa.heap.size]? = some (.deferred (some [])) := by
            rw [Below.heap_setCell _ ⟨w.heap.size + 1 + 1 + 1, 0, none⟩ _ Wa.heap.size (by show Wa.heap.size ≠ w.heap.size + 1 + 1 + 1; omega)]
            exact HEU.out
          have hDb : ((u.setCell ⟨w.heap.size + 1 + 1 + 1, 0, none⟩ (.bool true)).putObj Wa.heap.size (.deferred none)).heap[W7.heap.size]? = some (.deferred (some [])) := by
            rw [World.putObj_heap_other (by omega), Below.heap_setCell _ ⟨w.heap.size + 1 + 1 + 1, 0, none⟩ _ W7.heap.size (by show W7.heap.size ≠ w.heap.size + 1 + 1 + 1; omega)]
            exact HDU.out
          have hO10 : Only NoneOf w (u.setCell ⟨w.heap.size + 1 + 1 + 1, 0, none⟩ (.bool true)) := HOU.out.put (.inr (by show w.heap.size ≤ w.heap.size + 1 + 1 + 1; omega)) _
          have hO11 := Only.putObj hO10 (l := Wa.heap.size) (.inr (by omega)) (.deferred none)
          have hO12 := Only.putObj hO11 (l := W7.heap.size) (.inr (by omega)) (.deferred none)
          have hP11 : Only (· = Wa.heap.size) (u.setCell ⟨w.heap.size + 1 + 1 + 1, 0, none⟩ (.bool true)) ((u.setCell ⟨w.heap.size + 1 + 1 + 1, 0, none⟩ (.bool true)).putObj Wa.heap.size (.deferred none)) := Only.putObj (S := (· = Wa.heap.size)) (Only.refl _ _) (.inl rfl) _
          have hP12 : Only (· = W7.heap.size) ((u.setCell ⟨w.heap.size + 1 + 1 + 1, 0, none⟩ (.bool true)).putObj Wa.heap.size (.deferred none)) (((u.setCell ⟨w.heap.size + 1 + 1 + 1, 0, none⟩ (.bool true)).putObj Wa.heap.size (.deferred none)).putObj W7.heap.size (.deferred none)) := Only.putObj (S := (· = W7.heap.size)) (Only.refl _ _) (.inl rfl) _
          have c12' := ((K6.only hP11 (by omega)).only hP12 (by omega)).cellv 0 rfl
          refine ⟨by simp, .inl ⟨_, _, rfl, run_takeDeferred hDa, ?_⟩⟩
          refine ⟨by simp, .inl ⟨_, _, rfl, run_takeDeferred hDb, ?_⟩⟩
          refine ⟨.bool true, ?_, rfl, hO12⟩
          simp [results, Try.results9, go_sem, c12']
    · have q1 : stop < 0 ∨ (nl : Int) ≤ stop := by omega
      have hj : (j : Int) = (nl : Int) := by omega
      rcases q1 with q1 | q1
      · have q2 : decide (0 ≤ stop) = false := decide_eq_false (by omega)
        have q3 : decide (stop < 0) = true := decide_eq_true q1
        have q4 := q3
        gi_wp2_with fail
        clear q1 q2 q3 q4 c14 c8 c12 h1 h2
        obtain ⟨T, Rk, Nk, h5, h6, h7, _⟩ := HWS.out.sto
        have hWA : Only NoneOf wd (wd.alloc (.cells #[.slice none 0 0] 30)) := (Only.refl _ _).alloc _
        have HSK := Lib.hid (h5.other (U' := fun k => k = wd.heap.size) hWA (fun _ h => h.elim) (fun k hk => ⟨by subst hk; simp, .inr (by omega)⟩))
        have K8 := Lib.hid ((HWS.out.cells K7.out HCL.out).only hWA)
        have HB8 := Lib.hid (Blk.new wd 30 #[.slice none 0 0])
        have HOA := Lib.hid ((HO7.out.step HWS.out.only (fun k hk hh => by have := HZ0.out; have := HZ7.out; rcases hh with hh | hh <;> omega)).trans hWA)
        have HDA := Lib.hid ((hWA.block _ (Array.getElem?_eq_some_iff.1 HD.out).1 (fun h => h)).trans HD.out)
        have HDW := Lib.hid (show W7.heap.size < wd.heap.size from (Array.getElem?_eq_some_iff.1 HD.out).1)
        have HDL := Lib.hid (show W7.heap.size < (wd.alloc (.cells #[.slice none 0 0] 30)).heap.size from (Array.getElem?_eq_some_iff.1 HDA.out).1)
        have HBL := Lib.hid HB8.out.lt
        have HW0 := Lib.hid (show w.heap.size + 4 ≤ wd.heap.size by have := HZ0.out; have := HZ7.out; have := HWS.out.only.size; omega)
        have HN0 := Lib.hid (show w.heap.size + 1 + 1 + 1 < W7.heap.size by have := HZ0.out; have := HZ7.out; omega)
        obtain ⟨Wa, hWa⟩ : ∃ Wa, wd.alloc (.cells #[.slice none 0 0] 30) = Wa := ⟨_, rfl⟩
        rw [hWa] at HSK K8 HB8 HOA HDA HDL HBL ⊢
        obtain ⟨L2, hL2⟩ : ∃ L2, scanR Rk ⟨#[]⟩ ⟨#[]⟩ st = L2 := ⟨_, rfl⟩
        have HL2 := Lib.hid hL2
        have hL2b : L2.length ≤ 2513169434843 := by
          have h1 : (scanR Rk ⟨#[]⟩ ⟨#[]⟩ st).length ≤ (keysR Rk).length := List.length_filterMap_le _ _
          have h2 := keysR_length Rk
          have h3 := HSK.out.len
          rw [hL2] at h1
          omega
        have HFT2 : Hid (∀ p ∈ L2, p.2.length ≤ 4611686018427387904) := Lib.hid fun p hp => by
          rw [← hL2] at hp
          obtain ⟨y, hy, e⟩ := found_mem (scan_get hp)
          have := HSK.out.good.bs _ (verR_mem.1 hy)
          rw [← e]
          simp only at this
          omega
        obtain ⟨i0, hi, hz0, hz1, hz3⟩ := info_parts info48
        clear hWA h5 h6 hWa hL2 HWS HD hjn
        refine cut_block ({ tmps := #[.slice A nv cap, .int .i64 st, .int .i64 at_, .int .i64 stop, .slice A3 n cap3, undef, undef, .pointer (some ⟨w.heap.size, 0, none⟩), .pointer (some ⟨w.heap.size + 1, 0, none⟩), .pointer (some ⟨w.heap.size + 1 + 1, 0, none⟩), .pointer (some ⟨w.heap.size + 1 + 1 + 1, 0, none⟩), .pointer (some ⟨w2.heap.size, 0, none⟩), .pointer (some ⟨w4.heap.size, 0, none⟩), .func (.func 56) #[] (scanFn (w4.heap.size + 1)), .pointer (some ⟨w4.heap.size + 1 + 4, 0, none⟩), undef, undef, undef, .pointer (some ⟨wd.heap.size, 0, none⟩), undef, .bool true, .bool false, .slice A nv cap, .pointer (some ⟨s, 0, none⟩), .pointer (some ⟨s, 0, none⟩), .int .i64 st, .slice Aw nl cw, .pointer (some ⟨s, 0, none⟩), .int .i64 st, .func (.func 56) #[] (scanFn (w4.heap.size + 1)), .func (.func 56) #[] (scanFn (w4.heap.size + 1)), .bool false, .func (.func 56) #[] (scanFn (w4.heap.size + 1)), undef, undef, undef, undef, undef, undef, undef, undef, undef, undef, undef, undef, undef, undef, undef, undef, undef, undef, undef, undef, undef, undef, undef, undef, undef, undef, undef, undef, undef, undef, undef, undef, undef, undef, undef, .int .i64 stop, .bool false, .bool false, undef, undef, undef, undef, .bool false, .bool false, undef, undef, undef, undef, .bool false, .bool false, .int .i64 stop, .bool true, .bool true, undef, undef, undef, undef, .bool true, .bool true, .int .i64 (nl : Int), .slice Aw nl cw, .int .i64 (nl : Int), .bool false, .bool false, .bool false, .func (.func 56) #[] (scanFn (w4.heap.size + 1)), undef, undef, undef, undef, undef, undef, undef, undef, undef, undef], defers := [{ target := .collected Wa.heap.size, args := #[] }, { target := .collected W7.heap.size, args := #[] }] }) (fun w' => ∃ E, Wa.heap.size + 2 ≤ E ∧ WI2 Wa wd.heap.size W7.heap.size E L2 w' ∧ w'.heap[Wa.heap.size]? = some (.deferred (some []))) ?range2 ?tail2
        case range2 =>
          refine range_ownM (α := ByteArray × List UInt8) (xs := L2) (Enc := PairEnc) (Kp := NoneOf) (Nat.le_refl 1) rfl (fun _ _ => by kernel_rfl)
            (fun Wn hn _ => by
              have k7 := K8.out.only hn
              have := scanIter Wn (w4.heap.size + 1) s Nk T _ Rk ⟨#[]⟩ ⟨#[]⟩ st (HSK.out.keep hn) (by unfold NMAX; omega) ((k7.get 3 (by rw [← HCS.out]; rfl)).cellv 0 rfl) ((k7.get 2 (by rw [← HCS.out]; rfl)).cellv 0 rfl) ((k7.get 1 (by rw [← HCS.out]; rfl)).cellv 0 rfl) ((k7.get 0 (by rw [← HCS.out]; rfl)).cellv 0 rfl)
              rw [HL2.out] at this
              exact this)
            (fun n x args A h => by obtain ⟨v, rfl, _⟩ := h; rfl) (fun {k} _ hh => hh)
            (WI2 Wa wd.heap.size W7.heap.size) (fun cd E pre B => False)
            (fun E pre A B hs ho => hs.zone HBL.out HDL.out ho) (fun cd E pre A B hs ho => hs)
            (fun E B hE hB ho => ⟨hE, ho.mono (fun _ _ h => h.elim), (ho.block _ HDL.out (fun h => h)).trans HDA.out, _, [], HB8.out.only ho (fun h => h), BRows.nil _ _, rfl, fun k hk => by
              rcases hk with hk | ⟨r, hr, _⟩
              · simp [Value.ownBlock] at hk
              · cases hr⟩)
            (fun m x a' B => Wa.heap.size + 2 ≤ m ∧ ∃ b v, m ≤ b ∧ Blk B b 48 #[.string x.1, v] ∧ RowB B m v x.2 ∧ v.ownBlock ≠ some b ∧ a' = { tmps := #[.slice A nv cap, .int .i64 st, .int .i64 at_, .int .i64 stop, .slice A3 n cap3, undef, undef, .pointer (some ⟨w.heap.size, 0, none⟩), .pointer (some ⟨w.heap.size + 1, 0, none⟩), .pointer (some ⟨w.heap.size + 1 + 1, 0, none⟩), .pointer (some ⟨w.heap.size + 1 + 1 + 1, 0, none⟩), .pointer (some ⟨w2.heap.size, 0, none⟩), .pointer (some ⟨w4.heap.size, 0, none⟩), .func (.func 56) #[] (scanFn (w4.heap.size + 1)), .pointer (some ⟨w4.heap.size + 1 + 4, 0, none⟩), undef, undef, undef, .pointer (some ⟨wd.heap.size, 0, none⟩), .pointer (some ⟨b, 0, none⟩), .bool true, .bool false, .slice A nv cap, .pointer (some ⟨s, 0, none⟩), .pointer (some ⟨s, 0, none⟩), .int .i64 st, .slice Aw nl cw, .pointer (some ⟨s, 0, none⟩), .int .i64 st, .func (.func 56) #[] (scanFn (w4.heap.size + 1)), .func (.func 56) #[] (scanFn (w4.heap.size + 1)), .bool false, .func (.func 56) #[] (scanFn (w4.heap.size + 1)), undef, undef, undef, undef, undef, undef, undef, undef, undef, undef, undef, undef, undef, undef, undef, undef, undef, undef, undef, undef, undef, undef, undef, undef, undef, undef, undef, undef, undef, undef, undef, undef, undef, undef, undef, .int .i64 stop, .bool false, .bool false, undef, undef, undef, undef, .bool false, .bool false, undef, undef, undef, undef, .bool false, .bool false, .int .i64 stop, .bool true, .bool true, undef, undef, undef, undef, .bool true, .bool true, .int .i64 (nl : Int), .slice Aw nl cw, .int .i64 (nl : Int), .bool false, .bool false, .bool false, .func (.func 56) #[] (scanFn (w4.heap.size + 1)), .agg #[.string x.1, v], undef, undef, undef, undef, undef, undef, undef, undef, undef], defers := [] })
            (fun m x a' A B hs ho => by
              obtain ⟨hn, b, v, h1, h2, h3, h4, h5⟩ := hs
              exact ⟨hn, b, v, h1, h2.only ho (by omega), h3.only ho (fun g hg e => by have := (ownsRow_lt h3 hg).1; omega), h4, h5⟩)
            ?assign ?body ?done ?stop
          case assign =>
            rintro ⟨key, bs⟩ args A0 W9 K hx hsz hA0 ⟨v, rfl, hv⟩ hK
            obtain ⟨Av, cv, rfl⟩ := ownsRow_slice hv
            simp only at hv ⊢
            gi_wp2
            exact hK _ _ ((Only.refl _ _).alloc _) ⟨hsz, W9.heap.size, _, hA0.size, Blk.new _ _ _, hv.keep ((Only.refl _ _).alloc _), fun e => by have := (ownsRow_lt hv e).2; omega, rfl⟩
          case body =>
            rintro E pre ⟨key, bs⟩ a' A0 Wb hloop hE hEA hpre ⟨_, hO0, hDD0, v, rs, hV0, hR0, hpl, hg⟩ hoAW ⟨hn, b, vv, hb, hB, hvv, hne, rfl⟩
            have hdl := HDL.out
            have hbl := HBL.out
            have hV := hV0.only hoAW (fun hh => by have := hh.1; omega)
            have hR := hR0.only hoAW (fun k hk hh => by have := hg k hk; have := hh.2; omega)
            have hO : Only (· = wd.heap.size) Wa Wb := hO0.step hoAW (fun k hk hh => by have := hh.1; omega)
            have hDD := (hoAW.block _ (Array.getElem?_eq_some_iff.1 hDD0).1 (fun hh => by have := hh.1; omega)).trans hDD0
            have hlt : ∀ k, PBlocks v rs k → k < A0.heap.size := fun k hk => (hR0.lt hk).2
            have hsz := hoAW.size
            have hpl1 : rs.length + 1 ≤ L2.length := by
              have h1 := hpre.length_le
              have h2 := congrArg List.length hpl
              simp only [List.length_append, List.length_cons, List.length_nil, List.length_map] at h1 h2
              omega
            obtain ⟨Av, cv, rfl⟩ := ownsRow_slice hvv
            obtain ⟨Aq, cq, rfl⟩ := ownsRow_slice hR.own
            simp only at hB hvv
            have V0 := hV.cellv 0 rfl
            have V1 := hV.free 0
            have hVlt := hV.lt
            have b0 : Wb.cell? ⟨b, 0, none⟩ = some (.string key) := hB.cellv 0 rfl
            have b1 : Wb.cell? ⟨b, 1, none⟩ = some (.slice Av bs.length cv) := hB.cellv 1 rfl
            have hbw := World.block_lt_of_cell? _ _ b0
            have HN9 := Lib.hid (Blk.new Wb 48 #[.string key, .slice Av bs.length cv])
            have HRA := Lib.hid (hR.keep ((Only.refl _ Wb).alloc (.cells #[.string key, .slice Av bs.length cv] 48)))
            have HVA := Lib.hid (hV.alloc (.cells #[.string key, .slice Av bs.length cv] 48))
            have HVV := Lib.hid (hvv.keep ((Only.refl _ Wb).alloc (.cells #[.string key, .slice Av bs.length cv] 48)))
            have hnv : (Value.slice Aq rs.length cq).ownBlock ≠ some wd.heap.size := fun e => by have := hg _ (.inl e); omega
            gi_wp2_with (gi_at_builtin; refine wpListIn_append_own_at _ rfl (.tmp 100) (.tmp 102) 30 rfl 0 48 i0 _ 2 40 Try.underlying30 hi hz0 hz1 hz3 rfl (by decide) (.slice Aq rs.length cq) rs.length (rs.flatMap PRow.cells) rfl HRA.out.own ⟨Wb.heap.size, 0, none⟩ 1 1 [.string key, .slice Av bs.length cv] rfl rfl (World.news_of_block HN9.out) (by simp [Value.oneCell']) (by unfold maxLen; omega) (by omega) (by simp) ?_; intro v' w3 hown' hgr _ hat; obtain ⟨g', cap', rfl⟩ := ownsRow_succ hown'; have hV3 := HVA.out.only (only_grown hgr) hnv; have x0 := hV3.cellv 0 rfl; have x1 := hV3.free 0)
            have hsn := BRows.snoc (r := (⟨key, .slice Av bs.length cv, bs⟩ : PRow)) HRA.out (only_grown hgr) hown' hat (HVV.out.base (by omega)) (fun g hg' hb' => by have := (ownsRow_lt HVV.out hg').1; have := hlt g hb'; omega)
            have hvb := fun k hk => bblocks_snoc (val := PRow.val) (v := .slice Aq rs.length cq) (v' := .slice (some ⟨g', 0, none⟩) (rs.length + 1) cap') (rs := rs) (r := (⟨key, .slice Av bs.length cv, bs⟩ : PRow)) (k := k) hat hk
            have hE' : ∀ k, PBlocks (.slice (some ⟨g', 0, none⟩) (rs.length + 1) cap') (rs ++ [⟨key, .slice Av bs.length cv, bs⟩]) k → E ≤ k := fun k hk => by
              rcases hvb k hk with h | h | h
              · exact hg k h
              · have := (ownsRow_lt HVV.out h).1; omega
              · simp at h; omega
            have hput : Only (· = wd.heap.size) w3 (w3.setCell ⟨wd.heap.size, 0, none⟩ (.slice (some ⟨g', 0, none⟩) (rs.length + 1) cap')) := (Only.refl (· = wd.heap.size) w3).put (.inl rfl) _
            have hgr' : Only (fun k => (Value.slice Aq rs.length cq).ownBlock = some k) Wb w3 := Only.step ((Only.refl _ Wb).alloc _) (only_grown hgr) (fun _ _ h => h)
            have fin1 : Only (Theirs Wa.heap.size E NoneOf) Wb (w3.setCell ⟨wd.heap.size, 0, none⟩ (.slice (some ⟨g', 0, none⟩) (rs.length + 1) cap')) := Only.put (hgr'.mono (fun k _ e => .inr (hg k (.inl e)))) (.inl (.inl ⟨hbl, fun h => h⟩)) _
            have fin2 : Only (· = wd.heap.size) Wa (w3.setCell ⟨wd.heap.size, 0, none⟩ (.slice (some ⟨g', 0, none⟩) (rs.length + 1) cap')) := (hO.step hgr' (fun k hk e => by have := hg k (.inl e); omega)).step hput (fun k hk e => e)
            have hWb : W7.heap.size < Wb.heap.size := (Array.getElem?_eq_some_iff.1 hDD).1
            have fin3 : (w3.setCell ⟨wd.heap.size, 0, none⟩ (.slice (some ⟨g', 0, none⟩) (rs.length + 1) cap')).heap[W7.heap.size]? = some (.deferred (some [])) := by
              rw [Below.heap_setCell _ ⟨wd.heap.size, 0, none⟩ _ W7.heap.size (by show W7.heap.size ≠ wd.heap.size; have := HDW.out; omega), hgr'.block _ hWb (fun e => by have := hg _ (.inl e); omega)]
              exact hDD
            exact ⟨fin1, by omega, fin2, fin3, _, _, hV3.put 0 _, hsn.only hput (fun k hk e => by have := hE' k hk; omega), by rw [List.map_append, hpl]; rfl, hE'⟩
          case done =>
            rintro E W9 hE hI hD9
            exact ⟨.inl rfl, rfl, E, hE, hI, hD9⟩
          case stop =>
            rintro E cd pre W9 hE hpre h hD9
            exact h.elim
        case tail2 =>
          rintro we ⟨E, hE, ⟨_, hO, hDD, v5, rs, hV, hR, hpl, hg⟩, hDE⟩
          have hdl := HDL.out
          have hbl := HBL.out
          have hrl : rs.length = L2.length := by rw [← hpl, List.length_map]
          have HPE := listAt_pairs hR
          rw [hpl] at HPE
          obtain ⟨A5, c5, rfl⟩ := ownsRow_slice hR.own
          obtain ⟨r5, hr5⟩ : ∃ r5, rs.length = r5 := ⟨_, rfl⟩
          rw [hr5] at HPE hV
          replace HPE := Lib.hid HPE
          have HBF := Lib.hid hV
          have HSE := Lib.hid (HSK.out.other (U' := NoneOf) hO (fun k hk => hk) (fun _ h => h.elim))
          have HK9 := Lib.hid (K8.out.onlyS hO (fun c hc e => by have := HCL.out c hc; have := HDW.out; have := HZ7.out; omega))
          have HBE := Lib.hid (HK9.out.get 5 (by rw [← HCS.out]; rfl))
          have HB10 := Lib.hid (HK9.out.get 6 (by rw [← HCS.out]; rfl))
          have HOE := Lib.hid (HOA.out.step hO (fun k hk e => by have := HW0.out; omega))
          have HDD := Lib.hid hDD
          have HDE := Lib.hid hDE
          clear hR hpl hg hV hO hDD hDE hrl hr5
          gi_wp2_with fail
          refine wpIn_region_headT 5 109 (T27 (.slice A5 r5 c5) s st L2) (fun _ => false) rfl (by kernel_rfl) (by kernel_rfl) (T27_keep _ _ _ _) (fun _ _ _ h => by cases h) ?_ ?_
          · intro i o hi ho a u hu hs ht
            have e18 : a.tmps.getD 18 undef = .pointer (some ⟨wd.heap.size, 0, none⟩) := hs 18 (of_decide_eq_true (by kernel_rfl))
            have e11 : a.tmps.getD 11 undef = .pointer (some ⟨w2.heap.size, 0, none⟩) := hs 11 (of_decide_eq_true (by kernel_rfl))
            have e1 : a.tmps.getD 1 undef = .int .i64 st := hs 1 (of_decide_eq_true (by kernel_rfl))
            have cF := (HBF.out.only hu (fun h => h)).cellv 0 rfl
            have cE := (HBE.out.only hu (fun h => h)).cellv 0 rfl
            have : i = 0 ∨ i = 1 ∨ i = 2 ∨ i = 3 ∨ i = 4 := by omega
            rcases this with rfl | rfl | rfl | rfl | rfl
            · obtain rfl := Option.some.inj (ho : some _ = some o)
              exact left_value (.slice A5 r5 c5) (by simp [go_sem, e18, cF]) rfl rfl
            · obtain rfl := Option.some.inj (ho : some _ = some o)
              exact left_value (.pointer (some ⟨s, 0, none⟩)) (by simp [go_sem, e11, cE]) rfl rfl
            · obtain rfl := Option.some.inj (ho : some _ = some o)
              exact left_value (.int .i64 st) (by simp [go_sem, e1]) rfl rfl
            · obtain rfl := Option.some.inj (ho : some _ = some o)
              have s1 : a.tmps.getD 105 undef = .pointer (some ⟨s, 0, none⟩) := ht 1 (by omega) (by kernel_rfl)
              have s2 : a.tmps.getD 106 undef = .int .i64 st := ht 2 (by omega) (by kernel_rfl)
              have s1c : a.tmps.getD 105 undef = .pointer (some ⟨s, 0, none⟩) := ht 1 (by omega) (by kernel_rfl)
              have s2c : a.tmps.getD 106 undef = .int .i64 st := ht 2 (by omega) (by kernel_rfl)
              exact left_calls 22 #[.pointer (some ⟨s, 0, none⟩), .string ⟨#[]⟩, .string ⟨#[]⟩, .int .i64 st] (by simp [go_sem, s1c, s2c]) ((scannedR u s Nk T _ Rk (HSE.out.keep hu) (by unfold NMAX; omega) ⟨#[]⟩ ⟨#[]⟩ st).mono (fun e w' ⟨v, rs, he, hr, hpl, ho⟩ => ⟨v, he, (show ListAt 2 PairE w' v L2 by rw [← HL2.out, ← hpl]; exact listAt_pairs hr), ho⟩)) rfl
            · obtain rfl := Option.some.inj (ho : some _ = some o)
              have s0 : a.tmps.getD 104 undef = .slice A5 r5 c5 := ht 0 (by omega) (by kernel_rfl)
              have s0c : a.tmps.getD 104 undef = .slice A5 r5 c5 := ht 0 (by omega) (by kernel_rfl)
              obtain ⟨pv3, s3c, h3⟩ : ∃ pv, a.tmps.getD 107 undef = pv ∧ ListAt 2 PairE u pv L2 := ⟨_, rfl, ht 3 (by omega) (by kernel_rfl)⟩
              have hpa := pairs_alike u _ _ L2 L2 (HPE.out.keep (fun x cs => PairE.keep hu x cs) hu) h3 (by omega) HFT2.out
              rw [decide_eq_true rfl] at hpa
              exact left_calls 28 #[.slice A5 r5 c5, pv3] (by simp [go_sem, s0c, s3c]) (hpa.mono (fun e w' ⟨he, ho⟩ => ⟨_, he, rfl, drewN_only ho⟩)) rfl
          · intro V' u hu hV' _
            have v0 : V' 0 = .slice A5 r5 c5 := hV' 0 (by omega)
            have v1 : V' 1 = .pointer (some ⟨s, 0, none⟩) := hV' 1 (by omega)
            have v2 : V' 2 = .int .i64 st := hV' 2 (by omega)
            obtain ⟨pv3, v3, h3⟩ : ∃ pv, V' 3 = pv ∧ ListAt 2 PairE u pv L2 := ⟨_, rfl, hV' 3 (by omega)⟩
            have v4 : V' 4 = .bool true := hV' 4 (by omega)
            change wpListIn _ _ _ _ _ _ (Act.put (Act.put (Act.put (Act.put (Act.put _ (some 104) (V' 0)) (some 105) (V' 1)) (some 106) (V' 2)) (some 107) (V' 3)) (some 108) (V' 4)) _
            rw [v0, v1, v2, v3, v4]
            simp only [Act.put, List.setIfInBounds_toArray, List.set_cons_zero, List.set_cons_succ]
            simp only [List.drop_succ_cons, List.drop_zero]
            clear hV' v0 v1 v2 v3 v4
            have c10 := (HB10.out.only hu (fun h => h)).cellv 0 rfl
            have f10 := (HB10.out.only hu (fun h => h)).free 0
            have HBU := Lib.hid (HB10.out.only hu (fun h => h))
            have HOU := Lib.hid (HOE.out.trans hu)
            have HDU := Lib.hid ((hu.block _ (Array.getElem?_eq_some_iff.1 HDD.out).1 (fun h => h)).trans HDD.out)
            have HEU := Lib.hid ((hu.block _ (Array.getElem?_eq_some_iff.1 HDE.out).1 (fun h => h)).trans HDE.out)
            clear h3 hu
            gi_wp2_with fail
            have hn0 := HN0.out
            have hw0 := HW0.out
            have K6 := HBU.out.put 0 (.bool true)
            have hDa : (u.setCell ⟨w.heap.size + 1 + 1 + 1, 0, none⟩ (.bool true)).heap[Wa.heap.size]? = some (.deferred (some [])) := by
              rw [Below.heap_setCell _ ⟨w.heap.size + 1 + 1 + 1, 0, none⟩ _ Wa.heap.size (by show Wa.heap.size ≠ w.heap.size + 1 + 1 + 1; omega)]
              exact HEU.out
            have hDb : ((u.setCell ⟨w.heap.size + 1 + 1 + 1, 0, none⟩ (.bool true)).putObj Wa.heap.size (.deferred none)).heap[W7.heap.size]? = some (.deferred (some [])) := by
              rw [World.putObj_heap_other (by omega), Below.heap_setCell _ ⟨w.heap.size + 1 + 1 + 1, 0, none⟩ _ W7.heap.size (by show W7.heap.size ≠ w.heap.size + 1 + 1 + 1; omega)]
              exact HDU.out
            have hO10 : Only NoneOf w (u.setCell ⟨w.heap.size + 1 + 1 + 1, 0, none⟩ (.bool true)) := HOU.out.put (.inr (by show w.heap.size ≤ w.heap.size + 1 + 1 + 1; omega)) _
            have hO11 := Only.putObj hO10 (l := Wa.heap.size) (.inr (by omega)) (.deferred none)
            have hO12 := Only.putObj hO11 (l := W7.heap.size) (.inr (by omega)) (.deferred none)
            have hP11 : Only (· = Wa.heap.size) (u.setCell ⟨w.heap.size + 1 + 1 + 1, 0, none⟩ (.bool true)) ((u.setCell ⟨w.heap.size + 1 + 1 + 1, 0, none⟩ (.bool true)).putObj Wa.heap.size (.deferred none)) := Only.putObj (S := (· = Wa.heap.size)) (Only.refl _ _) (.inl rfl) _
            have hP12 : Only (· = W7.heap.size) ((u.setCell ⟨w.heap.size + 1 + 1 + 1, 0, none⟩ (.bool true)).putObj Wa.heap.size (.deferred none)) (((u.setCell ⟨w.heap.size + 1 + 1 + 1, 0, none⟩ (.bool true)).putObj Wa.heap.size (.deferred none)).putObj W7.heap.size (.deferred none)) := Only.putObj (S := (· = W7.heap.size)) (Only.refl _ _) (.inl rfl) _
            have c12' := ((K6.only hP11 (by omega)).only hP12 (by omega)).cellv 0 rfl
            refine ⟨by simp, .inl ⟨_, _, rfl, run_takeDeferred hDa, ?_⟩⟩
            refine ⟨by simp, .inl ⟨_, _, rfl, run_takeDeferred hDb, ?_⟩⟩
            refine ⟨.bool true, ?_, rfl, hO12⟩
            simp [results, Try.results9, go_sem, c12']
      · have q1' : decide (0 ≤ stop) = true := decide_eq_true (by omega)
        have q2 : decide (stop < (nl : Int)) = false := decide_eq_false (by omega)
        have q3 : decide (stop < 0) = false := decide_eq_false (by omega)
        have q4 : decide ((nl : Int) ≤ stop) = true := decide_eq_true q1
        gi_wp2_with fail
        clear q1 q2 q3 q4 c14 c8 c12 h1 h2
        obtain ⟨T, Rk, Nk, h5, h6, h7, _⟩ := HWS.out.sto
        have hWA : Only NoneOf wd (wd.alloc (.cells #[.slice none 0 0] 30)) := (Only.refl _ _).alloc _
        have HSK := Lib.hid (h5.other (U' := fun k => k = wd.heap.size) hWA (fun _ h => h.elim) (fun k hk => ⟨by subst hk; simp, .inr (by omega)⟩))
        have K8 := Lib.hid ((HWS.out.cells K7.out HCL.out).only hWA)
        have HB8 := Lib.hid (Blk.new wd 30 #[.slice none 0 0])
        have HOA := Lib.hid ((HO7.out.step HWS.out.only (fun k hk hh => by have := HZ0.out; have := HZ7.out; rcases hh with hh | hh <;> omega)).trans hWA)
        have HDA := Lib.hid ((hWA.block _ (Array.getElem?_eq_some_iff.1 HD.out).1 (fun h => h)).trans HD.out)
        have HDW := Lib.hid (show W7.heap.size < wd.heap.size from (Array.getElem?_eq_some_iff.1 HD.out).1)
        have HDL := Lib.hid (show W7.heap.size < (wd.alloc (.cells #[.slice none 0 0] 30)).heap.size from (Array.getElem?_eq_some_iff.1 HDA.out).1)
        have HBL := Lib.hid HB8.out.lt
        have HW0 := Lib.hid (show w.heap.size + 4 ≤ wd.heap.size by have := HZ0.out; have := HZ7.out; have := HWS.out.only.size; omega)
        have HN0 := Lib.hid (show w.heap.size + 1 + 1 + 1 < W7.heap.size by have := HZ0.out; have := HZ7.out; omega)
        obtain ⟨Wa, hWa⟩ : ∃ Wa, wd.alloc (.cells #[.slice none 0 0] 30) = Wa := ⟨_, rfl⟩
        rw [hWa] at HSK K8 HB8 HOA HDA HDL HBL ⊢
        obtain ⟨L2, hL2⟩ : ∃ L2, scanR Rk ⟨#[]⟩ ⟨#[]⟩ st = L2 := ⟨_, rfl⟩
        have HL2 := Lib.hid hL2
        have hL2b : L2.length ≤ 2513169434843 := by
          have h1 : (scanR Rk ⟨#[]⟩ ⟨#[]⟩ st).length ≤ (keysR Rk).length := List.length_filterMap_le _ _
          have h2 := keysR_length Rk
          have h3 := HSK.out.len
          rw [hL2] at h1
          omega
        have HFT2 : Hid (∀ p ∈ L2, p.2.length ≤ 4611686018427387904) := Lib.hid fun p hp => by
          rw [← hL2] at hp
          obtain ⟨y, hy, e⟩ := found_mem (scan_get hp)
          have := HSK.out.good.bs _ (verR_mem.1 hy)
          rw [← e]
          simp only at this
          omega
        obtain ⟨i0, hi, hz0, hz1, hz3⟩ := info_parts info48
        clear hWA h5 h6 hWa hL2 HWS HD hjn
        refine cut_block ({ tmps := #[.slice A nv cap, .int .i64 st, .int .i64 at_, .int .i64 stop, .slice A3 n cap3, undef, undef, .pointer (some ⟨w.heap.size, 0, none⟩), .pointer (some ⟨w.heap.size + 1, 0, none⟩), .pointer (some ⟨w.heap.size + 1 + 1, 0, none⟩), .pointer (some ⟨w.heap.size + 1 + 1 + 1, 0, none⟩), .pointer (some ⟨w2.heap.size, 0, none⟩), .pointer (some ⟨w4.heap.size, 0, none⟩), .func (.func 56) #[] (scanFn (w4.heap.size + 1)), .pointer (some ⟨w4.heap.size + 1 + 4, 0, none⟩), undef, undef, undef, .pointer (some ⟨wd.heap.size, 0, none⟩), undef, .bool true, .bool false, .slice A nv cap, .pointer (some ⟨s, 0, none⟩), .pointer (some ⟨s, 0, none⟩), .int .i64 st, .slice Aw nl cw, .pointer (some ⟨s, 0, none⟩), .int .i64 st, .func (.func 56) #[] (scanFn (w4.heap.size + 1)), .func (.func 56) #[] (scanFn (w4.heap.size + 1)), .bool false, .func (.func 56) #[] (scanFn (w4.heap.size + 1)), undef, undef, undef, undef, undef, undef, undef, undef, undef, undef, undef, undef, undef, undef, undef, undef, undef, undef, undef, undef, undef, undef, undef, undef, undef, undef, undef, undef, undef, undef, undef, undef, undef, undef, undef, .int .i64 stop, .bool true, .bool true, .int .i64 stop, .slice Aw nl cw, .int .i64 (nl : Int), .bool false, .bool false, .bool false, undef, undef, undef, undef, .bool false, .bool false, .int .i64 stop, .bool false, .bool false, .int .i64 stop, .slice Aw nl cw, .int .i64 (nl : Int), .bool true, .bool true, .bool true, .int .i64 (nl : Int), .slice Aw nl cw, .int .i64 (nl : Int), .bool false, .bool false, .bool false, .func (.func 56) #[] (scanFn (w4.heap.size + 1)), undef, undef, undef, undef, undef, undef, undef, undef, undef, undef], defers := [{ target := .collected Wa.heap.size, args := #[] }, { target := .collected W7.heap.size, args := #[] }] }) (fun w' => ∃ E, Wa.heap.size + 2 ≤ E ∧ WI2 Wa wd.heap.size W7.heap.size E L2 w' ∧ w'.heap[Wa.heap.size]? = some (.deferred (some []))) ?range2 ?tail2
        case range2 =>
          refine range_ownM (α := ByteArray × List UInt8) (xs := L2) (Enc := PairEnc) (Kp := NoneOf) (Nat.le_refl 1) rfl (fun _ _ => by kernel_rfl)
            (fun Wn hn _ => by
              have k7 := K8.out.only hn
              have := scanIter Wn (w4.heap.size + 1) s Nk T _ Rk ⟨#[]⟩ ⟨#[]⟩ st (HSK.out.keep hn) (by unfold NMAX; omega) ((k7.get 3 (by rw [← HCS.out]; rfl)).cellv 0 rfl) ((k7.get 2 (by rw [← HCS.out]; rfl)).cellv 0 rfl) ((k7.get 1 (by rw [← HCS.out]; rfl)).cellv 0 rfl) ((k7.get 0 (by rw [← HCS.out]; rfl)).cellv 0 rfl)
              rw [HL2.out] at this
              exact this)
            (fun n x args A h => by obtain ⟨v, rfl, _⟩ := h; rfl) (fun {k} _ hh => hh)
            (WI2 Wa wd.heap.size W7.heap.size) (fun cd E pre B => False)
            (fun E pre A B hs ho => hs.zone HBL.out HDL.out ho) (fun cd E pre A B hs ho => hs)
            (fun E B hE hB ho => ⟨hE, ho.mono (fun _ _ h => h.elim), (ho.block _ HDL.out (fun h => h)).trans HDA.out, _, [], HB8.out.only ho (fun h => h), BRows.nil _ _, rfl, fun k hk => by
              rcases hk with hk | ⟨r, hr, _⟩
              · simp [Value.ownBlock] at hk
              · cases hr⟩)
            (fun m x a' B => Wa.heap.size + 2 ≤ m ∧ ∃ b v, m ≤ b ∧ Blk B b 48 #[.string x.1, v] ∧ RowB B m v x.2 ∧ v.ownBlock ≠ some b ∧ a' = { tmps := #[.slice A nv cap, .int .i64 st, .int .i64 at_, .int .i64 stop, .slice A3 n cap3, undef, undef, .pointer (some ⟨w.heap.size, 0, none⟩), .pointer (some ⟨w.heap.size + 1, 0, none⟩), .pointer (some ⟨w.heap.size + 1 + 1, 0, none⟩), .pointer (some ⟨w.heap.size + 1 + 1 + 1, 0, none⟩), .pointer (some ⟨w2.heap.size, 0, none⟩), .pointer (some ⟨w4.heap.size, 0, none⟩), .func (.func 56) #[] (scanFn (w4.heap.size + 1)), .pointer (some ⟨w4.heap.size + 1 + 4, 0, none⟩), undef, undef, undef, .pointer (some ⟨wd.heap.size, 0, none⟩), .pointer (some ⟨b, 0, none⟩), .bool true, .bool false, .slice A nv cap, .pointer (some ⟨s, 0, none⟩), .pointer (some ⟨s, 0, none⟩), .int .i64 st, .slice Aw nl cw, .pointer (some ⟨s, 0, none⟩), .int .i64 st, .func (.func 56) #[] (scanFn (w4.heap.size + 1)), .func (.func 56) #[] (scanFn (w4.heap.size + 1)), .bool false, .func (.func 56) #[] (scanFn (w4.heap.size + 1)), undef, undef, undef, undef, undef, undef, undef, undef, undef, undef, undef, undef, undef, undef, undef, undef, undef, undef, undef, undef, undef, undef, undef, undef, undef, undef, undef, undef, undef, undef, undef, undef, undef, undef, undef, .int .i64 stop, .bool true, .bool true, .int .i64 stop, .slice Aw nl cw, .int .i64 (nl : Int), .bool false, .bool false, .bool false, undef, undef, undef, undef, .bool false, .bool false, .int .i64 stop, .bool false, .bool false, .int .i64 stop, .slice Aw nl cw, .int .i64 (nl : Int), .bool true, .bool true, .bool true, .int .i64 (nl : Int), .slice Aw nl cw, .int .i64 (nl : Int), .bool false, .bool false, .bool false, .func (.func 56) #[] (scanFn (w4.heap.size + 1)), .agg #[.string x.1, v], undef, undef, undef, undef, undef, undef, undef, undef, undef], defers := [] })
            (fun m x a' A B hs ho => by
              obtain ⟨hn, b, v, h1, h2, h3, h4, h5⟩ := hs
              exact ⟨hn, b, v, h1, h2.only ho (by omega), h3.only ho (fun g hg e => by have := (ownsRow_lt h3 hg).1; omega), h4, h5⟩)
            ?assign ?body ?done ?stop
          case assign =>
            rintro ⟨key, bs⟩ args A0 W9 K hx hsz hA0 ⟨v, rfl, hv⟩ hK
            obtain ⟨Av, cv, rfl⟩ := ownsRow_slice hv
            simp only at hv ⊢
            gi_wp2
            exact hK _ _ ((Only.refl _ _).alloc _) ⟨hsz, W9.heap.size, _, hA0.size, Blk.new _ _ _, hv.keep ((Only.refl _ _).alloc _), fun e => by have := (ownsRow_lt hv e).2; omega, rfl⟩
          case body =>
            rintro E pre ⟨key, bs⟩ a' A0 Wb hloop hE hEA hpre ⟨_, hO0, hDD0, v, rs, hV0, hR0, hpl, hg⟩ hoAW ⟨hn, b, vv, hb, hB, hvv, hne, rfl⟩
            have hdl := HDL.out
            have hbl := HBL.out
            have hV := hV0.only hoAW (fun hh => by have := hh.1; omega)
            have hR := hR0.only hoAW (fun k hk hh => by have := hg k hk; have := hh.2; omega)
            have hO : Only (· = wd.heap.size) Wa Wb := hO0.step hoAW (fun k hk hh => by have := hh.1; omega)
            have hDD := (hoAW.block _ (Array.getElem?_eq_some_iff.1 hDD0).1 (fun hh => by have := hh.1; omega)).trans hDD0
            have hlt : ∀ k, PBlocks v rs k → k < A0.heap.size := fun k hk => (hR0.lt hk).2
            have hsz := hoAW.size
            have hpl1 : rs.length + 1 ≤ L2.length := by
              have h1 := hpre.length_le
              have h2 := congrArg List.length hpl
              simp only [List.length_append, List.length_cons, List.length_nil, List.length_map] at h1 h2
              omega
            obtain ⟨Av, cv, rfl⟩ := ownsRow_slice hvv
            obtain ⟨Aq, cq, rfl⟩ := ownsRow_slice hR.own
            simp only at hB hvv
            have V0 := hV.cellv 0 rfl
            have V1 := hV.free 0
            have hVlt := hV.lt
            have b0 : Wb.cell? ⟨b, 0, none⟩ = some (.string key) := hB.cellv 0 rfl
            have b1 : Wb.cell? ⟨b, 1, none⟩ = some (.slice Av bs.length cv) := hB.cellv 1 rfl
            have hbw := World.block_lt_of_cell? _ _ b0
            have HN9 := Lib.hid (Blk.new Wb 48 #[.string key, .slice Av bs.length cv])
            have HRA := Lib.hid (hR.keep ((Only.refl _ Wb).alloc (.cells #[.string key, .slice Av bs.length cv] 48)))
            have HVA := Lib.hid (hV.alloc (.cells #[.string key, .slice Av bs.length cv] 48))
            have HVV := Lib.hid (hvv.keep ((Only.refl _ Wb).alloc (.cells #[.string key, .slice Av bs.length cv] 48)))
            have hnv : (Value.slice Aq rs.length cq).ownBlock ≠ some wd.heap.size := fun e => by have := hg _ (.inl e); omega
            gi_wp2_with (gi_at_builtin; refine wpListIn_append_own_at _ rfl (.tmp 100) (.tmp 102) 30 rfl 0 48 i0 _ 2 40 Try.underlying30 hi hz0 hz1 hz3 rfl (by decide) (.slice Aq rs.length cq) rs.length (rs.flatMap PRow.cells) rfl HRA.out.own ⟨Wb.heap.size, 0, none⟩ 1 1 [.string key, .slice Av bs.length cv] rfl rfl (World.news_of_block HN9.out) (by simp [Value.oneCell']) (by unfold maxLen; omega) (by omega) (by simp) ?_; intro v' w3 hown' hgr _ hat; obtain ⟨g', cap', rfl⟩ := ownsRow_succ hown'; have hV3 := HVA.out.only (only_grown hgr) hnv; have x0 := hV3.cellv 0 rfl; have x1 := hV3.free 0)
            have hsn := BRows.snoc (r := (⟨key, .slice Av bs.length cv, bs⟩ : PRow)) HRA.out (only_grown hgr) hown' hat (HVV.out.base (by omega)) (fun g hg' hb' => by have := (ownsRow_lt HVV.out hg').1; have := hlt g hb'; omega)
            have hvb := fun k hk => bblocks_snoc (val := PRow.val) (v := .slice Aq rs.length cq) (v' := .slice (some ⟨g', 0, none⟩) (rs.length + 1) cap') (rs := rs) (r := (⟨key, .slice Av bs.length cv, bs⟩ : PRow)) (k := k) hat hk
            have hE' : ∀ k, PBlocks (.slice (some ⟨g', 0, none⟩) (rs.length + 1) cap') (rs ++ [⟨key, .slice Av bs.length cv, bs⟩]) k → E ≤ k := fun k hk => by
              rcases hvb k hk with h | h | h
              · exact hg k h
              · have := (ownsRow_lt HVV.out h).1; omega
              · simp at h; omega
            have hput : Only (· = wd.heap.size) w3 (w3.setCell ⟨wd.heap.size, 0, none⟩ (.slice (some ⟨g', 0, none⟩) (rs.length + 1) cap')) := (Only.refl (· = wd.heap.size) w3).put (.inl rfl) _
            have hgr' : Only (fun k => (Value.slice Aq rs.length cq).ownBlock = some k) Wb w3 := Only.step ((Only.refl _ Wb).alloc _) (only_grown hgr) (fun _ _ h => h)
            have fin1 : Only (Theirs Wa.heap.size E NoneOf) Wb (w3.setCell ⟨wd.heap.size, 0, none⟩ (.slice (some ⟨g', 0, none⟩) (rs.length + 1) cap')) := Only.put (hgr'.mono (fun k _ e => .inr (hg k (.inl e)))) (.inl (.inl ⟨hbl, fun h => h⟩)) _
            have fin2 : Only (· = wd.heap.size) Wa (w3.setCell ⟨wd.heap.size, 0, none⟩ (.slice (some ⟨g', 0, none⟩) (rs.length + 1) cap')) := (hO.step hgr' (fun k hk e => by have := hg k (.inl e); omega)).step hput (fun k hk e => e)
            have hWb : W7.heap.size < Wb.heap.size := (Array.getElem?_eq_some_iff.1 hDD).1
            have fin3 : (w3.setCell ⟨wd.heap.size, 0, none⟩ (.slice (some ⟨g', 0, none⟩) (rs.length + 1) cap')).heap[W7.heap.size]? = some (.deferred (some [])) := by
              rw [Below.heap_setCell _ ⟨wd.heap.size, 0, none⟩ _ W7.heap.size (by show W7.heap.size ≠ wd.heap.size; have := HDW.out; omega), hgr'.block _ hWb (fun e => by have := hg _ (.inl e); omega)]
              exact hDD
            exact ⟨fin1, by omega, fin2, fin3, _, _, hV3.put 0 _, hsn.only hput (fun k hk e => by have := hE' k hk; omega), by rw [List.map_append, hpl]; rfl, hE'⟩
          case done =>
            rintro E W9 hE hI hD9
            exact ⟨.inl rfl, rfl, E, hE, hI, hD9⟩
          case stop =>
            rintro E cd pre W9 hE hpre h hD9
            exact h.elim
        case tail2 =>
          rintro we ⟨E, hE, ⟨_, hO, hDD, v5, rs, hV, hR, hpl, hg⟩, hDE⟩
          have hdl := HDL.out
          have hbl := HBL.out
          have hrl : rs.length = L2.length := by rw [← hpl, List.length_map]
          have HPE := listAt_pairs hR
          rw [hpl] at HPE
          obtain ⟨A5, c5, rfl⟩ := ownsRow_slice hR.own
          obtain ⟨r5, hr5⟩ : ∃ r5, rs.length = r5 := ⟨_, rfl⟩
          rw [hr5] at HPE hV
          replace HPE := Lib.hid HPE
          have HBF := Lib.hid hV
          have HSE := Lib.hid (HSK.out.other (U' := NoneOf) hO (fun k hk => hk) (fun _ h => h.elim))
          have HK9 := Lib.hid (K8.out.onlyS hO (fun c hc e => by have := HCL.out c hc; have := HDW.out; have := HZ7.out; omega))
          have HBE := Lib.hid (HK9.out.get 5 (by rw [← HCS.out]; rfl))
          have HB10 := Lib.hid (HK9.out.get 6 (by rw [← HCS.out]; rfl))
          have HOE := Lib.hid (HOA.out.step hO (fun k hk e => by have := HW0.out; omega))
          have HDD := Lib.hid hDD
          have HDE := Lib.hid hDE
          clear hR hpl hg hV hO hDD hDE hrl hr5
          gi_wp2_with fail
          refine wpIn_region_headT 5 109 (T27 (.slice A5 r5 c5) s st L2) (fun _ => false) rfl (by kernel_rfl) (by kernel_rfl) (T27_keep _ _ _ _) (fun _ _ _ h => by cases h) ?_ ?_
          · intro i o hi ho a u hu hs ht
            have e18 : a.tmps.getD 18 undef = .pointer (some ⟨wd.heap.size, 0, none⟩) := hs 18 (of_decide_eq_true (by kernel_rfl))
            have e11 : a.tmps.getD 11 undef = .pointer (some ⟨w2.heap.size, 0, none⟩) := hs 11 (of_decide_eq_true (by kernel_rfl))
            have e1 : a.tmps.getD 1 undef = .int .i64 st := hs 1 (of_decide_eq_true (by kernel_rfl))
            have cF := (HBF.out.only hu (fun h => h)).cellv 0 rfl
            have cE := (HBE.out.only hu (fun h => h)).cellv 0 rfl
            have : i = 0 ∨ i = 1 ∨ i = 2 ∨ i = 3 ∨ i = 4 := by omega
            rcases this with rfl | rfl | rfl | rfl | rfl
            · obtain rfl := Option.some.inj (ho : some _ = some o)
              exact left_value (.slice A5 r5 c5) (by simp [go_sem, e18, cF]) rfl rfl
            · obtain rfl := Option.some.inj (ho : some _ = some o)
              exact left_value (.pointer (some ⟨s, 0, none⟩)) (by simp [go_sem, e11, cE]) rfl rfl
            · obtain rfl := Option.some.inj (ho : some _ = some o)
              exact left_value (.int .i64 st) (by simp [go_sem, e1]) rfl rfl
            · obtain rfl := Option.some.inj (ho : some _ = some o)
              have s1 : a.tmps.getD 105 undef = .pointer (some ⟨s, 0, none⟩) := ht 1 (by omega) (by kernel_rfl)
              have s2 : a.tmps.getD 106 undef = .int .i64 st := ht 2 (by omega) (by kernel_rfl)
              have s1c : a.tmps.getD 105 undef = .pointer (some ⟨s, 0, none⟩) := ht 1 (by omega) (by kernel_rfl)
              have s2c : a.tmps.getD 106 undef = .int .i64 st := ht 2 (by omega) (by kernel_rfl)
              exact left_calls 22 #[.pointer (some ⟨s, 0, none⟩), .string ⟨#[]⟩, .string ⟨#[]⟩, .int .i64 st] (by simp [go_sem, s1c, s2c]) ((scannedR u s Nk T _ Rk (HSE.out.keep hu) (by unfold NMAX; omega) ⟨#[]⟩ ⟨#[]⟩ st).mono (fun e w' ⟨v, rs, he, hr, hpl, ho⟩ => ⟨v, he, (show ListAt 2 PairE w' v L2 by rw [← HL2.out, ← hpl]; exact listAt_pairs hr), ho⟩)) rfl
            · obtain rfl := Option.some.inj (ho : some _ = some o)
              have s0 : a.tmps.getD 104 undef = .slice A5 r5 c5 := ht 0 (by omega) (by kernel_rfl)
              have s0c : a.tmps.getD 104 undef = .slice A5 r5 c5 := ht 0 (by omega) (by kernel_rfl)
              obtain ⟨pv3, s3c, h3⟩ : ∃ pv, a.tmps.getD 107 undef = pv ∧ ListAt 2 PairE u pv L2 := ⟨_, rfl, ht 3 (by omega) (by kernel_rfl)⟩
              have hpa := pairs_alike u _ _ L2 L2 (HPE.out.keep (fun x cs => PairE.keep hu x cs) hu) h3 (by omega) HFT2.out
              rw [decide_eq_true rfl] at hpa
              exact left_calls 28 #[.slice A5 r5 c5, pv3] (by simp [go_sem, s0c, s3c]) (hpa.mono (fun e w' ⟨he, ho⟩ => ⟨_, he, rfl, drewN_only ho⟩)) rfl
          · intro V' u hu hV' _
            have v0 : V' 0 = .slice A5 r5 c5 := hV' 0 (by omega)
            have v1 : V' 1 = .pointer (some ⟨s, 0, none⟩) := hV' 1 (by omega)
            have v2 : V' 2 = .int .i64 st := hV' 2 (by omega)
            obtain ⟨pv3, v3, h3⟩ : ∃ pv, V' 3 = pv ∧ ListAt 2 PairE u pv L2 := ⟨_, rfl, hV' 3 (by omega)⟩
            have v4 : V' 4 = .bool true := hV' 4 (by omega)
            change wpListIn _ _ _ _ _ _ (Act.put (Act.put (Act.put (Act.put (Act.put _ (some 104) (V' 0)) (some 105) (V' 1)) (some 106) (V' 2)) (some 107) (V' 3)) (some 108) (V' 4)) _
            rw [v0, v1, v2, v3, v4]
            simp only [Act.put, List.setIfInBounds_toArray, List.set_cons_zero, List.set_cons_succ]
            simp only [List.drop_succ_cons, List.drop_zero]
            clear hV' v0 v1 v2 v3 v4
            have c10 := (HB10.out.only hu (fun h => h)).cellv 0 rfl
            have f10 := (HB10.out.only hu (fun h => h)).free 0
            have HBU := Lib.hid (HB10.out.only hu (fun h => h))
            have HOU := Lib.hid (HOE.out.trans hu)
            have HDU := Lib.hid ((hu.block _ (Array.getElem?_eq_some_iff.1 HDD.out).1 (fun h => h)).trans HDD.out)
            have HEU := Lib.hid ((hu.block _ (Array.getElem?_eq_some_iff.1 HDE.out).1 (fun h => h)).trans HDE.out)
            clear h3 hu
            gi_wp2_with fail
            have hn0 := HN0.out
            have hw0 := HW0.out
            have K6 := HBU.out.put 0 (.bool true)
            have hDa : (u.setCell ⟨w.heap.size + 1 + 1 + 1, 0, none⟩ (.bool true)).heap[Wa.heap.size]? = some (.deferred (some [])) := by
              rw [Below.heap_setCell _ ⟨w.heap.size + 1 + 1 + 1, 0, none⟩ _ Wa.heap.size (by show Wa.heap.size ≠ w.heap.size + 1 + 1 + 1; omega)]
              exact HEU.out
            have hDb : ((u.setCell ⟨w.heap.size + 1 + 1 + 1, 0, none⟩ (.bool true)).putObj Wa.heap.size (.deferred none)).heap[W7.heap.size]? = some (.deferred (some [])) := by
              rw [World.putObj_heap_other (by omega), Below.heap_setCell _ ⟨w.heap.size + 1 + 1 + 1, 0, none⟩ _ W7.heap.size (by show W7.heap.size ≠ w.heap.size + 1 + 1 + 1; omega)]
              exact HDU.out
            have hO10 : Only NoneOf w (u.setCell ⟨w.heap.size + 1 + 1 + 1, 0, none⟩ (.bool true)) := HOU.out.put (.inr (by show w.heap.size ≤ w.heap.size + 1 + 1 + 1; omega)) _
            have hO11 := Only.putObj hO10 (l := Wa.heap.size) (.inr (by omega)) (.deferred none)
            have hO12 := Only.putObj hO11 (l := W7.heap.size) (.inr (by omega)) (.deferred none)
            have hP11 : Only (· = Wa.heap.size) (u.setCell ⟨w.heap.size + 1 + 1 + 1, 0, none⟩ (.bool true)) ((u.setCell ⟨w.heap.size + 1 + 1 + 1, 0, none⟩ (.bool true)).putObj Wa.heap.size (.deferred none)) := Only.putObj (S := (· = Wa.heap.size)) (Only.refl _ _) (.inl rfl) _
            have hP12 : Only (· = W7.heap.size) ((u.setCell ⟨w.heap.size + 1 + 1 + 1, 0, none⟩ (.bool true)).putObj Wa.heap.size (.deferred none)) (((u.setCell ⟨w.heap.size + 1 + 1 + 1, 0, none⟩ (.bool true)).putObj Wa.heap.size (.deferred none)).putObj W7.heap.size (.deferred none)) := Only.putObj (S := (· = W7.heap.size)) (Only.refl _ _) (.inl rfl) _
            have c12' := ((K6.only hP11 (by omega)).only hP12 (by omega)).cellv 0 rfl
            refine ⟨by simp, .inl ⟨_, _, rfl, run_takeDeferred hDa, ?_⟩⟩
            refine ⟨by simp, .inl ⟨_, _, rfl, run_takeDeferred hDb, ?_⟩⟩
            refine ⟨.bool true, ?_, rfl, hO12⟩
            simp [results, Try.results9, go_sem, c12']

end Go.Proofs.Ytnonnencdhogiaa
